/- Texts of mine, merged (wip/tool/mergep.py): KCat2, KCat3, KCat4, KCat5, KCat6, KCat7, KCat8, KRef24, KBlob2, KBlob3, BlobL, KPut1, KPut2, KPut3, KPut4, KPut5, KGet1, KGet2, KGet3, KGet4, KGet5, KCopy, GoodE, KSt, L, L2, CatN, KCell, KSchema3, KRChk, KRefB, KSchema4. -/
import Derived.Test.YtplgodmmmppmeaaGreatM4
import Derived.Test.YtplgodmmmppmeaaGreatM3
import Derived.Test.YtplgodmmmppmeaaGreatM5
import Derived.Test.YtplgodmmmppmeaaGreatM1
import Derived.Test.YtplgodmmmppmeaaGreatChecked
open Go.IntKind (wrap)
open Go.Proofs.Tryz (prog)
open List (mem_cons_self mem_cons_of_mem mem_cons length_cons map_map mem_append mem_append_left drop_drop mem_range mem_of_getElem? getElem_mem mem_iff_getElem map_cons mem_map append_assoc nodup_cons foldl_cons length_nil append_nil length_map length_set eq_nil_of_length_eq_zero range_succ map_congr_left length_append drop_of_length_le take_of_length_le getD_eq_getElem?_getD drop_eq_getElem_cons mem_singleton not_mem_nil take_succ_eq_append_getElem all_eq_true flatMap_cons length_take length_drop take_add_one length_replicate take_left' drop_left' length_singleton map_append length_range getElem_range flatMap_append)
set_option linter.unusedVariables false
set_option linter.unusedSimpArgs false
namespace Go.Proofs.YtplgodmmmppmeaaGreat
/- Contracts of the package catalog:Check. -/
namespace V
open Go Go.Proofs Go.RowKit Crc
variable {w:World}
theorem zgr {x:SLC} {l:List Snp} (h:Sli yM w x.1 x.2.1 l):Calls prog 59 #[.slice x.1 x.2.1 x.2.2,.func (.func 60) #[] #[]] w (Ret fun v w'=>v=.bool (yv (fun e:Snp=>e.1) l)/\Ext w w'):=by
 have hl:=h.len;have hle:=h.le;apply zoC;unfold S59;refine zu (fun q w'=>∃ i:Nat,i<=l.length/\q=((i:Int),())/\Ext w w'/\(∀ e∈l.take i,yz (B e.1)=0)/\yO (fun e:Snp=>e.1) (l.take i)=true) (fun q=>(l.length-q.1).toNat) ⟨0,by omega,rfl,Ext.refl w,by simp,rfl⟩ ?_;rintro _ w1 ⟨i,hi,rfl,he1,hn,hr⟩;dsimp only
 by_cases hlt:i<l.length
 ·refine zf (decide_eq_true (by omega)) ?_;refine vM (E:=yM) zcB zL (h.ext he1) (fun _=>rfl) rfl (by omega) (by omega) ?_;rw[Int.toNat_natCast];have eg:l[i]?=some (l.getD i zL):=by rw[getD_eq_getElem?_getD,List.getElem?_eq_getElem hlt];rfl
  have hmem:=mem_of_getElem? eg;have htk:l.take (i+1)=l.take i++[l.getD i zL]:=by rw[take_succ_eq_append_getElem hlt,getD_eq_getElem?_getD,List.getElem?_eq_getElem hlt];rfl
  refine yt (vs:=yM.f (l.getD i zL)) (by rfl) (yM.one _) (fun r5 w2 hb2 he2 hr2=>?_) (by rfl);refine zK fun w3 he3 hz3 hh3=>?_;have hb3:=hb2.ext he3;refine zR (ls:=zeT) (zcB (l.getD i zL)) hb3 (by rfl) ?_;refine qf (by kernel_rfl) ?_;refine zb zaJ ?_;rintro _ w4 ⟨rfl,he4⟩;refine⟨_,rfl,?_⟩;refine zb (zbp w4 _) ?_;rintro _ w5 ⟨rfl,he5⟩;refine⟨_,rfl,?_⟩;have he35:=he4.trans he5;have he05:=((he1.trans he2).trans he3).trans he35;refine zg (fun hq=>?_) (fun hq=>?_)
  ·have hq:=bne_iff_ne.1 hq;exact⟨by rw[zcC hmem hq],he05⟩
  have hq:=bne_eq_false_iff_eq.1 hq;have hn':∀ e∈l.take (i+1),yz (B e.1)=0:=fun e he=>by
   rw[htk]at he;rcases mem_append.1 he with e1|e1
   ·exact hn e e1
   ·rw[mem_singleton.1 e1];exact hq
  have hw:wrap .i64 ((i:Int)+1)=((i+1:Nat):Int):=by rw[wrap_i64 (by omega) (by omega)];rfl
  rw[hw]
  by_cases h0:i=0
  ·subst h0;refine zd (by rfl) ?_;refine⟨⟨1,by omega,rfl,he05,hn',?_⟩,by omega⟩;rw[htk];rfl
  ·refine zf (decide_eq_true (by omega)) ?_;rw[show wrap .i64 ((i:Int)-1)=((i-1:Nat):Int) by rw[wrap_i64 (by omega) (by omega)];omega];refine vM (E:=yM) zcB zL (h.ext he05) (fun _=>rfl) rfl (by omega) (by omega) ?_;rw[Int.toNat_natCast];have hb5:=hb3.ext he35;refine zR (ls:=zeT) (zcB (l.getD i zL)) hb5 (by rfl) ?_;refine qf (by kernel_rfl) ?_;refine zb (zaJ (r:=l.getD (i-1) zL)) ?_;rintro _ w6 ⟨rfl,he6⟩;refine⟨_,rfl,?_⟩;have hb6:=hb5.ext he6;refine xz (fun p hp=>?_) ?_
   ·simp only [mem_cons,not_mem_nil,or_false]at hp;rcases hp with rfl|rfl<;>simp only [zx,hb6.cell]<;>rfl
   refine qf (by kernel_rfl) ?_;refine zb (zaJ (r:=l.getD i zL)) ?_;rintro _ w7 ⟨rfl,he7⟩;refine⟨_,rfl,?_⟩;have he07:=(he05.trans he6).trans he7;rw[zbA];have eg1:l[i-1]?=some (l.getD (i-1) zL):=by rw[getD_eq_getElem?_getD,List.getElem?_eq_getElem (by omega)];rfl
   have hst:=zaH (f:=fun e:Snp=>e.1) eg1 (by rw[show i-1+1=i by omega];exact eg);rw[show i-1+2=i+1 by omega,show i-1+1=i by omega,hr,Bool.true_and]at hst;refine zg (fun hq2=>?_) (fun hq2=>?_)
   ·refine⟨?_,he07⟩;have hq2:ltB (B (l.getD (i-1) zL).1) (B (l.getD i zL).1)=false:=by simpa using hq2
    have:yv (fun e:Snp=>e.1) l=false:=by
     cases hz:yv (fun e:Snp=>e.1) l with
     |false=>rfl
     |true=>
      unfold yv at hz;rw[Bool.and_eq_true]at hz;have:=zbB (i+1) hz.2;rw[hst,hq2]at this;cases this
    rw[this]
   ·have hq2:ltB (B (l.getD (i-1) zL).1) (B (l.getD i zL).1)=true:=by simpa using hq2
    exact⟨⟨i+1,by omega,rfl,he07,hn',by rw[hst,hq2]⟩,by omega⟩
 ·obtain rfl:i=l.length:=by omega
  refine zd (decide_eq_false (by omega)) ?_;rw[take_of_length_le (by omega)]at hn hr;refine⟨?_,he1⟩;have:yv (fun e:Snp=>e.1) l=true:=by
   unfold yv;rw[hr,Bool.and_true,all_eq_true];exact fun e he=>(zd4 _).2 (hn e he)
  rw[this]
def zlc (g:FuncId) (cap:Array Value) (q:Nat->Bool) (w:World) (l:List Raw):Prop:=∀ (w':World) i,Ext w w'->i<l.length->Calls prog g ([Value.agg (zX.f (l.getD i yl)).toArray]++cap.toList).toArray w' (Ret fun v w''=>v=.bool (q i)/\Ext w' w'')
def xe (q:Nat->Bool) (n:Nat):Nat:=(List.range n).findIdx q
theorem zau {q:Nat->Bool} {n:Nat} (h:xe q n<n):q (xe q n)=true:=by
 unfold xe at h ⊢;have h2:(List.range n).findIdx q<(List.range n).length:=by rw[length_range];exact h
 have:=List.findIdx_getElem (p:=q) (xs:=List.range n) (w:=h2)
 rwa [getElem_range]at this
theorem zbJ {q:Nat->Bool} {n i:Nat} (h:i<xe q n):q i=false:=by
 unfold xe at h;have h2:=List.not_of_lt_findIdx h;rw[getElem_range]at h2
 simpa using h2
theorem zcO {x:SLC} {l:List Raw} {g:FuncId} {cap:Array Value} {q:Nat->Bool} (hg:enterable prog g=true) (h:Sli zX w x.1 x.2.1 l) (ht:zlc g cap q w l):
  Calls prog 55 #[.slice x.1 x.2.1 x.2.2,.func (.func g) #[] cap] w (Ret fun v w'=>v=.int .i64 (if xe q l.length<l.length then (xe q l.length:Int) else -1)/\Ext w w'):=by
 have hl:=h.len;have hle:=h.le;apply zoy;unfold S55;refine zu (fun y w'=>∃ i:Nat,i<=l.length/\y=((i:Int),())/\Ext w w'/\i<=xe q l.length) (fun y=>(l.length-y.1).toNat) ⟨0,by omega,rfl,Ext.refl w,by omega⟩ ?_;rintro _ w1 ⟨i,hi,rfl,he1,hf⟩;dsimp only
 by_cases hlt:i<l.length
 ·refine zf (decide_eq_true (by omega)) ?_;refine vM (E:=zX) uj yl (h.ext he1) (fun _=>rfl) rfl (by omega) (by omega) ?_;rw[Int.toNat_natCast];refine qf hg ?_;refine zb (ht w1 i he1 hlt) ?_;rintro _ w2 ⟨rfl,he2⟩;refine⟨_,rfl,?_⟩;refine zg (fun hd=>?_) (fun hd=>?_)
  ·have hfi:xe q l.length=i:=by
    rcases Nat.lt_or_ge i (xe q l.length) with h1|h1
    ·have:=zbJ h1;rw[hd]at this;cases this
    ·omega
   refine⟨?_,he1.trans he2⟩;rw[hfi,if_pos hlt]
  ·rw[wrap_i64 (by omega) (by omega)];refine⟨⟨i+1,by omega,rfl,he1.trans he2,?_⟩,by omega⟩;rcases Nat.lt_or_ge i (xe q l.length) with h1|h1
   ·omega
   ·have hfi:xe q l.length=i:=by omega
    have:=zau (q:=q) (n:=l.length) (by omega);rw[hfi,hd]at this;cases this
 ·obtain rfl:i=l.length:=by omega
  refine zd (decide_eq_false (by omega)) ?_;exact⟨by rw[if_neg (by omega)],he1⟩
theorem ze1 {x:SLC} {l:List Raw} {g:FuncId} {cap:Array Value} {q:Nat->Bool} (hg:enterable prog g=true) (h:Sli zX w x.1 x.2.1 l) (ht:zlc g cap q w l):
  Calls prog 61 #[.slice x.1 x.2.1 x.2.2,.func (.func g) #[] cap] w (Ret fun v w'=>v=.bool (decide (xe q l.length<l.length))/\Ext w w'):=by
 apply zoE;unfold S61;refine zb (zcO hg h ht) ?_;rintro _ w1 ⟨rfl,he1⟩;refine⟨_,rfl,?_,he1⟩
 by_cases hq:xe q l.length<l.length
 ·rw[if_pos hq,decide_eq_true hq,decide_eq_true (by omega)]
 ·rw[if_neg hq,decide_eq_false hq];rfl
theorem zld {r:Raw} {e:Ent} (h:zc6 w r e):Calls prog 62 #[.agg (zX.f r).toArray] w (Ret fun v w'=>v=.bool (!jA e)/\Ext w w'):=by
 obtain⟨h1,h2,h3,h4⟩:=h;apply zoF;unfold S62;refine zs fun r1 w1 hb1 he1 hr1 hz1=>?_;have hb1:Blk w1 r1 (zX.f r) 44:=hb1;refine zk 1 r.2.1 hb1 (by rfl) ?_;refine zb (uU (h3.ext he1) h4) ?_;rintro _ w2 ⟨rfl,he2⟩;refine⟨_,rfl,?_⟩;have hb2:=hb1.ext he2;have he:=he1.trans he2;have e1:r.2.2.1=e.2.2.1:=by rw[h2]
 have e2:r.2.2.2.1=e.2.2.2.1:=by rw[h2]
 have e3:r.2.2.2.2=e.2.2.2.2:=by rw[h2]
 unfold jA;refine zg (fun hq=>?_) (fun hq=>?_)
 ·have hq:=bne_iff_ne.1 hq;exact⟨by rw[decide_eq_false hq];rfl,he⟩
 have hq:=bne_eq_false_iff_eq.1 hq;rw[decide_eq_true hq,Bool.true_and];refine zk 4 r.2.2.2.2 hb2 (by rfl) ?_;rw[e3];refine zg (fun hq=>?_) (fun hq1=>?_)
 ·have hq:=of_decide_eq_true hq;exact⟨by rw[decide_eq_false (by omega)];rfl,he⟩
 have hq1:=of_decide_eq_false hq1;refine zk 4 r.2.2.2.2 hb2 (by rfl) ?_;rw[e3];refine zg (fun hq=>?_) (fun hq2=>?_)
 ·have hq:=of_decide_eq_true hq;exact⟨by rw[decide_eq_false (by omega)];rfl,he⟩
 have hq2:=of_decide_eq_false hq2;rw[decide_eq_true (p:=0<=e.2.2.2.2/\e.2.2.2.2<=4096) (by omega),Bool.true_and];refine zk 2 ((r.2.2.1:Nat):Int) hb2 (by rfl) ?_;refine zk 4 r.2.2.2.2 hb2 (by rfl) ?_;rw[e3,e1];have eb:(((e.2.2.1:Nat):Int)==0)=decide (e.2.2.1=0):=by
  rw[Bool.eq_iff_iff,beq_iff_eq,decide_eq_true_iff];omega
 have eb2:(e.2.2.2.2==0)=decide (e.2.2.2.2=0):=by
  rw[Bool.eq_iff_iff,beq_iff_eq,decide_eq_true_iff]
 rw[eb,eb2];refine zg (fun hq=>?_) (fun hq3=>?_)
 ·refine⟨?_,he⟩;have:¬(e.2.2.1=0↔e.2.2.2.2=0):=by
   intro hh
   by_cases h0:e.2.2.1=0
   ·rw[decide_eq_true h0,decide_eq_true (hh.1 h0)]at hq;cases hq
   ·rw[decide_eq_false h0,decide_eq_false (fun e=>h0 (hh.2 e))]at hq;cases hq
  rw[decide_eq_false this];rfl
 have hh:e.2.2.1=0↔e.2.2.2.2=0:=by
  have:decide (e.2.2.1=0)=decide (e.2.2.2.2=0):=by simpa using hq3
  exact decide_eq_decide.1 this
 rw[decide_eq_true hh,Bool.true_and];refine zk 3 ((r.2.2.2.1:Nat):Int) hb2 (by rfl) ?_;rw[e2];refine⟨?_,he⟩;congr 1
 by_cases h0:e.2.2.2.1<1099511627776
 ·rw[decide_eq_true h0,decide_eq_false (by omega)];rfl
 ·rw[decide_eq_false h0,decide_eq_true (by omega)];rfl
theorem zle {raws:List Raw} {es:List Ent} (hl:raws.length=es.length) (h:∀ i,i<es.length->(raws.getD i yl).1=(es.getD i zI).1):yv (fun e:Raw=>e.1) raws=yv (fun e:Ent=>e.1) es:=by
 have e1:raws.map (fun e=>e.1)=es.map (fun e=>e.1):=by
  refine List.ext_getElem (by simp[hl]) (fun i h1 h2=>?_);have h1':i<raws.length:=by simpa using h1
  have h2':i<es.length:=by simpa using h2
  have:=h i h2';rw[getD_eq_getElem?_getD,List.getElem?_eq_getElem h1',getD_eq_getElem?_getD,List.getElem?_eq_getElem h2']at this
  simpa using this
 have g1:∀ {α:Type} (f:α->ByteArray) (l:List α),yO f l=yO id (l.map f):=by
  intro α f l
  induction l with
  |nil=>rfl
  |cons a r ih=>
   cases r with
   |nil=>rfl
   |cons c r=>simp only [yO,map_cons,id]at ih ⊢;rw[ih]
 have g2:∀ {α:Type} (f:α->ByteArray) (l:List α),(l.all fun x=>zdX (f x))=(l.map f).all zdX:=by
  intro α f l;simp[List.all_map,Function.comp_def]
 unfold yv;rw[g1 _ raws,g1 _ es,g2 _ raws,g2 _ es,e1]
theorem vH {x y:SLC} {c:Cat} (h:qj w x y c):Calls prog 19 #[.agg (zN x y).toArray] w (Ret fun v w'=>v=.int .i64 (if qp c then 0 else 240)/\Ext w w'):=by
 obtain⟨⟨raws,hT⟩,hs,hcx,hcy⟩:=h;have hxl:=hT.sl.len;have hyl:=hs.len;have hlr:=hT.len;apply zn8;unfold S19;refine zs fun r1 w1 hb1 he1 hr1 hz1=>?_;have hb1:Blk w1 r1 (zN x y) 25:=hb1;refine yi (fun t w'=>t=(decide (c.1.length>16\/c.2.length>16),())/\w'=w1) ?_ (fun J hJ=>?_);rotate_left
 ·refine zC x hb1 (by rfl) ?_;refine zg (fun hq=>?_) (fun hq=>?_)
  ·have hq:=of_decide_eq_true hq;exact hJ _ _ ⟨by rw[decide_eq_true (.inl (by omega))],rfl⟩
  ·have hq:=of_decide_eq_false hq;refine zk 1 y hb1 (by rfl) ?_;refine hJ _ _ ⟨?_,rfl⟩
   by_cases h2:c.2.length>16
   ·rw[decide_eq_true (show(y.2.1:Int)>16 by omega),decide_eq_true (.inr h2)]
   ·rw[decide_eq_false (show ¬(y.2.1:Int)>16 by omega),decide_eq_false (by omega)]
 rintro _ _ ⟨rfl,rfl⟩;dsimp only;unfold qp;refine zg (fun hq=>?_) (fun hq=>?_)
 ·have hq:=of_decide_eq_true hq;exact⟨by rw[decide_eq_false (by omega)];rfl,he1⟩
 have hq:=of_decide_eq_false hq;rw[decide_eq_true (p:=c.1.length<=16/\c.2.length<=16) (by omega),Bool.true_and];refine zC x hb1 (by rfl) ?_;refine zb (zgo (hT.sl.ext he1)) ?_;rintro _ w2 ⟨rfl,he2⟩;refine⟨_,rfl,?_⟩;rw[zle hlr (fun i hi=>(hT.at_ i hi).name)];have he02:=he1.trans he2;refine zg (fun hq=>?_) (fun hq1=>?_)
 ·have hq:yv (fun e:Ent=>e.1) c.1=false:=by simpa using hq
  exact⟨by rw[hq];rfl,he02⟩
 have hq1:yv (fun e:Ent=>e.1) c.1=true:=by simpa using hq1
 rw[hq1,Bool.true_and];have hb2:=hb1.ext he2;refine zk 1 y hb2 (by rfl) ?_;refine zb (zgr (hs.ext he02)) ?_;rintro _ w3 ⟨rfl,he3⟩;refine⟨_,rfl,?_⟩;have he03:=he02.trans he3;refine zg (fun hq=>?_) (fun hq2=>?_)
 ·have hq:yv (fun e:Snp=>e.1) c.2=false:=by simpa using hq
  exact⟨by rw[hq];rfl,he03⟩
 have hq2:yv (fun e:Snp=>e.1) c.2=true:=by simpa using hq2
 rw[hq2,Bool.true_and];refine zC x (hb2.ext he3) (by rfl) ?_;refine zb (ze1 (q:=fun i=>!jA (c.1.getD i zI)) (by kernel_rfl) (hT.sl.ext he03) (fun w' i he hi=>zld (((hT.at_ i (by omega)).ext he03).ext he))) ?_;rintro _ w4 ⟨rfl,he4⟩;refine⟨_,rfl,?_⟩;have he04:=he03.trans he4;rw[hlr]
 by_cases hf:xe (fun i=>!jA (c.1.getD i zI)) c.1.length<c.1.length
 ·refine zf (decide_eq_true hf) ⟨?_,he04⟩;have h1:=zau hf;have:c.1.all jA=false:=by
   cases hz:c.1.all jA with
   |false=>rfl
   |true=>
    rw[all_eq_true]at hz;rw[getD_eq_getElem?_getD,List.getElem?_eq_getElem hf]at h1;have:=hz _ (getElem_mem hf);simp only [Option.getD_some]at h1;rw[this]at h1;cases h1
  rw[this];rfl
 ·refine zd (decide_eq_false hf) ⟨?_,he04⟩;have:c.1.all jA=true:=by
   rw[all_eq_true];intro e he;obtain⟨i,hi,rfl⟩:=mem_iff_getElem.1 he;have:=zbJ (q:=fun i=>!jA (c.1.getD i zI)) (n:=c.1.length) (i:=i) (by omega);rw[getD_eq_getElem?_getD,List.getElem?_eq_getElem hi]at this
   simpa using this
  rw[this];rfl
end V
/- Contracts of the package catalog:Bytes. -/
namespace V
open Go Go.Proofs Go.RowKit Crc
variable {w:World}
theorem Own.neB {w:World} {e t:TypeId} {B n c r:Nat} {A:Option Addr} {vs cs:List Value} (h:Own e w B A n c vs) (hb:Blk w r cs t) (he:e≠t):∀ j,orow A=some j->j≠r:=by
 intro j hj hr;subst hr;rcases h.2 with ⟨hv,_⟩|⟨g,cap,cur,hv,_,hg,_⟩
 ·injection hv with hv;subst hv;cases hj
 ·injection hv with hv
  subst hv;have e1:g=j:=Option.some.inj hj;subst e1;have hb':w.heap[g]?=some _:=hb;rw[hg]at hb';injection hb' with hb'
  injection hb' with _ e2 _
  exact he e2
theorem zdb {w:World} {B:Nat} {cs:Array Value} {e:TypeId} {K:Nat->WP} (hB:B<=w.heap.size) (hm:cs.size<=9223372036854775807) (h:∀ r w',Own e w' B (some ⟨r,0,none⟩) cs.size cs.size cs.toList->Ext w w'->w.heap.size=r->w'.heap.size=r+1->K r w'):zi (.cells cs e) K w:=
 h _ _ (Own.lit hB hm) ((Ext.refl w).alloc _) rfl (by simp)
theorem zcP {w:World} {B:Nat} {A:Option Addr} {n c:Nat} {bs:List UInt8} (y:UInt8) {v:Int} {K:SLC->WP} (h:Own 5 w B A n c (bV bs)) (hB:B<=w.heap.size) (hv:v=(y.toNat:Int)) (hn:n+1<=140737488355328)
  (hK:∀ A' c' w',Own 5 w' B A' (n+1) c' (bV (bs++[y]))->Grew w w' (orow A) (orow A')->K (A',n+1,c') w'):
  (zi (.cells #[.int .u8 v] 5) fun r=>zv prog (Builtin.append_ #[85,85] 85 #[.slice A n c,.slice (some (aD r)) 1 1]) .slc K) w:=by
 subst hv;refine zbm (ys:=[Value.int .u8 (y.toNat:Int)]) xE h hB (uR [y]) (by simp;omega) (by omega) ?_;intro A' c' w' ho hg;refine hK A' c' w' ?_ hg;have:bV (bs++[y])=bV bs++[Value.int .u8 (y.toNat:Int)]:=by rw[xi];rfl
 rw[this];exact ho
theorem zb2 {B:Nat} {A:Option Addr} {n c:Nat} {bs:List UInt8} {s:ByteArray} (h:Own 5 w B A n c (bV bs)) (hB:B<=w.heap.size) (hn:n<=1000000) (hs:s.size<=1000000):
  Calls prog 41 #[.slice A n c,.string s] w (Ret fun r w'=>∃ x:SLC,r=.slice x.1 x.2.1 x.2.2/\Own 5 w' B x.1 x.2.1 x.2.2 (bV (bs++nmB s))/\Grew w w' (orow A) (orow x.1)):=by
 apply zol;unfold S41;rw[yN];refine zcP (UInt8.ofNat s.size) h hB rfl (by omega) ?_;intro A1 c1 w1 h1 g1;have hs1:=g1.grown.size;dsimp only;refine ka xE (by kernel_rfl) h1 (by omega) (by omega) ?_;intro A2 c2 w2 h2 g2;refine⟨(A2,_,c2),rfl,?_,g1.step g2⟩;have:bs++nmB s=bs++[UInt8.ofNat s.size]++V.B s:=by simp[nmB]
 rw[this];exact h2
theorem za9 {B:Nat} {A:Option Addr} {n c:Nat} {bs:List UInt8} {k:Nat} (h:Own 5 w B A n c (bV bs)) (hB:B<=w.heap.size) (hn:n<=1000000):
  Calls prog 43 #[.slice A n c,.int .u32 (k:Int)] w (Ret fun r w'=>∃ x:SLC,r=.slice x.1 x.2.1 x.2.2/\Own 5 w' B x.1 x.2.1 x.2.2 (bV (bs++[jq k]))/\Grew w w' (orow A) (orow x.1)):=by
 apply zom;unfold S43;have e:wrap .u8 (if (1:Int)<(k:Int) then 1 else (k:Int))=((jq k).toNat:Int):=by
  have:(if (1:Int)<(k:Int) then 1 else (k:Int))=((min k 1:Nat):Int):=by split<;>omega
  rw[this,yN];rfl
 refine zcP (jq k) h hB e (by omega) ?_;intro A1 c1 w1 h1 g1;exact⟨(A1,_,c1),rfl,h1,g1⟩
theorem jP {α:Type} (f:α->List UInt8) (l:List α) (i:Nat):((l.take i).flatMap f).length<=(l.flatMap f).length:=by
 conv=>rhs;rw[<- List.take_append_drop i l]
 rw[flatMap_append,length_append];omega
theorem zjh {c:Cat} (h:kJ c) (e:Ent) (he:e∈c.1):e.1.size<=32/\(yq e.2.1).length<=600:=by
 obtain⟨h1,h2,_⟩:=h.ents e he;have:=qh h1;have:=zP e.1;exact⟨by omega,(zbV h2).2⟩
theorem zba {x y:SLC} {c:Cat} (h:qj w x y c):Calls prog 11 #[.agg (zN x y).toArray] w (Ret fun v w'=>v=.tuple #[.string (jG c).1,.int .i64 (jG c).2]/\Ext w w'):=by
 obtain⟨⟨raws,hT⟩,hs,hcx,hcy⟩:=id h;have hxl:=hT.sl.len;have hyl:=hs.len;have hlr:=hT.len;apply zn1;unfold S11;refine zs fun r1 w1 hb1 he1 hr1 hz1=>?_;have hb1:Blk w1 r1 (zN x y) 25:=hb1;refine zR (ls:=xh) (xk x y) hb1 (by rfl) ?_;refine zb (vH (h.ext he1)) ?_;rintro _ w2 ⟨rfl,he2⟩;refine⟨_,rfl,?_⟩;have he02:=he1.trans he2;have hb2:=hb1.ext he2;unfold jG;cases hok:qp c with
 |false=>exact zf (by rfl) ⟨rfl,he02⟩
 |true=>
 have hC:=vX.1 hok;have hlen:=hC.len;have ht16:=hC.tabs;have hs16:=hC.snaps;refine zd (by rfl) ?_;refine zC x hb2 (by rfl) ?_;rw[yN,<- hxl,hlr];refine zdb (B:=w2.heap.size) (Nat.le_refl _) (by simp) fun r5 w3 ho0 he3 hr5 hz3=>?_;have ho0:Own 5 w3 w2.heap.size (some ⟨r5,0,none⟩) 1 1 (bV [UInt8.ofNat c.1.length]):=ho0;have he03:=he02.trans he3;have hb3:=hb2.ext he3;have hs2:=he02.size;have hr1l:=hb2.lt;refine zC x hb3 (by rfl) ?_;have hcl:(xV c).length=(c.1.flatMap xP).length+((c.2.flatMap ql).length+2):=by
  unfold xV;rw[length_cons,length_append,length_cons];omega
 refine zu (fun q w'=>∃ (i:Nat) (A:Option Addr) (m k:Nat),i<=c.1.length/\q=((A,m,k),(i:Int),())/\Ext w w'/\w3.heap.size<=w'.heap.size/\Blk w' r1 (zN x y) 25/\Own 5 w' w2.heap.size A m k (bV (UInt8.ofNat c.1.length::(c.1.take i).flatMap xP))) (fun q=>(c.1.length-q.2.1).toNat)
  ⟨0,_,1,1,by omega,rfl,he03,Nat.le_refl _,hb3,ho0⟩ ?_
 rintro _ w4 ⟨i,A,m,k,hi,rfl,he4,hs4,hb4,ho⟩;dsimp only;have hm:=ho.sl.blen;rw[length_cons]at hm;have hle:=jP xP c.1 i
 by_cases hlt:i<c.1.length
 ·refine zf (decide_eq_true (by omega)) ?_;refine vM (E:=zX) uj yl (hT.sl.ext he4) (fun _=>rfl) rfl (by omega) (by omega) ?_;rw[Int.toNat_natCast];have hE:=(hT.at_ i hlt).ext he4;have hmem:c.1.getD i zI∈c.1:=by rw[getD_eq_getElem?_getD,List.getElem?_eq_getElem hlt];exact getElem_mem _
  have htk:c.1.take (i+1)=c.1.take i++[c.1.getD i zI]:=by rw[take_succ_eq_append_getElem hlt,getD_eq_getElem?_getD,List.getElem?_eq_getElem hlt];rfl
  generalize c.1.getD i zI=e at *;generalize raws.getD i yl=r at *;obtain⟨n1,n2⟩:=zjh hC e hmem;obtain⟨g1,g2,g3,g4,g5⟩:=hC.ents e hmem;refine yt (vs:=zX.f r) (by rfl) (zX.one _) (fun r11 w5 hb5 he5 hr5=>?_) (by rfl);have hE5:=hE.ext he5;refine zk 1 r.2.1 hb5 (by rfl) ?_;refine zb (zg6 hE5.cols hE5.cap) ?_;rintro _ w6 ⟨rfl,he6⟩;have eB:kA e.2.1=(yq e.2.1,0):=by unfold kA;rw[if_pos g2]
  rw[eB];refine⟨((⟨(yq e.2.1).toArray⟩:ByteArray),0,()),rfl,zd (by rfl) ?_⟩;have hb6:=hb5.ext he6;have he46:=he5.trans he6;have ho6:=ho.ext he46;have hb16:=hb4.ext he46;have hs46:=he46.size;refine zC r.1 hb6 (by rfl) ?_;rw[hE.name];refine zb (zb2 (s:=e.1) ho6 (by omega) (by omega) (by omega)) ?_;rintro _ w7 ⟨x7,rfl,ho7,g7⟩;refine⟨x7,rfl,?_⟩;have hs7:=g7.grown.size;have hm7:=ho7.sl.blen;rw[length_append,ki,length_cons]at hm7;have hb7:=hb6.grown g7.grown (fun hh=>ho6.neB hb6 (by decide) _ hh.symm rfl);have hb17:=hb16.grown g7.grown (fun hh=>ho6.neB hb16 (by decide) _ hh.symm rfl);have e7:Ext w w7:=(he4.trans he46).grown g7.grown (fun j hj=>by have:=ho6.row' j hj;omega);have hszB:(⟨(yq e.2.1).toArray⟩:ByteArray).size=(yq e.2.1).length:=by rw[zP];rfl
  refine ka xE (by kernel_rfl) ho7 (by omega) (by dsimp only;omega) ?_;intro A8 c8 w8 ho8 g8;have hs8:=g8.grown.size;have hm8:=ho8.sl.blen;have hb8:=hb7.grown g8.grown (fun hh=>ho7.neB hb7 (by decide) _ hh.symm rfl);have hb18:=hb17.grown g8.grown (fun hh=>ho7.neB hb17 (by decide) _ hh.symm rfl);have e8:Ext w w8:=e7.grown g8.grown (fun j hj=>by have:=ho7.row' j hj;omega);refine zK fun w9 he9 hz9 hh9=>?_;have ho9:=ho8.ext he9;have hb9:=hb8.ext he9;have hb19:=hb18.ext he9;have e9:=e8.trans he9;refine zk 3 ((r.2.2.2.1:Nat):Int) hb9 (by rfl) ?_;refine zk 4 r.2.2.2.2 hb9 (by rfl) ?_;rw[hE.rest];refine zb (xt (k:=8) ho9 (by omega) (by dsimp only;omega) (by omega) (by omega) (by omega)) ?_;rintro _ w10 ⟨x10,rfl,ho10,g10⟩;refine⟨x10,rfl,?_⟩;have hs10:=g10.grown.size;have hm10:=ho10.sl.blen;rw[length_append,zy]at hm10;have hb10:=hb9.grown g10.grown (fun hh=>ho9.neB hb9 (by decide) _ hh.symm rfl);have hb110:=hb19.grown g10.grown (fun hh=>ho9.neB hb19 (by decide) _ hh.symm rfl);have e10:Ext w w10:=e9.grown g10.grown (fun j hj=>by have:=ho9.row' j hj;omega);refine xz (yF hb10 (by rw[<- hE.rest];rfl)) ?_;have ew:wrap .u64 e.2.2.2.2=((e.2.2.2.2.toNat:Nat):Int):=by
   rw[show e.2.2.2.2=((e.2.2.2.2.toNat:Nat):Int) by omega,zz (by omega)];rfl
  rw[ew];dsimp only at hm8 hm10;have hl8:x10.2.1=1+((c.1.take i).flatMap xP).length+(e.1.size+1)+(yq e.2.1).length+8:=by
   rw[length_append,length_append,length_cons,ki]at hm10;rw[show(V.B (⟨(yq e.2.1).toArray⟩:ByteArray)).length=(yq e.2.1).length from rfl]at hm10;omega
  refine zb (xt (k:=4) ho10 (by omega) (by omega) (by omega) (by omega) (by omega)) ?_;rintro _ w11 ⟨x11,rfl,ho11,g11⟩;refine⟨x11,rfl,?_⟩;have hs11:=g11.grown.size;have hm11:=ho11.sl.blen;rw[length_append,zy]at hm11;have hm10':=ho10.sl.blen;have hb11:=hb10.grown g11.grown (fun hh=>ho10.neB hb10 (by decide) _ hh.symm rfl);have hb111:=hb110.grown g11.grown (fun hh=>ho10.neB hb110 (by decide) _ hh.symm rfl);have e11:Ext w w11:=e10.grown g11.grown (fun j hj=>by have:=ho10.row' j hj;omega);refine zk 2 ((r.2.2.1:Nat):Int) hb11 (by rfl) ?_;rw[hE.rest];refine zb (za9 (k:=e.2.2.1) ho11 (by omega) (by omega)) ?_;rintro _ w12 ⟨x12,rfl,ho12,g12⟩;refine⟨x12,rfl,?_⟩;have hs12:=g12.grown.size;have hb112:=hb111.grown g12.grown (fun hh=>ho11.neB hb111 (by decide) _ hh.symm rfl);have e12:Ext w w12:=e11.grown g12.grown (fun j hj=>by have:=ho11.row' j hj;omega);refine⟨⟨i+1,x12.1,x12.2.1,x12.2.2,by omega,by rw[wrap_i64 (by omega) (by omega)];rfl,e12,by omega,hb112,?_⟩,by rw[wrap_i64 (by omega) (by omega)];omega⟩;have eb:UInt8.ofNat c.1.length::(c.1.take (i+1)).flatMap xP=UInt8.ofNat c.1.length::(c.1.take i).flatMap xP++nmB e.1++V.B (⟨(yq e.2.1).toArray⟩:ByteArray)++le 8 e.2.2.2.1++le 4 e.2.2.2.2.toNat++[jq e.2.2.1]:=by
   rw[htk,flatMap_append,show V.B (⟨(yq e.2.1).toArray⟩:ByteArray)=yq e.2.1 from rfl];simp[xP]
  rw[eb];exact ho12
 ·obtain rfl:i=c.1.length:=by omega
  refine zd (decide_eq_false (by omega)) ?_;rw[take_of_length_le (by omega)]at ho hm;refine zk 1 y hb4 (by rfl) ?_;rw[yN,<- hyl];refine zcP (UInt8.ofNat c.2.length) ho (by omega) rfl (by omega) ?_;intro A5 c5 w5 ho5 g5;have hs5:=g5.grown.size;have hb5:=hb4.grown g5.grown (fun hh=>ho.neB hb4 (by decide) _ hh.symm rfl);have e5:Ext w w5:=he4.grown g5.grown (fun j hj=>by have:=ho.row' j hj;omega);refine zk 1 y hb5 (by rfl) ?_;dsimp only;generalize hpre:UInt8.ofNat c.1.length::c.1.flatMap xP++[UInt8.ofNat c.2.length]=pre at ho5;have hpl:pre.length=(c.1.flatMap xP).length+2:=by rw[<- hpre];simp
  refine zu (fun q w'=>∃ (i:Nat) (A:Option Addr) (m k:Nat),i<=c.2.length/\q=((A,m,k),(i:Int),())/\Ext w w'/\w3.heap.size<=w'.heap.size/\Blk w' r1 (zN x y) 25/\Own 5 w' w2.heap.size A m k (bV (pre++(c.2.take i).flatMap ql))) (fun q=>(c.2.length-q.2.1).toNat)
   ⟨0,A5,_,c5,by omega,rfl,e5,by omega,hb5,by simpa using ho5⟩ ?_
  rintro _ w6 ⟨i,A,m,k,hi,rfl,he6,hs6,hb6,ho⟩;dsimp only;have hm:=ho.sl.blen;rw[length_append]at hm;have hle:=jP ql c.2 i
  by_cases hlt:i<c.2.length
  ·refine zf (decide_eq_true (by omega)) ?_;refine vM (E:=yM) zcB zL (hs.ext he6) (fun _=>rfl) rfl (by omega) (by omega) ?_;rw[Int.toNat_natCast];have hmem:c.2.getD i zL∈c.2:=by rw[getD_eq_getElem?_getD,List.getElem?_eq_getElem hlt];exact getElem_mem _
   have htk:c.2.take (i+1)=c.2.take i++[c.2.getD i zL]:=by rw[take_succ_eq_append_getElem hlt,getD_eq_getElem?_getD,List.getElem?_eq_getElem hlt];rfl
   generalize c.2.getD i zL=e at *;have hnm:=qh (hC.snps e hmem);have hsz:=zP e.1;refine yt (vs:=yM.f e) (by rfl) (yM.one _) (fun r31 w7 hb7 he7 hr7=>?_) (by rfl);refine zK fun w8 he8 hz8 hh8=>?_;have hb8:=hb7.ext he8;have he78:=he7.trans he8;have hs78:=he78.size;have ho8:=ho.ext he78;have hb18:=hb6.ext he78;refine zC e.1 hb8 (by rfl) (zk 1 ((e.2:Nat):Int) hb8 (by rfl) ?_);refine zb (zb2 (s:=e.1) ho8 (by omega) (by omega) (by omega)) ?_;rintro _ w9 ⟨x9,rfl,ho9,g9⟩;refine⟨x9,rfl,?_⟩;have hs9:=g9.grown.size;have hm9:=ho9.sl.blen;rw[length_append,length_append,ki]at hm9;have hb9:=hb8.grown g9.grown (fun hh=>ho8.neB hb8 (by decide) _ hh.symm rfl);have hb19:=hb18.grown g9.grown (fun hh=>ho8.neB hb18 (by decide) _ hh.symm rfl);have e9:Ext w w9:=(he6.trans he78).grown g9.grown (fun j hj=>by have:=ho8.row' j hj;omega);refine xz (yF hb9 rfl) ?_;refine zb (za9 (k:=e.2) ho9 (by omega) (by omega)) ?_;rintro _ w10 ⟨x10,rfl,ho10,g10⟩;refine⟨x10,rfl,?_⟩;have hs10:=g10.grown.size;have hb110:=hb19.grown g10.grown (fun hh=>ho9.neB hb19 (by decide) _ hh.symm rfl);have e10:Ext w w10:=e9.grown g10.grown (fun j hj=>by have:=ho9.row' j hj;omega);refine⟨⟨i+1,x10.1,x10.2.1,x10.2.2,by omega,by rw[wrap_i64 (by omega) (by omega)];rfl,e10,by omega,hb110,?_⟩,by rw[wrap_i64 (by omega) (by omega)];omega⟩;have eb:pre++(c.2.take (i+1)).flatMap ql=pre++(c.2.take i).flatMap ql++nmB e.1++[jq e.2]:=by
    rw[htk,flatMap_append];simp[ql]
   rw[eb];exact ho10
  ·obtain rfl:i=c.2.length:=by omega
   refine zd (decide_eq_false (by omega)) ?_;rw[take_of_length_le (by omega)]at ho;refine qa (e:=5) (by kernel_rfl) (by kernel_rfl) (by kernel_rfl) ho.sl ?_;refine⟨?_,he6⟩;have:pre++c.2.flatMap ql=xV c:=by rw[<- hpre];simp[xV]
   rw[this];rfl
end V
/- Contracts of the package catalog:the reader. -/
namespace V
open Go Go.Proofs Go.RowKit Crc
variable {w w':World} {r:Nat} {st:Option (List UInt8)}
def yU (w:World) (r:Nat) (st:Option (List UInt8)):Prop:=match st with
 |some l=>Blk w r [.string (mkB l),.int .i64 0] 92
 |none=>∃ s,Blk w r [.string s,.int .i64 240] 92
theorem yU.only {F:Nat->Prop} (h:yU w r st) (k:Only F w w') (hr:¬F r):yU w' r st:=by
 cases st with
 |some l=>exact Blk.only h k hr
 |none=>obtain⟨s,h⟩:=h;exact⟨s,h.only k hr⟩
theorem yU.ext (h:yU w r st) (he:Ext w w'):yU w' r st:=by
 cases st with
 |some l=>exact Blk.ext h he
 |none=>obtain⟨s,h⟩:=h;exact⟨s,h.ext he⟩
theorem zhE (l:List UInt8) (n:Nat):(mkB l).extract 0 n=mkB (l.take n):=by
 apply jy;rw[xT,yV,yV];simp
theorem zhF (l:List UInt8) (n:Nat):(mkB l).extract n (mkB l).size=mkB (l.drop n):=by
 apply jy;rw[xT,yV,yV,xb];rw[take_of_length_le (by rw[length_drop];omega)]
abbrev OnR (r:Nat) (w w':World):Prop:=Only (fun k=>k=r) w w'
def zbK (r:Nat) (w w':World) (st':Option (List UInt8)):Prop:=yU w' r st'/\OnR r w w'
theorem kK (h:yU w r st) (n:Nat):Calls prog 108 #[.pointer (some ⟨r,0,none⟩),.int .i64 (n:Int)] w (Ret fun v w'=>v=.string (match st.bind (zA n) with|none=>ByteArray.empty|some p=>mkB p.1)/\zbK r w w' ((st.bind (zA n)).map fun p=>p.2)):=by
 apply zlJ;unfold S108;cases st with
 |none=>
  obtain⟨s,hb⟩:=h;refine yi (fun _ w'=>w'=w) ?_ (fun J hJ=>zp ?_)
  ·rintro _ _ rfl;refine zp (zk 1 (240:Int) hb (by rfl) (zf (by rfl) ?_));exact⟨rfl,⟨s,hb⟩,Only.refl _ _⟩
  ·exact zk 1 (240:Int) hb (by rfl) (zd (by rfl) (hJ _ _ rfl))
 |some l=>
  have hb:Blk w r [.string (mkB l),.int .i64 0] 92:=h;have hsz:=xb l
  by_cases hn:l.length<n
  ·have ec:(some l).bind (zA n)=none:=by show zA n l=none;unfold zA;rw[if_pos hn]
   rw[ec];refine yi (fun _ w'=>Blk w' r [.string (mkB l),.int .i64 240] 92/\OnR r w w') ?_ (fun J hJ=>zp ?_)
   ·rintro _ w1 ⟨h1,h2⟩;refine zp (zk 1 (240:Int) h1 (by rfl) (zf (by rfl) ?_));exact⟨rfl,⟨_,h1⟩,h2⟩
   ·refine zk 1 (0:Int) hb (by rfl) (zf (by rfl) (zp ?_));refine zC (mkB l) hb (by rfl) (zf (decide_eq_true (by omega)) (zp ?_));refine stE (o:=1) hb (by rw[zx]) (by show 1<2;omega) ?_;intro w1 h1 o1;exact hJ _ _ ⟨h1,o1⟩
  ·have ec:(some l).bind (zA n)=some (l.take n,l.drop n):=by show zA n l=_;unfold zA;rw[if_neg hn]
   rw[ec];refine yi (fun _ w'=>w'=w) ?_ (fun J hJ=>zp ?_)
   ·rintro _ _ rfl;refine zp (zk 1 (0:Int) hb (by rfl) (zd (by rfl) (zp ?_)));refine zC (mkB l) hb (by rfl) (zE ⟨by omega,by omega⟩ (zp ?_));refine zC (mkB l) hb (by rfl) (zE ⟨by omega,by omega⟩ (zp ?_));rw[Int.toNat_natCast,zhE,zhF];refine stE (o:=0) hb rfl (by show 0<2;omega) ?_;intro w1 h1 o1;exact⟨rfl,h1,o1⟩
   ·refine zk 1 (0:Int) hb (by rfl) (zf (by rfl) (zp ?_));exact zC (mkB l) hb (by rfl) (zd (decide_eq_false (by omega)) (hJ _ _ rfl))
theorem zaP (h:yU w r st) {n:Nat} (hn:n<=8):Calls prog 44 #[.pointer (some ⟨r,0,none⟩),.int .i64 (n:Int)] w (Ret fun v w'=>v=.int .u64 ((match st.bind (zA n) with|none=>0|some p=>lev p.1:Nat):Int)/\zbK r w w' ((st.bind (zA n)).map fun p=>p.2)):=by
 apply zon;unfold S44;refine zb (kK h n) ?_;rintro _ w1 ⟨rfl,h1,o1⟩;refine⟨_,rfl,?_⟩;have hlen:(match st.bind (zA n) with|none=>ByteArray.empty|some p=>mkB p.1).size<=8:=by
  cases hq:st.bind (zA n) with
  |none=>exact Nat.zero_le _
  |some p=>
   show(mkB p.1).size<=8;rw[xb];cases st with
   |none=>cases hq
   |some l=>
    have:=(qm (show zA n l=some (p.1,p.2) from hq)).1;omega
 refine vd (u:=.string) (e:=5) (by kernel_rfl) (by kernel_rfl) (by kernel_rfl) (by omega) ?_;intro cc w2 hsl he2 hs2 hcc;refine zb (ja hsl hlen) ?_;rintro _ w3 ⟨rfl,he3⟩;refine⟨_,rfl,?_,h1.ext (he2.trans he3),Only.trans o1 (Only.zG (F:=fun k=>k=r) (he2.trans he3)) (fun j hj=>.inl hj)⟩;congr 1;cases st.bind (zA n) with
 |none=>rfl
 |some p=>show((lev (V.B (mkB p.1)):Nat):Int)=_;rw[yV]
theorem OnR.trans {r:Nat} {a b c:World} (h:OnR r a b) (k:OnR r b c):OnR r a c:=Only.trans h k (fun j hj=>.inl hj)
theorem zhG (h:yU w r st):Calls prog 45 #[.pointer (some ⟨r,0,none⟩)] w (Ret fun v w'=>v=.string (match st.bind nmR with|none=>ByteArray.empty|some p=>p.1)/\zbK r w w' ((st.bind nmR).map fun p=>p.2)):=by
 apply zoo;unfold S45;refine zb (zaP h (n:=1) (by omega)) ?_;rintro _ w1 ⟨rfl,h1,o1⟩;refine⟨_,rfl,?_⟩;cases st with
 |none=>
  refine zb (kK h1 0) ?_;rintro _ w2 ⟨rfl,h2,o2⟩;exact⟨_,rfl,rfl,h2,o1.trans o2⟩
 |some l=>
  show ze _ _ [_,.int .i64 (wrap .i64 (((match zA 1 l with|none=>0|some p=>lev p.1:Nat)):Int))] _ _ w1;have hn:(some l).bind nmR=nmR l:=rfl;rw[hn];unfold nmR;have h1:yU w1 r ((zA 1 l).map fun p=>p.2):=h1;cases hc:zA 1 l with
  |none=>
   rw[hc]at h1;refine zb (kK h1 0) ?_;rintro _ w2 ⟨rfl,h2,o2⟩;exact⟨_,rfl,rfl,h2,o1.trans o2⟩
  |some p=>
   obtain⟨q,t⟩:=p;rw[hc]at h1;obtain⟨c1,c2⟩:=qm hc;have hlv:lev q<256:=by
    have:=jn q;rw[c1]at this;exact this
   dsimp only;rw[wrap_i64 (by omega) (by omega)];refine zb (kK h1 (lev q)) ?_;rintro _ w2 ⟨rfl,h2,o2⟩;refine⟨_,rfl,?_⟩;have e:((some (q,t)).map fun p:List UInt8×List UInt8=>p.2).bind (zA (lev q))=zA (lev q) t:=rfl;rw[e]at h2 ⊢;cases hc2:zA (lev q) t with
   |none=>rw[hc2]at h2;exact⟨rfl,h2,o1.trans o2⟩
   |some p2=>rw[hc2]at h2;exact⟨rfl,h2,o1.trans o2⟩
theorem zb3 (h:yU w r st):Calls prog 47 #[.pointer (some ⟨r,0,none⟩)] w (Ret fun v w'=>(∃ k:Nat,v=.int .u32 (k:Int)/\∀ p,st.bind jr=some p->k=p.1)/\zbK r w w' ((st.bind jr).map fun p=>p.2)):=by
 apply zoq;unfold S47;refine zb (zaP h (n:=1) (by omega)) ?_;rintro _ w1 ⟨rfl,h1,o1⟩;refine⟨_,rfl,zp ?_⟩;cases st with
 |none=>
  obtain⟨s,hb⟩:=h1;refine zk 1 (240:Int) hb (by rfl) (zd (by rfl) ?_);exact⟨⟨0,by rfl,fun p hp=>by cases hp⟩,⟨s,hb⟩,o1⟩
 |some l=>
  have hn:(some l).bind jr=jr l:=rfl;rw[hn];have h1:yU w1 r ((zA 1 l).map fun p=>p.2):=h1;show ldW _ _ _ w1;unfold jr;cases hc:zA 1 l with
  |none=>
   rw[hc]at h1;obtain⟨s,hb⟩:=h1;refine zk 1 (240:Int) hb (by rfl) (zd (by rfl) ?_);exact⟨⟨0,by show Value.int .u32 (wrap .u32 (((match zA 1 l with|none=>0|some p=>lev p.1:Nat)):Int))=_;rw[hc];rfl,fun p hp=>by cases hp⟩,⟨s,hb⟩,o1⟩
  |some p=>
   obtain⟨q,t⟩:=p;rw[hc]at h1;have hb:Blk w1 r [.string (mkB t),.int .i64 0] 92:=h1;obtain⟨c1,c2⟩:=qm hc;have hlv:lev q<256:=by
    have:=jn q;rw[c1]at this;exact this
   have ev:(match (some l).bind (zA 1) with|none=>0|some p=>lev p.1)=lev q:=by show(match zA 1 l with|none=>0|some p=>lev p.1)=_;rw[hc]
   rw[ev,show wrap .u32 ((lev q:Nat):Int)=((lev q:Nat):Int) by rw[wrap_u32];omega];refine zk 1 (0:Int) hb (by rfl) (zf (by rfl) ?_);dsimp only
   by_cases h1':lev q<=1
   ·rw[if_pos h1'];refine zd (decide_eq_false (by omega)) ?_;exact⟨⟨lev q,rfl,fun p hp=>by cases hp;rfl⟩,hb,o1⟩
   ·rw[if_neg h1'];refine zf (decide_eq_true (by omega)) (zp ?_);refine stE (o:=1) hb (by rw[zx]) (by show 1<2;omega) ?_;intro w2 h2 o2;exact⟨⟨lev q,rfl,fun p hp=>by cases hp⟩,⟨_,h2⟩,o1.trans o2⟩
theorem zhH (h:yU w r st) (hr:r<w.heap.size) (hsz:∀ l,st=some l->l.length<=1000000):Calls prog 46 #[.pointer (some ⟨r,0,none⟩)] w (Ret fun v w'=>(∃ x:SLC,v=.slice x.1 x.2.1 x.2.2/\∀ p,st.bind yf=some p->Owni xr 62 w' w.heap.size x.1 x.2.1 x.2.2 p.1)/\zbK r w w' ((st.bind yf).map fun p=>p.2)):=by
 apply zop;unfold S46;refine zp ?_;cases st with
 |none=>
  obtain⟨s,hb⟩:=h;refine zk 1 (240:Int) hb (by rfl) (zf (by rfl) ?_);exact⟨⟨(none,0,0),rfl,fun p hp=>by cases hp⟩,⟨s,hb⟩,Only.refl _ _⟩
 |some l=>
  have hb:Blk w r [.string (mkB l),.int .i64 0] 92:=h;have hn:(some l).bind yf=yf l:=rfl;rw[hn];refine zk 1 (0:Int) hb (by rfl) (zd (by rfl) (zp ?_));refine zC (mkB l) hb (by rfl) ?_;refine zb (zik (s:=mkB l) (by rw[xb];have:=hsz l rfl;omega)) ?_;rintro _ w1 ⟨u,rfl,hR⟩;obtain⟨hR,he1⟩:=hR;rw[yV]at hR;have hb1:=hb.ext he1;cases hq:yf l with
  |none=>
   rw[hq]at hR;have hR:u=((none,0,0),⟨#[]⟩,171,()):=hR;subst hR;refine⟨_,rfl,zf (by rfl) (zp ?_)⟩;refine stE (o:=1) hb1 (by rw[zx]) (by show 1<2;omega) ?_;intro w2 h2 o2;refine zp (stE (o:=0) h2 rfl (by show 0<2;omega) ?_);intro w3 h3 o3;exact⟨⟨(none,0,0),rfl,fun p hp=>by cases hp⟩,⟨_,h3⟩,(OnR.trans (Only.zG he1) o2).trans o3⟩
  |some p=>
   obtain⟨cs,t⟩:=p;rw[hq]at hR;obtain⟨a1,a2,a3⟩:=hR;obtain⟨u1,u2,u3,u4⟩:=u;dsimp only at a1 a2 a3;subst a2 a3;refine⟨(u1,⟨t.toArray⟩,0,()),rfl,zd (by rfl) (zp ?_)⟩;refine stE (o:=0) hb1 rfl (by show 0<2;omega) ?_;intro w2 h2 o2;refine⟨⟨u1,rfl,fun p hp=>?_⟩,h2,OnR.trans (Only.zG he1) o2⟩;cases hp;exact a1.only o2 (fun j hj e=>by have:=a1.row j hj;have:j=r:=e;omega)
end V
/- Contracts of the package catalog:Read. -/
namespace V
open Go Go.Proofs Go.RowKit Crc
variable {w w':World} {r:Nat} {st:Option (List UInt8)}
theorem zd8:j9 prog 22 44 (.agg #[.string ByteArray.empty,.slice none 0 0,.int .u32 0,.int .u64 0,.int .i64 0]) 5 64:=⟨by kernel_rfl,by kernel_rfl,by kernel_rfl⟩
theorem zd9:j9 prog 23 46 (.agg #[.string ByteArray.empty,.int .u32 0]) 2 24:=⟨by kernel_rfl,by kernel_rfl,by kernel_rfl⟩
structure xF (w:World) (B0:Nat) (r:Raw) (e:Ent):Prop where
 name:r.1=e.1
 rest:r.2.2=e.2.2
 cols:Owni xr 62 w B0 r.2.1.1 r.2.1.2.1 r.2.1.2.2 e.2.1
structure yw (w:World) (B0:Nat) (x:SLC) (raws:List Raw) (es:List Ent):Prop where
 row:Owni zX 44 w B0 x.1 x.2.1 x.2.2 raws
 len:raws.length=es.length
 at_:∀ i,i<es.length->xF w B0 (raws.getD i yl) (es.getD i zI)
def yy (w:World) (B0:Nat) (x y:SLC) (c:Cat):Prop:=(∃ raws,yw w B0 x raws c.1)/\Owni yM 46 w B0 y.1 y.2.1 y.2.2 c.2
theorem yy.cat {B0:Nat} {x y:SLC} {c:Cat} (h:yy w B0 x y c):qj w x y c:=by
 obtain⟨⟨raws,h1⟩,h2⟩:=h;exact⟨⟨raws,h1.row.sl,h1.len,fun i hi=>⟨(h1.at_ i hi).name,(h1.at_ i hi).rest,(h1.at_ i hi).cols.sl,(h1.at_ i hi).cols.le.1⟩⟩,h2.sl,h1.row.le.1,h2.le.1⟩
theorem xF.only {F:Nat->Prop} {B0:Nat} {r:Raw} {e:Ent} (h:xF w B0 r e) (o:Only F w w') (hF:∀ k,F k->k<B0):xF w' B0 r e:=
 ⟨h.name,h.rest,h.cols.only o (fun j hj hf=>by have:=h.cols.row j hj;have:=hF j hf;omega)⟩
theorem xF.ext {B0:Nat} {r:Raw} {e:Ent} (h:xF w B0 r e) (he:Ext w w'):xF w' B0 r e:=⟨h.name,h.rest,h.cols.ext he⟩
theorem xF.lower {B0 B1:Nat} {r:Raw} {e:Ent} (h:xF w B0 r e) (hB:B1<=B0):xF w B1 r e:=⟨h.name,h.rest,h.cols.lower hB⟩
theorem yw.only {F:Nat->Prop} {B0:Nat} {x:SLC} {raws:List Raw} {es:List Ent} (h:yw w B0 x raws es) (o:Only F w w') (hF:∀ k,F k->k<B0):yw w' B0 x raws es:=
 ⟨h.row.only o (fun j hj hf=>by have:=h.row.row j hj;have:=hF j hf;omega),h.len,fun i hi=>(h.at_ i hi).only o hF⟩
theorem yw.ext {B0:Nat} {x:SLC} {raws:List Raw} {es:List Ent} (h:yw w B0 x raws es) (he:Ext w w'):yw w' B0 x raws es:=⟨h.row.ext he,h.len,fun i hi=>(h.at_ i hi).ext he⟩
theorem yw.lower {B0 B1:Nat} {x:SLC} {raws:List Raw} {es:List Ent} (h:yw w B0 x raws es) (hB:B1<=B0):yw w B1 x raws es:=⟨h.row.lower hB,h.len,fun i hi=>(h.at_ i hi).lower hB⟩
theorem yy.ext {B0:Nat} {x y:SLC} {c:Cat} (h:yy w B0 x y c) (he:Ext w w'):yy w' B0 x y c:=by
 obtain⟨⟨raws,h1⟩,h2⟩:=h;exact⟨⟨raws,h1.ext he⟩,h2.ext he⟩
theorem yy.only {F:Nat->Prop} {B0:Nat} {x y:SLC} {c:Cat} (h:yy w B0 x y c) (o:Only F w w') (hF:∀ k,F k->k<B0):yy w' B0 x y c:=by
 obtain⟨⟨raws,h1⟩,h2⟩:=h;exact⟨⟨raws,h1.only o hF⟩,h2.only o (fun j hj hf=>by have:=h2.row j hj;have:=hF j hf;omega)⟩
theorem yy.lower {B0 B1:Nat} {x y:SLC} {c:Cat} (h:yy w B0 x y c) (hB:B1<=B0):yy w B1 x y c:=by
 obtain⟨⟨raws,h1⟩,h2⟩:=h;exact⟨⟨raws,h1.lower hB⟩,h2.lower hB⟩
theorem zbL (w:World) (B0:Nat):yy w B0 (none,0,0) (none,0,0) zaE:=⟨⟨[],Owni.nil _ _ _,rfl,fun i hi=>by cases hi⟩,Owni.nil _ _ _⟩
theorem zlf {l rr:List UInt8} {e:Ent} (h:jB l=some (e,rr)):∃ r1 r2 x r3 y r4,nmR l=some (e.1,r1)/\yf r1=some (e.2.1,r2)/\zA 8 r2=some (x,r3)/\zA 4 r3=some (y,r4)/\jr r4=some (e.2.2.1,rr)/\e.2.2.2.1=lev x/\e.2.2.2.2=(lev y:Int):=by
 unfold jB at h;split at h
 ·cases h
 rename_i n r1 g1;split at h
 ·cases h
 rename_i cs r2 g2;split at h
 ·cases h
 rename_i x r3 g3;split at h
 ·cases h
 rename_i y r4 g4;split at h
 ·cases h
 rename_i o r5 g5;injection h with h
 injection h with h1 h2
 subst h1 h2;exact⟨r1,r2,x,r3,y,r4,g1,g2,g3,g4,g5,rfl,rfl⟩
def sN (st:Option (List UInt8)):Option (List UInt8):=(st.bind nmR).map fun p=>p.2
def sC (st:Option (List UInt8)):Option (List UInt8):=(st.bind yf).map fun p=>p.2
def sK (n:Nat) (st:Option (List UInt8)):Option (List UInt8):=(st.bind (zA n)).map fun p=>p.2
def s1 (st:Option (List UInt8)):Option (List UInt8):=(st.bind jr).map fun p=>p.2
theorem zpv (l:List UInt8):s1 (sK 4 (sK 8 (sC (sN (some l)))))=(jB l).map fun p=>p.2:=by
 unfold jB sN;show s1 (sK 4 (sK 8 (sC ((nmR l).map fun p=>p.2))))=_;cases nmR l with
 |none=>rfl
 |some p1=>
  dsimp only [Option.map];show s1 (sK 4 (sK 8 ((yf p1.2).map fun p=>p.2)))=_;cases yf p1.2 with
  |none=>rfl
  |some p2=>
   dsimp only [Option.map];show s1 (sK 4 ((zA 8 p2.2).map fun p=>p.2))=_;cases zA 8 p2.2 with
   |none=>rfl
   |some p3=>
    dsimp only [Option.map];show s1 ((zA 4 p3.2).map fun p=>p.2)=_;cases zA 4 p3.2 with
    |none=>rfl
    |some p4=>
     dsimp only [Option.map];show(jr p4.2).map (fun p=>p.2)=_;cases jr p4.2 with
     |none=>rfl
     |some p5=>rfl
theorem zlg {l rr:List UInt8} {e:Snp} (h:jM l=some (e,rr)):∃ r1,nmR l=some (e.1,r1)/\jr r1=some (e.2,rr):=by
 unfold jM at h;split at h
 ·cases h
 rename_i n r1 g1;split at h
 ·cases h
 rename_i o r2 g2;injection h with h
 injection h with h1 h2
 subst h1 h2;exact⟨r1,g1,g2⟩
theorem zpw (l:List UInt8):s1 (sN (some l))=(jM l).map fun p=>p.2:=by
 unfold jM sN;show s1 ((nmR l).map fun p=>p.2)=_;cases nmR l with
 |none=>rfl
 |some p1=>
  dsimp only [Option.map];show(jr p1.2).map (fun p=>p.2)=_;cases jr p1.2 with
  |none=>rfl
  |some p5=>rfl
theorem kr {n:Nat} {l a t:List UInt8} (h:zA n l=some (a,t)):t.length<=l.length:=by
 have:=(qm h).2;rw[<- this,length_append];omega
theorem ze2 {l t:List UInt8} {s:ByteArray} (h:nmR l=some (s,t)):t.length<=l.length:=by
 rw[<- zfr h,length_append];omega
theorem zpx {l t:List UInt8} {e:Ent} (h:jB l=some (e,t)):t.length<=l.length:=by
 rw[<- (zmW h).1,length_append];omega
theorem zpy {l t:List UInt8} {e:Snp} (h:jM l=some (e,t)):t.length<=l.length:=by
 rw[<- (zmY h).1,length_append];omega
def Left {α:Type} (f:List UInt8->Option (α×List UInt8)) (tot:Option (List α×List UInt8)) (j:Nat) (acc:List α) (l:List UInt8):Prop:=tot=(xd f j l).map fun p=>(acc++p.1,p.2)
theorem Left.bad {α:Type} {f:List UInt8->Option (α×List UInt8)} {tot:Option (List α×List UInt8)} {j:Nat} {acc:List α} {l:List UInt8} (h:Left f tot (j+1) acc l) (hf:f l=none):tot=none:=by
 unfold Left xd at h;rw[hf]at h;exact h
theorem Left.step {α:Type} {f:List UInt8->Option (α×List UInt8)} {tot:Option (List α×List UInt8)} {j:Nat} {acc:List α} {l t:List UInt8} {x:α} (h:Left f tot (j+1) acc l) (hf:f l=some (x,t)):Left f tot j (acc++[x]) t:=by
 unfold Left xd at h;rw[hf]at h;dsimp only at h;unfold Left;rw[h];cases xd f j t with
 |none=>rfl
 |some p=>simp
theorem Left.done {α:Type} {f:List UInt8->Option (α×List UInt8)} {tot:Option (List α×List UInt8)} {acc:List α} {l:List UInt8} (h:Left f tot 0 acc l):tot=some (acc,l):=by
 unfold Left xd at h;rw[h];simp
theorem Left.init {α:Type} {f:List UInt8->Option (α×List UInt8)} {n:Nat} {l:List UInt8}:Left f (xd f n l) n [] l:=by
 unfold Left;cases xd f n l with
 |none=>rfl
 |some p=>rfl
end V
/- Contracts of the package catalog:Read. -/
namespace V
open Go Go.Proofs Go.RowKit Crc
variable {w w':World} {r:Nat} {st:Option (List UInt8)}
theorem rdnum' (h:yU w r st) {n:Nat} (hn:n<=8):Calls prog 44 #[.pointer (some ⟨r,0,none⟩),.int .i64 (n:Int)] w (Ret fun v w'=>(∃ k:Nat,v=.int .u64 (k:Int)/\(∀ p,st.bind (zA n)=some p->k=lev p.1)/\(st.bind (zA n)=none->k=0))/\zbK r w w' (sK n st)):=by
 refine(zaP h hn).mono (Ret.mono ?_);rintro v w' ⟨rfl,h⟩;exact⟨⟨_,rfl,fun p hp=>by rw[hp],fun hp=>by rw[hp]⟩,h⟩
theorem rdname' (h:yU w r st):Calls prog 45 #[.pointer (some ⟨r,0,none⟩)] w (Ret fun v w'=>(∃ s:ByteArray,v=.string s/\∀ p,st.bind nmR=some p->s=p.1)/\zbK r w w' (sN st)):=by
 refine(zhG h).mono (Ret.mono ?_);rintro v w' ⟨rfl,h⟩;exact⟨⟨_,rfl,fun p hp=>by rw[hp]⟩,h⟩
def zaQ (tot:Option (List Ent×List UInt8)) (z r1 r2 B0:Nat) (j:Nat) (w:World):Prop:=
 ∃ (x:SLC) (raws:List Raw) (st:Option (List UInt8)),Blk w r1 (zN x (none,0,0)) 25/\Owni zX 44 w B0 x.1 x.2.1 x.2.2 raws/\x.2.1+j<=255/\yU w r2 st/\
  ((st=none/\tot=none)\/∃ l acc,st=some l/\l.length<=z/\yw w B0 x raws acc/\Left jB tot j acc l)
theorem zf9 {α:Type} {l:List α} {x d:α} {i n:Nat} (hn:l.length=n):(l++[x]).getD i d=if i<n then l.getD i d else if i=n then x else d:=by
 simp only [getD_eq_getElem?_getD]
 by_cases h:i<n
 ·rw[if_pos h,List.getElem?_append_left (by omega)]
 ·rw[if_neg h,List.getElem?_append_right (by omega),hn]
  by_cases e:i=n
  ·subst e;simp
  ·rw[if_neg e,List.getElem?_eq_none (by simp;omega)];rfl
theorem yw.snoc {B0:Nat} {x:SLC} {A:Option Addr} {c:Nat} {raws:List Raw} {es:List Ent} {rw_:Raw} {e:Ent} (h:yw w B0 x raws es) (hrow:Owni zX 44 w' B0 A (x.2.1+1) c (raws++[rw_])) (hold:∀ i,i<es.length->xF w' B0 (raws.getD i yl) (es.getD i zI)) (hn:xF w' B0 rw_ e):yw w' B0 (A,x.2.1+1,c) (raws++[rw_]) (es++[e]):=by
 have hl:=h.len;refine⟨hrow,by simp[hl],fun i hi=>?_⟩;rw[zf9 hl,zf9 rfl]
 by_cases e1:i<es.length
 ·rw[if_pos e1,if_pos e1];exact hold i e1
 ·have:i=es.length:=by simp at hi;omega
  rw[if_neg e1,if_neg e1,if_pos this,if_pos this];exact hn
theorem xF.grown {B0:Nat} {r:Raw} {e:Ent} {A:Option Addr} {n c:Nat} {raws:List Raw} (h:xF w B0 r e) (ho:Owni zX 44 w B0 A n c raws) (hg:w.grownBy w' (orow A)):xF w' B0 r e:=
 ⟨h.name,h.rest,h.cols.grown hg (fun j hj=>ho.ne h.cols (by decide) j hj)⟩
theorem zkc {tot:Option (List Ent×List UInt8)} {z r1 r2 B0 j:Nat} {K:WP} (hz:z<=1000000) (hr1:r1<B0) (hr2:r2<B0) (h12:r1≠r2) (h:zaQ tot z r1 r2 B0 (j+1) w) (hB:B0<=w.heap.size) {l0:List UInt8} (hst:yU w r2 (some l0))
  (hK:∀ w',zaQ tot z r1 r2 B0 j w'->Only (fun k=>k=r1\/k=r2\/B0<=k) w w'->K w'):(zD<|
  ldW .slc (aD r1) fun(u10:SLC)=>
  ze prog 45 [.pointer (some (aD r2))] (.one (.one .str)) fun(u11:ByteArray)=>
  zr [[((aD r1),.slice u10.1 u10.2.1 u10.2.2)]]<|
  ze prog 46 [.pointer (some (aD r2))] (.one (.one .slc)) fun(u12:SLC)=>
  zr [[((aD r1),.slice u10.1 u10.2.1 u10.2.2)]]<|
  ze prog 44 [.pointer (some (aD r2)),.int .i64 8] (.one (.one (.int .u64))) fun(u13:Int)=>
  zr [[((aD r1),.slice u10.1 u10.2.1 u10.2.2)]]<|
  ze prog 44 [.pointer (some (aD r2)),.int .i64 4] (.one (.one (.int .u64))) fun(u14:Int)=>
  zr [[((aD r1),.slice u10.1 u10.2.1 u10.2.2)]]<|
  ze prog 47 [.pointer (some (aD r2))] (.one (.one (.int .u32))) fun(u15:Int)=>
  zr [[((aD r1),.slice u10.1 u10.2.1 u10.2.2)]]<|
  zi (.cells #[.string u11,.slice u12.1 u12.2.1 u12.2.2,.int .u32 u15,.int .u64 u13,.int .i64 (wrap .i64 u14)] 44) fun(r16:Nat)=>
  zr [[((aD r1),.slice u10.1 u10.2.1 u10.2.2)]]<|
  zv prog (Builtin.append_ #[22,22] 22 #[.slice u10.1 u10.2.1 u10.2.2,.slice (some (aD r16)) 1 1]) .slc fun(u17:SLC)=>
  stW (aD r1) (.slice u17.1 u17.2.1 u17.2.2) K) w:=by
 obtain⟨x,raws,st,hb,hrow,hx,hR,hcase⟩:=h;have hst':st=some l0:=by
  cases st with
  |none=>
   obtain⟨s,hs⟩:=hR;have h1:w.heap[r2]?=some _:=hs;have h2:w.heap[r2]?=some _:=hst;rw[h1]at h2;injection h2 with h2
   injection h2 with h2 _ _
   have:=congrArg (fun a=>a.toList[1]?) h2;simp at this
  |some l1=>
   have h1:w.heap[r2]?=some _:=hR;have h2:w.heap[r2]?=some _:=hst;rw[h1]at h2;injection h2 with h2
   injection h2 with h2 _ _
   have:=congrArg (fun a=>a.toList[0]?) h2;simp at this;rw[show l1=l0 from by have:=congrArg V.B this;rwa [yV,yV]at this]
 subst hst';rcases hcase with ⟨e,_⟩|⟨l,acc,e,hlz,hT,hL⟩
 ·cases e
 obtain rfl:l0=l:=by injection e
 have hxl:=hrow.len;refine zK fun w1 he1 hz1 hh1=>?_;have hb:=hb.ext he1;refine zC x hb (by rfl) ?_;have hO:∀ {a c:World},OnR r2 a c->Only (fun k=>k=r1\/k=r2\/B0<=k) a c:=fun o=>o.mono (fun k hk=>.inr (.inl hk));refine zb (rdname' (hR.ext he1)) ?_;rintro _ w2 ⟨⟨nm,rfl,hnm⟩,h2,o2⟩;refine⟨_,rfl,?_⟩;have hb:=hb.only o2 h12;refine xz (yd hb rfl) ?_;have hs2:=o2.2.2.2.1;have h2:yU w2 r2 (sN (some l0)):=h2;have hr2l:r2<w2.heap.size:=by omega
 have hle2:∀ q,sN (some l0)=some q->q.length<=z:=fun q hq=>by
  have hq:(nmR l0).map (fun p=>p.2)=some q:=hq;cases hn:nmR l0 with
  |none=>rw[hn]at hq;cases hq
  |some p=>
   rw[hn]at hq;cases hq;show p.2.length<=z;have:p.2.length<=l0.length:=ze2 (s:=p.1) hn;omega
 refine zb (zhH h2 hr2l (fun q hq=>by have:=hle2 q hq;omega)) ?_;rintro _ w3 ⟨⟨cx,rfl,hcx⟩,h3,o3⟩;refine⟨cx,rfl,?_⟩;have h3:yU w3 r2 (sC (sN (some l0))):=h3;have hb:=hb.only o3 h12;refine xz (yd hb rfl) ?_;have hs3:=o3.2.2.2.1;refine zb (rdnum' h3 (n:=8) (by omega)) ?_;rintro _ w4 ⟨⟨n8,rfl,hn8,_⟩,h4,o4⟩;refine⟨_,rfl,?_⟩;have h4:yU w4 r2 (sK 8 (sC (sN (some l0)))):=h4;have hb:=hb.only o4 h12;refine xz (yd hb rfl) ?_;have hs4:=o4.2.2.2.1;refine zb (rdnum' h4 (n:=4) (by omega)) ?_;rintro _ w5 ⟨⟨n4,rfl,hn4,_⟩,h5,o5⟩;refine⟨_,rfl,?_⟩;have h5:yU w5 r2 (sK 4 (sK 8 (sC (sN (some l0))))):=h5;have hb:=hb.only o5 h12;refine xz (yd hb rfl) ?_;have hs5:=o5.2.2.2.1;refine zb (zb3 h5) ?_;rintro _ w6 ⟨⟨k,rfl,hk⟩,h6,o6⟩;refine⟨_,rfl,?_⟩;have h6:yU w6 r2 (s1 (sK 4 (sK 8 (sC (sN (some l0)))))):=h6;rw[zpv]at h6;have hb:=hb.only o6 h12;refine xz (yd hb rfl) ?_;have hs6:=o6.2.2.2.1
 -- the tables so far
 have o26:OnR r2 w2 w6:=((o3.trans o4).trans o5).trans o6;have o16:OnR r2 w w6:=(OnR.trans (Only.zG he1) o2).trans o26;have o36:OnR r2 w3 w6:=(o4.trans o5).trans o6;have hrow6:=hrow.only o16 (fun q hq e=>by have:=hrow.row q hq;have:q=r2:=e;omega);have hT6:=hT.only o16 (fun q hq=>by have:q=r2:=hq;omega);refine zs fun r16 w7 hb7 he7 hr7 hz7=>?_;have hb:=hb.ext he7;refine xz (yd hb rfl) ?_;have hxx:Sli zX w7 (some ⟨r16,0,none⟩) 1 [((nm,cx,k,n8,wrap .i64 ((n4:Nat):Int)):Raw)]:=Sli.xX (E:=zX) (xs:=[(nm,cx,k,n8,wrap .i64 ((n4:Nat):Int))]) hb7 rfl (by omega);have hs7:=he7.size;have hrow7:=hrow6.ext he7;refine xw (E:=zX) zd8 hrow7 (by omega) hxx (by omega) (by omega) ?_;intro A8 c8 w8 ho8 hg8 _;have hs8:=hg8.grown.size;have hr1r:orow x.1≠some r1:=fun e=>by have:=hrow.row _ e;omega
 have hr2r:orow x.1≠some r2:=fun e=>by have:=hrow.row _ e;omega
 have hb8:Blk w8 r1 (zN x (none,0,0)) 25:=hb.grown hg8.grown (fun e=>hr1r e.symm);refine stE (o:=0) hb8 rfl (by show 0<2;omega) ?_;intro w9 hb9 o9;have o78:Only (fun q=>orow x.1=some q) w7 w8:=Only.z8 hg8.grown (fun q hq=>.inl hq);have h9:yU w9 r2 ((jB l0).map fun p=>p.2):=((h6.ext he7).only o78 hr2r).only o9 (fun e=>h12 e.symm);have ho9:=ho8.only o9 (fun q hq e=>by have:=ho8.row q hq;have:q=r1:=e;omega);have hall:Only (fun q=>q=r1\/q=r2\/B0<=q) w w9:=by
  refine Only.trans (Only.trans (hO o16) (Only.zG (F:=fun q=>q=r1\/q=r2\/B0<=q) he7) (fun q hq=>.inl hq)) ?_ (fun q hq=>.inl hq);refine Only.trans (F:=fun q=>q=r1\/q=r2\/B0<=q) (o78.mono (fun q hq=>.inr (.inr (hrow.row q hq)))) (o9.mono (fun q hq=>.inl hq)) (fun q hq=>.inl hq)
 refine hK w9 ⟨(A8,x.2.1+1,c8),_,_,hb9,ho9,by dsimp only;omega,h9,?_⟩ hall;cases he:jB l0 with
 |none=>exact .inl ⟨rfl,hL.bad he⟩
 |some p=>
  obtain⟨e,t⟩:=p;refine .inr ⟨t,acc++[e],rfl,by have:=zpx he;omega,?_,hL.step he⟩;obtain⟨q1,q2,y1,q3,y2,q4,g1,g2,g3,g4,g5,g6,g7⟩:=zlf he;have eN:sN (some l0)=some q1:=by show(nmR l0).map (fun p=>p.2)=_;rw[g1];rfl
  have eC:sC (sN (some l0))=some q2:=by rw[eN];show(yf q1).map (fun p=>p.2)=_;rw[g2];rfl
  have eK:sK 8 (sC (sN (some l0)))=some q3:=by rw[eC];show(zA 8 q2).map (fun p=>p.2)=_;rw[g3];rfl
  have eK4:sK 4 (sK 8 (sC (sN (some l0))))=some q4:=by rw[eK];show(zA 4 q3).map (fun p=>p.2)=_;rw[g4];rfl
  have enm:nm=e.1:=hnm (e.1,q1) g1;have en8:n8=e.2.2.2.1:=by rw[g6];exact hn8 (y1,q3) (by rw[eC];exact g3)
  have en4:n4=lev y2:=hn4 (y2,q4) (by rw[eK];exact g4);have ek:k=e.2.2.1:=by
   have:=hk (e.2.2.1,t) (by rw[eK4];exact g5);exact this
  have hy2:lev y2<4294967296:=by
   have:=jn y2;rw[(qm g4).1]at this;exact this
  have hcols:=(hcx (e.2.1,q2) (by rw[eN];exact g2));refine yw.snoc (w:=w6) hT6 ho9 (fun i hi=>?_) ⟨enm,?_,?_⟩
  ·have h1:=((hT6.at_ i hi).ext he7).grown hrow7 hg8.grown;exact h1.only o9 (fun q hq=>by have:q=r1:=hq;omega)
  ·show(k,n8,wrap .i64 ((n4:Nat):Int))=e.2.2;rw[ek,en8,en4,wrap_i64 (by omega) (by omega),<- g7]
  ·have h1:=(hcols.lower (B':=B0) (by omega)).only o36 (fun q hq e=>by have:=hcols.row q hq;have:q=r2:=e;omega);have h2:=(h1.ext he7).grown hg8.grown (fun q hq=>hrow7.ne (h1.ext he7) (by decide) q hq);exact h2.only o9 (fun q hq e=>by have:=h2.row q hq;have:q=r1:=e;omega)
end V
/- Contracts of the package catalog:Read. -/
namespace V
open Go Go.Proofs Go.RowKit Crc
variable {w w':World} {r:Nat} {st:Option (List UInt8)}
theorem yU.uG {l0:List UInt8} (hR:yU w r st) (hst:yU w r (some l0)):st=some l0:=by
 cases st with
 |none=>
  obtain⟨s,hs⟩:=hR;have h1:w.heap[r]?=some _:=hs;have h2:w.heap[r]?=some _:=hst;rw[h1]at h2;injection h2 with h2
  injection h2 with h2 _ _
  have:=congrArg (fun a=>a.toList[1]?) h2;simp at this
 |some l1=>
  have h1:w.heap[r]?=some _:=hR;have h2:w.heap[r]?=some _:=hst;rw[h1]at h2;injection h2 with h2
  injection h2 with h2 _ _
  have:=congrArg (fun a=>a.toList[0]?) h2;simp at this;rw[show l1=l0 from by have:=congrArg V.B this;rwa [yV,yV]at this]
theorem yw.zlh {B0:Nat} {x:SLC} {raws:List Raw} {es:List Ent} {A:Option Addr} {n c:Nat} {ss:List Snp} (h:yw w B0 x raws es) (ho:Owni yM 46 w B0 A n c ss) (hg:w.grownBy w' (orow A)):yw w' B0 x raws es:=
 ⟨h.row.grown hg (fun j hj=>ho.ne h.row (by decide) j hj),h.len,fun i hi=>⟨(h.at_ i hi).name,(h.at_ i hi).rest,(h.at_ i hi).cols.grown hg (fun j hj=>ho.ne (h.at_ i hi).cols (by decide) j hj)⟩⟩
def zaR (tot:Option (List Snp×List UInt8)) (es:List Ent) (z r1 r2 B0:Nat) (j:Nat) (w:World):Prop:=
 ∃ (x y:SLC) (ss:List Snp) (st:Option (List UInt8)),Blk w r1 (zN x y) 25/\Owni yM 46 w B0 y.1 y.2.1 y.2.2 ss/\y.2.1+j<=255/\yU w r2 st/\
  ((st=none/\tot=none)\/∃ l raws,st=some l/\l.length<=z/\yw w B0 x raws es/\Left jM tot j ss l)
theorem zkd {tot:Option (List Snp×List UInt8)} {es:List Ent} {z r1 r2 B0 j:Nat} {K:WP} (hz:z<=1000000) (hr1:r1<B0) (hr2:r2<B0) (h12:r1≠r2) (h:zaR tot es z r1 r2 B0 (j+1) w) (hB:B0<=w.heap.size) {l0:List UInt8} (hst:yU w r2 (some l0))
  (hK:∀ w',zaR tot es z r1 r2 B0 j w'->Only (fun k=>k=r1\/k=r2\/B0<=k) w w'->K w'):(zD<|
  ldW .slc ((aD r1).add 1) fun(u10:SLC)=>
  ze prog 45 [.pointer (some (aD r2))] (.one (.one .str)) fun(u11:ByteArray)=>
  zr [[((aD r1).add 1,.slice u10.1 u10.2.1 u10.2.2)]]<|
  ze prog 47 [.pointer (some (aD r2))] (.one (.one (.int .u32))) fun(u15:Int)=>
  zr [[((aD r1).add 1,.slice u10.1 u10.2.1 u10.2.2)]]<|
  zi (.cells #[.string u11,.int .u32 u15] 46) fun(r16:Nat)=>
  zr [[((aD r1).add 1,.slice u10.1 u10.2.1 u10.2.2)]]<|
  zv prog (Builtin.append_ #[23,23] 23 #[.slice u10.1 u10.2.1 u10.2.2,.slice (some (aD r16)) 1 1]) .slc fun(u17:SLC)=>
  stW ((aD r1).add 1) (.slice u17.1 u17.2.1 u17.2.2) K) w:=by
 obtain⟨x,y,ss,st,hb,hrow,hx,hR,hcase⟩:=h;obtain rfl:=hR.uG hst;rcases hcase with ⟨e,_⟩|⟨l,raws,e,hlz,hT,hL⟩
 ·cases e
 obtain rfl:l0=l:=by injection e
 have hxl:=hrow.len;refine zK fun w1 he1 hz1 hh1=>?_;have hb:=hb.ext he1;refine zk 1 y hb (by rfl) ?_;refine zb (rdname' (hR.ext he1)) ?_;rintro _ w2 ⟨⟨nm,rfl,hnm⟩,h2,o2⟩;refine⟨_,rfl,?_⟩;have hb:=hb.only o2 h12;refine xz (yF hb rfl) ?_;have hs2:=o2.2.2.2.1;refine zb (zb3 h2) ?_;rintro _ w6 ⟨⟨k,rfl,hk⟩,h6,o6⟩;refine⟨_,rfl,?_⟩;have h6:yU w6 r2 (s1 (sN (some l0))):=h6;rw[zpw]at h6;have hb:=hb.only o6 h12;refine xz (yF hb rfl) ?_;have hs6:=o6.2.2.2.1;have o16:OnR r2 w w6:=(OnR.trans (Only.zG he1) o2).trans o6;have hrow6:=hrow.only o16 (fun q hq e=>by have:=hrow.row q hq;have:q=r2:=e;omega);have hT6:=hT.only o16 (fun q hq=>by have:q=r2:=hq;omega);refine zs fun r16 w7 hb7 he7 hr7 hz7=>?_;have hb:=hb.ext he7;refine xz (yF hb rfl) ?_;have hxx:Sli yM w7 (some ⟨r16,0,none⟩) 1 [((nm,k):Snp)]:=Sli.xX (E:=yM) (xs:=[(nm,k)]) hb7 rfl (by omega);have hs7:=he7.size;have hrow7:=hrow6.ext he7;refine xw (E:=yM) zd9 hrow7 (by omega) hxx (by omega) (by omega) ?_;intro A8 c8 w8 ho8 hg8 _;have hs8:=hg8.grown.size;have hr1r:orow y.1≠some r1:=fun e=>by have:=hrow.row _ e;omega
 have hr2r:orow y.1≠some r2:=fun e=>by have:=hrow.row _ e;omega
 have hb8:Blk w8 r1 (zN x y) 25:=hb.grown hg8.grown (fun e=>hr1r e.symm);refine stE (o:=1) hb8 (by rw[zx]) (by show 1<2;omega) ?_;intro w9 hb9 o9;have o78:Only (fun q=>orow y.1=some q) w7 w8:=Only.z8 hg8.grown (fun q hq=>.inl hq);have h9:yU w9 r2 ((jM l0).map fun p=>p.2):=((h6.ext he7).only o78 hr2r).only o9 (fun e=>h12 e.symm);have ho9:=ho8.only o9 (fun q hq e=>by have:=ho8.row q hq;have:q=r1:=e;omega);have hall:Only (fun q=>q=r1\/q=r2\/B0<=q) w w9:=by
  refine Only.trans (Only.trans (o16.mono (fun k hk=>.inr (.inl hk))) (Only.zG (F:=fun q=>q=r1\/q=r2\/B0<=q) he7) (fun q hq=>.inl hq)) ?_ (fun q hq=>.inl hq);refine Only.trans (F:=fun q=>q=r1\/q=r2\/B0<=q) (o78.mono (fun q hq=>.inr (.inr (hrow.row q hq)))) (o9.mono (fun q hq=>.inl hq)) (fun q hq=>.inl hq)
 refine hK w9 ⟨x,(A8,y.2.1+1,c8),_,_,hb9,ho9,by dsimp only;omega,h9,?_⟩ hall;cases he:jM l0 with
 |none=>exact .inl ⟨rfl,hL.bad he⟩
 |some p=>
  obtain⟨e,t⟩:=p;obtain⟨q1,g1,g5⟩:=zlg he;have eN:sN (some l0)=some q1:=by show(nmR l0).map (fun p=>p.2)=_;rw[g1];rfl
  have enm:nm=e.1:=hnm (e.1,q1) g1;have ek:k=e.2:=hk (e.2,t) (by rw[eN];exact g5);have ee:((nm,k):Snp)=e:=by rw[enm,ek]
  refine .inr ⟨t,raws,rfl,by have:=zpy he;omega,?_,by rw[ee];exact hL.step he⟩;exact((hT6.ext he7).zlh hrow7 hg8.grown).only o9 (fun q hq=>by have:q=r1:=hq;omega)
theorem zaQ.rd {tot:Option (List Ent×List UInt8)} {z r1 r2 B0 j:Nat} (h:zaQ tot z r1 r2 B0 j w):∃ st,yU w r2 st/\(st=none->tot=none):=by
 obtain⟨x,raws,st,hb,hrow,hx,hR,hcase⟩:=h;refine⟨st,hR,fun e=>?_⟩;rcases hcase with ⟨_,h⟩|⟨l,acc,e',_⟩
 ·exact h
 ·rw[e]at e';cases e'
theorem zaR.rd {tot:Option (List Snp×List UInt8)} {es:List Ent} {z r1 r2 B0 j:Nat} (h:zaR tot es z r1 r2 B0 j w):∃ st,yU w r2 st/\(st=none->tot=none):=by
 obtain⟨x,y,ss,st,hb,hrow,hx,hR,hcase⟩:=h;refine⟨st,hR,fun e=>?_⟩;rcases hcase with ⟨_,h⟩|⟨l,acc,e',_⟩
 ·exact h
 ·rw[e]at e';cases e'
def jX (s:List UInt8):Option (List Ent×List UInt8):=match zA 1 s with
 |none=>none
 |some (b,r)=>xd jB (lev b) r
def zcQ (t:Option (List Ent×List UInt8)):Option (List Snp×List UInt8):=match t with
 |none=>none
 |some (_,r)=>match zA 1 r with
  |none=>none
  |some (b,r')=>xd jM (lev b) r'
theorem zea (s:List UInt8):zbu s=match jX s with
 |none=>none
 |some (ts,r)=>match zcQ (some (ts,r)) with
  |none=>none
  |some (ss,r4)=>if r4=[] then some (ts,ss) else none:=by
 unfold zbu jX zcQ;cases zA 1 s with
 |none=>rfl
 |some p=>
  obtain⟨b,r⟩:=p;dsimp only;cases xd jB (lev b) r with
  |none=>rfl
  |some q=>
   obtain⟨ts,r2⟩:=q;dsimp only;cases zA 1 r2 with
   |none=>rfl
   |some q2=>rfl
end V
/- Contracts of the package catalog:Read,whole. -/
namespace V
open Go Go.Proofs Go.RowKit Crc
variable {w w':World}
theorem zga (s:ByteArray):(s.toList==(ByteArray.mk #[]).toList)=decide (B s=[]):=by rw[x6];rfl
theorem zaQ.out {tot:Option (List Ent×List UInt8)} {z r1 r2 B0 j:Nat} (h:zaQ tot z r1 r2 B0 j w) (hj:(∃ st,yU w r2 st/\st=none)\/j=0):zaQ tot z r1 r2 B0 0 w:=by
 obtain⟨x,raws,st,hb,hrow,hx,hR,hcase⟩:=h;rcases hj with ⟨st',h1,rfl⟩|rfl
 ·cases st with
  |none=>exact⟨x,raws,none,hb,hrow,by omega,hR,.inl ⟨rfl,by rcases hcase with ⟨_,h⟩|⟨l,acc,e',_⟩;exact h;cases e'⟩⟩
  |some l=>exact absurd (h1.uG hR) (by simp)
 ·exact⟨x,raws,st,hb,hrow,hx,hR,hcase⟩
theorem zaR.out {tot:Option (List Snp×List UInt8)} {es:List Ent} {z r1 r2 B0 j:Nat} (h:zaR tot es z r1 r2 B0 j w) (hj:(∃ st,yU w r2 st/\st=none)\/j=0):zaR tot es z r1 r2 B0 0 w:=by
 obtain⟨x,y,ss,st,hb,hrow,hx,hR,hcase⟩:=h;rcases hj with ⟨st',h1,rfl⟩|rfl
 ·cases st with
  |none=>exact⟨x,y,ss,none,hb,hrow,by omega,hR,.inl ⟨rfl,by rcases hcase with ⟨_,h⟩|⟨l,acc,e',_⟩;exact h;cases e'⟩⟩
  |some l=>exact absurd (h1.uG hR) (by simp)
 ·exact⟨x,y,ss,st,hb,hrow,hx,hR,hcase⟩
theorem zb4 {s:ByteArray} (hs:s.size<=1000000):Calls prog 12 #[.string s] w (Ret fun v w'=>(∃ x y,v=.tuple #[.agg (zN x y).toArray,.int .i64 (xH (B s)).2]/\yy w' w.heap.size x y (xH (B s)).1)/\Ext w w'):=by
 apply zn2;unfold S12;refine zs fun r1 w1 hb1 he1 hr1 hz1=>?_;refine zs fun r2 w2 hb2 he2 hr2 hz2=>?_;have hb1:Blk w2 r1 (zN (none,0,0) (none,0,0)) 25:=hb1.ext he2;have hR2:yU w2 r2 (some (B s)):=by
  show Blk w2 r2 [.string (mkB (B s)),.int .i64 0] _;rw[zc3];exact hb2
 have he02:=he1.trans he2;have h12:r1≠r2:=by omega
 have hlen:=zP s;generalize hB0:w2.heap.size=B0 at *;have hr1B:r1<B0:=by omega
 have hr2B:r2<B0:=by omega
 have hup:∀ {w8:World},Only (fun k=>k=r1\/k=r2\/B0<=k) w2 w8->Ext w w8:=fun o=>Only.ext he02 o (fun j hj=>by rcases hj with e|e|e<;>omega)
 -- the tables
 refine yi (fun _ w'=>zaQ (jX (B s)) s.size r1 r2 B0 0 w'/\Only (fun k=>k=r1\/k=r2\/B0<=k) w2 w') ?_ (fun J3 hJ3=>?_);rotate_left
 ·refine zb (rdnum' hR2 (n:=1) (by omega)) ?_;rintro _ w3 ⟨⟨n,rfl,hn,hn0⟩,h3,o3⟩;refine⟨_,rfl,?_⟩;have h3:yU w3 r2 ((zA 1 (B s)).map fun p=>p.2):=h3;have hs3:=o3.2.2.2.1;have hI:zaQ (jX (B s)) s.size r1 r2 B0 n w3/\n<=255:=by
   cases hc:zA 1 (B s) with
   |none=>
    have:=hn0 hc;rw[hc]at h3;subst this;exact⟨⟨(none,0,0),[],none,hb1.only o3 h12,Owni.nil _ _ _,by simp,h3,.inl ⟨rfl,by unfold jX;rw[hc]⟩⟩,by omega⟩
   |some p=>
    obtain⟨q,t⟩:=p;have e:=hn (q,t) hc;rw[hc]at h3;have hlv:lev q<256:=by
     have:=jn q;rw[(qm hc).1]at this;exact this
    dsimp only at e;refine⟨⟨(none,0,0),[],some t,hb1.only o3 h12,Owni.nil _ _ _,by dsimp only;omega,h3,.inr ⟨t,[],rfl,by have:=kr hc;omega,⟨Owni.nil _ _ _,rfl,fun i hi=>by cases hi⟩,?_⟩⟩,by omega⟩;have:jX (B s)=xd jB n t:=by unfold jX;rw[hc,e]
    rw[this];exact Left.init
  obtain⟨hI,hn255⟩:=hI;refine zu (fun y w'=>∃ j:Nat,j<=255/\y=((j:Int),())/\zaQ (jX (B s)) s.size r1 r2 B0 j w'/\Only (fun k=>k=r1\/k=r2\/B0<=k) w2 w'/\B0<=w'.heap.size) (fun y=>y.1.toNat) ⟨n,hn255,rfl,hI,o3.mono (fun k hk=>.inr (.inl hk)),by omega⟩ ?_;rintro _ w4 ⟨j,hj,rfl,hI4,o4,hs4⟩;dsimp only;obtain⟨st,hR4,_⟩:=hI4.rd
  by_cases h0:j=0
  ·subst h0;exact zd (by rfl) (hJ3 _ _ ⟨hI4,o4⟩)
  ·refine zf (decide_eq_true (by omega)) (zp ?_);cases st with
   |none=>
    obtain⟨s',hs'⟩:=id hR4;exact zk 1 (240:Int) hs' (by rfl) (zd (by rfl) (hJ3 _ _ ⟨hI4.out (.inl ⟨none,hR4,rfl⟩),o4⟩))
   |some l=>
    have hb4:Blk w4 r2 [.string (mkB l),.int .i64 0] 92:=hR4;obtain⟨j,rfl⟩:∃ j',j=j'+1:=⟨j-1,by omega⟩;refine zk 1 (0:Int) hb4 (by rfl) (zf (by rfl) ?_);refine zkc hs hr1B hr2B h12 hI4 hs4 hR4 fun w5 hI5 o5=>?_;have ew:wrap .u64 (((j+1:Nat):Int)-1)=(j:Int):=by rw[show((j+1:Nat):Int)-1=((j:Nat):Int) by omega,zz (by omega)]
    have hs5:=o5.2.2.2.1;exact⟨⟨j,by omega,by rw[ew],hI5,Only.trans o4 o5 (fun k hk=>.inl hk),by omega⟩,by rw[ew];omega⟩
 rintro _ w3 ⟨hI,o3⟩;obtain⟨x,raws,st,hb3,hrow,hx,hR3,hcase⟩:=hI;have hs3:=o3.2.2.2.1
 -- the snapshots
 refine yi (fun _ w'=>∃ es,zaR (zcQ (jX (B s))) es s.size r1 r2 B0 0 w'/\(∀ ts t,jX (B s)=some (ts,t)->es=ts)/\Only (fun k=>k=r1\/k=r2\/B0<=k) w2 w') ?_ (fun J18 hJ18=>?_);rotate_left
 ·refine zb (rdnum' hR3 (n:=1) (by omega)) ?_;rintro _ w4 ⟨⟨n,rfl,hn,hn0⟩,h4,o4⟩;refine⟨_,rfl,?_⟩;have hs4:=o4.2.2.2.1;have hI:∃ es,zaR (zcQ (jX (B s))) es s.size r1 r2 B0 n w4/\(∀ ts t,jX (B s)=some (ts,t)->es=ts)/\n<=255:=by
   rcases hcase with ⟨rfl,ht⟩|⟨l,acc,rfl,hlz,hT,hL⟩
   ·have:=hn0 rfl;subst this;exact⟨[],⟨x,(none,0,0),[],none,hb3.only o4 h12,Owni.nil _ _ _,by simp,h4,.inl ⟨rfl,by rw[ht];rfl⟩⟩,fun ts t h=>(by rw[ht]at h;cases h),by omega⟩
   ·have ht:=hL.done;have h4:yU w4 r2 ((zA 1 l).map fun p=>p.2):=h4;have hT4:=hT.only o4 (fun q hq=>by have:q=r2:=hq;omega);refine⟨acc,?_⟩;cases hc:zA 1 l with
    |none=>
     have:=hn0 hc;rw[hc]at h4;subst this;exact⟨⟨x,(none,0,0),[],none,hb3.only o4 h12,Owni.nil _ _ _,by simp,h4,.inl ⟨rfl,by rw[ht];unfold zcQ;dsimp only;rw[hc]⟩⟩,fun ts t h=>by rw[ht]at h;cases h;rfl,by omega⟩
    |some p=>
     obtain⟨q,t⟩:=p;have e:=hn (q,t) hc;rw[hc]at h4;have hlv:lev q<256:=by
      have:=jn q;rw[(qm hc).1]at this;exact this
     dsimp only at e;refine⟨⟨x,(none,0,0),[],some t,hb3.only o4 h12,Owni.nil _ _ _,by dsimp only;omega,h4,.inr ⟨t,raws,rfl,by have:=kr hc;omega,hT4,?_⟩⟩,fun ts t h=>by rw[ht]at h;cases h;rfl,by omega⟩;have:zcQ (jX (B s))=xd jM n t:=by rw[ht];unfold zcQ;dsimp only;rw[hc,e]
     rw[this];exact Left.init
  obtain⟨es,hI,hes,hn255⟩:=hI;refine zu (fun y w'=>∃ j:Nat,j<=255/\y=((j:Int),())/\zaR (zcQ (jX (B s))) es s.size r1 r2 B0 j w'/\Only (fun k=>k=r1\/k=r2\/B0<=k) w2 w'/\B0<=w'.heap.size) (fun y=>y.1.toNat) ⟨n,hn255,rfl,hI,Only.trans o3 (o4.mono (fun k hk=>.inr (.inl hk))) (fun k hk=>.inl hk),by omega⟩ ?_;rintro _ w5 ⟨j,hj,rfl,hI5,o5,hs5⟩;dsimp only;obtain⟨st',hR5,_⟩:=hI5.rd
  by_cases h0:j=0
  ·subst h0;exact zd (by rfl) (hJ18 _ _ ⟨es,hI5,hes,o5⟩)
  ·refine zf (decide_eq_true (by omega)) (zp ?_);cases st' with
   |none=>
    obtain⟨s',hs'⟩:=id hR5;exact zk 1 (240:Int) hs' (by rfl) (zd (by rfl) (hJ18 _ _ ⟨es,hI5.out (.inl ⟨none,hR5,rfl⟩),hes,o5⟩))
   |some l=>
    have hb5:Blk w5 r2 [.string (mkB l),.int .i64 0] 92:=hR5;obtain⟨j,rfl⟩:∃ j',j=j'+1:=⟨j-1,by omega⟩;refine zk 1 (0:Int) hb5 (by rfl) (zf (by rfl) ?_);refine zkd hs hr1B hr2B h12 hI5 hs5 hR5 fun w6 hI6 o6=>?_;have ew:wrap .u64 (((j+1:Nat):Int)-1)=(j:Int):=by rw[show((j+1:Nat):Int)-1=((j:Nat):Int) by omega,zz (by omega)]
    have hs6:=o6.2.2.2.1;exact⟨⟨j,by omega,by rw[ew],hI6,Only.trans o5 o6 (fun k hk=>.inl hk),by omega⟩,by rw[ew];omega⟩
 rintro _ w4 ⟨es,hI,hes,o4⟩;obtain⟨x,y,ss,st,hb4,hrow,hx,hR4,hcase⟩:=hI;have he4:=hup o4;have hs4:=o4.2.2.2.1;have bad:∀ {w5:World},Blk w5 r1 (zN x y) 25->Ext w w5->xH (B s)=(zaE,240)->(zc ((#[.slice none 0 0,.slice none 0 0]:Array Value).size=2)<|zt (aD r1) [.slice none 0 0,.slice none 0 0]<|zl [.slc,.slc] (aD r1) fun(u:SLC×SLC×Unit)=>fun w'=>(∃ x y,Value.tuple #[.agg #[.slice u.1.1 u.1.2.1 u.1.2.2,.slice u.2.1.1 u.2.1.2.1 u.2.1.2.2],.int .i64 240]=.tuple #[.agg (zN x y).toArray,.int .i64 (xH (B s)).2]/\yy w' w.heap.size x y (xH (B s)).1)/\Ext w w') w5:=by
  intro w5 hb5 he5 hk;refine refill (vs:=zN (none,0,0) (none,0,0)) hb5 (by rfl) (xQ _ _) (by rfl) ?_;intro w6 hb6 hx6 hk6 hz6;refine zR (ls:=xh) (xk (none,0,0) (none,0,0)) hb6 (by rfl) ?_;rw[hk];exact⟨⟨_,_,rfl,zbL _ _⟩,hx6 w he5 (by omega)⟩
 refine zp ?_;rcases hcase with ⟨rfl,ht⟩|⟨l,raws',rfl,hlz,hT,hL⟩
 ·obtain⟨s',hs'⟩:=hR4;refine zk 1 (240:Int) hs' (by rfl) (zf (by rfl) ?_);refine bad hb4 he4 ?_;unfold xH;rw[zea];cases hq:jX (B s) with
  |none=>rfl
  |some p=>rw[hq]at ht;dsimp only;rw[ht]
 have hb42:Blk w4 r2 [.string (mkB l),.int .i64 0] 92:=hR4;refine zk 1 (0:Int) hb42 (by rfl) (zd (by rfl) (zp ?_));refine zC (mkB l) hb42 (by rfl) ?_;have ht:=hL.done;obtain⟨t0,ht0⟩:∃ t0,jX (B s)=some (es,t0):=by
  cases hq:jX (B s) with
  |none=>rw[hq]at ht;cases ht
  |some p=>
   obtain⟨p1,p2⟩:=p;exact⟨p2,by rw[hes p1 p2 hq]⟩
 rw[ht0]at ht;rw[zga]
 by_cases hl:l=[]
 ·subst hl;refine zd (by rfl) ?_;refine zR (ls:=xh) (xk x y) hb4 (by rfl) ?_;have hrd:zbu (B s)=some (es,ss):=by
   rw[zea,ht0];dsimp only;rw[ht];dsimp only;rw[if_pos rfl]
  have hown:yy w4 B0 x y (es,ss):=⟨⟨raws',hT⟩,hrow⟩;refine zb (vH hown.cat) ?_;rintro _ w5 ⟨rfl,he5⟩;refine⟨_,rfl,?_⟩;have hb5:=hb4.ext he5;have he05:=he4.trans he5;cases hok:qp (es,ss) with
  |false=>
   refine zf (by rfl) (bad hb5 he05 ?_);unfold xH;rw[hrd];dsimp only;rw[hok];rfl
  |true=>
   refine zd (by rfl) ?_;refine zR (ls:=xh) (xk x y) hb5 (by rfl) ?_;refine refill (vs:=zN x y) hb5 (by rfl) (xQ _ _) (by rfl) ?_;intro w6 hb6 hx6 hk6 hz6;have he6:=hx6 w he05 (by omega);refine zR (ls:=xh) (xk x y) hb6 (by rfl) ?_;have hk:xH (B s)=((es,ss),0):=by
    unfold xH;rw[hrd];dsimp only;rw[hok];rfl
   rw[hk];refine⟨⟨x,y,rfl,((hown.ext he5).only (F:=fun k=>k=r1) ⟨he6.os.trans he05.os.symm,he6.tape.trans he05.tape.symm,he6.output.trans he05.output.symm,Nat.le_of_eq hz6.symm,fun k _ hk=>hk6 k hk⟩ (fun k hk=>by omega)).lower (by have:=he02.size;omega)⟩,he6⟩
 ·refine zf (by rw[decide_eq_false (by rw[yV];exact hl)];rfl) (bad hb4 he4 ?_);unfold xH;rw[zea,ht0];dsimp only;rw[ht];dsimp only;rw[if_neg hl]
end V
/- Contracts of the package shadowbookref24:Same. -/
namespace V
open Go Go.Proofs Go.RowKit Crc
variable {w w':World}
def ze3 (a b:Snp):Bool:=decide (B a.1=B b.1)&&(((a.2:Int)==(b.2:Int))&&true)
theorem zgb {a b:Snp}:ze3 a b=true↔a=b:=by
 unfold ze3;simp only [Bool.and_eq_true,decide_eq_true_eq,beq_iff_eq,and_true];constructor
 ·rintro⟨h1,h2⟩;exact Prod.ext (jy h1) (by omega)
 ·rintro rfl;exact⟨rfl,rfl⟩
theorem zke (w:World) (a b:Snp):(Op.eqFields 9999 #[.string a.1,.int .u32 (a.2:Int)] #[.string b.1,.int .u32 (b.2:Int)] (prog.fieldsOf 46).toList).run prog w=.ok (ze3 a b) w:=by
 have hf:(prog.fieldsOf 46).toList=[(prog.fieldsOf 46).getD 0 default,(prog.fieldsOf 46).getD 1 default]:=by kernel_rfl
 rw[hf];unfold ze3;rw[<- x6];refine qk (of_decide_eq_true (by kernel_rfl)) (a:=.string a.1) (b:=.string b.1) (by kernel_rfl) (by kernel_rfl) (run_equalIn_string w 9998 _ _ _ (by kernel_rfl)) ?_;refine qk (of_decide_eq_true (by kernel_rfl)) (a:=.int .u32 (a.2:Int)) (b:=.int .u32 (b.2:Int)) (by kernel_rfl) (by kernel_rfl) (run_equalIn_int w 9998 _ .u32 .u32 _ _ (by kernel_rfl)) ?_;rfl
theorem zpz (w:World) (a b:Snp) (x y:Operand):(eqS .neq 46 x y (.agg #[.string a.1,.int .u32 (a.2:Int)]) (.agg #[.string b.1,.int .u32 (b.2:Int)])).run prog w=.ok (.bool (!(ze3 a b))) w:=
 zfn (by kernel_rfl) (by kernel_rfl) (by kernel_rfl) (zke w a b)
theorem ku {a:Addr} {r:Raw} (h:xf w a 0 (zX.f r)):HL w [(a.add 0,.string r.1),(a.add 1,.slice r.2.1.1 r.2.1.2.1 r.2.1.2.2),(a.add 2,.int .u32 (r.2.2.1:Int)),(a.add 3,.int .u64 (r.2.2.2.1:Int)),(a.add 4,.int .i64 r.2.2.2.2)]:=by
 obtain⟨h0,h1,h2,h3,h4,_⟩:=h;intro p hp;simp only [mem_cons,not_mem_nil,or_false]at hp;rcases hp with rfl|rfl|rfl|rfl|rfl
 ·exact h0
 ·exact h1
 ·exact h2
 ·exact h3
 ·exact h4
theorem xf.ext {a:Addr}:∀ {vs:List Value} {i:Nat},xf w a i vs->Ext w w'->xf w' a i vs
 |[],_,_,_=>trivial
 |_::_,_,h,he=>⟨he.cell h.1,xf.ext h.2 he⟩
theorem hl4 {a b c d:List (Addr×Value)} {K:WP} (ha:HL w a) (hb:HL w b) (hc:HL w c) (hd:HL w d) (hK:K w):zr [a,b,c,d] K w:=heldc ha (heldc hb (heldc hc (heldc hd (zqi hK))))
theorem znJ {α:Type} {l:List α} {i:Nat} {d:α} (h:i<l.length):l.take (i+1)=l.take i++[l.getD i d]:=by
 rw[take_succ_eq_append_getElem h,getD_eq_getElem?_getD,List.getElem?_eq_getElem h];rfl
theorem zbM {x y x2 y2:SLC} {c c2:Cat} (h:qj w x y c) (h2:qj w x2 y2 c2):
  Calls prog 13 #[.agg (zN x y).toArray,.agg (zN x2 y2).toArray] w (Ret fun v w'=>(∃ b:Bool,v=.bool b/\(b=true↔c=c2))/\Ext w w'):=by
 obtain⟨⟨ra,hA⟩,sA,_⟩:=h;obtain⟨⟨rb,hB⟩,sB,_⟩:=h2;have a1:=hA.sl.len;have a2:=hA.len;have a3:=sA.len;have a4:=hA.sl.le;have a5:=sA.le;have b1:=hB.sl.len;have b2:=hB.len;have b3:=sB.len;apply zn3;unfold S13;refine zs fun r1 w1 hb1 he1 hr1 hz1=>?_;refine zs fun r2 w2 hb2 he2 hr2 hz2=>?_;have hb1:Blk w2 r1 (zN x y) 25:=hb1.ext he2;have hb2:Blk w2 r2 (zN x2 y2) 25:=hb2;have he02:=he1.trans he2;have no:∀ {w5:World},Ext w w5->c≠c2->(fun v w'=>(∃ b:Bool,v=Value.bool b/\(b=true↔c=c2))/\Ext w w') (Value.bool false) w5:=fun he hne=>⟨⟨false,rfl,by simp[hne]⟩,he⟩;refine zC x hb1 (by rfl) (zC x2 hb2 (by rfl) ?_)
 by_cases hl:x.2.1=x2.2.1
 ·refine zd (bne_eq_false_iff_eq.2 (by omega)) ?_;refine zk 1 y hb1 (by rfl) (zk 1 y2 hb2 (by rfl) ?_)
  by_cases hl2:y.2.1=y2.2.1
  ·refine zd (bne_eq_false_iff_eq.2 (by omega)) ?_;refine zu (fun t w'=>∃ i:Nat,i<=x.2.1/\t=((i:Int),())/\Ext w2 w'/\c.1.take i=c2.1.take i) (fun t=>(x.2.1-t.1).toNat) ⟨0,by omega,rfl,Ext.refl _,rfl⟩ ?_;rintro _ w3 ⟨i,hi,rfl,he3,ht⟩;dsimp only;have hb13:=hb1.ext he3;have hb23:=hb2.ext he3;have he03:=he02.trans he3;refine zC x hb13 (by rfl) ?_
   by_cases hlt:i<x.2.1
   ·refine zf (decide_eq_true (by omega)) ?_;refine zK fun w4 he4 hz4 hh4=>?_;have hb14:=hb13.ext he4;have hb24:=hb23.ext he4;have he04:=he03.trans he4;have ga:ra[i]?=some (ra.getD i yl):=by rw[getD_eq_getElem?_getD,List.getElem?_eq_getElem (by omega)];rfl
    have gb:rb[i]?=some (rb.getD i yl):=by rw[getD_eq_getElem?_getD,List.getElem?_eq_getElem (by omega)];rfl
    have eA:=(hA.at_ i (by omega)).ext he04;have eB:=(hB.at_ i (by omega)).ext he04;have tA:c.1.take (i+1)=c.1.take i++[c.1.getD i zI]:=znJ (by omega);have tB:c2.1.take (i+1)=c2.1.take i++[c2.1.getD i zI]:=znJ (by omega);have hne:c.1.getD i zI≠c2.1.getD i zI->c≠c2:=fun h e=>h (by rw[e]);generalize ra.getD i yl=p at *;generalize rb.getD i yl=q at *;generalize c.1.getD i zI=ea at *;generalize c2.1.getD i zI=eb at *;refine zC x hb14 (by rfl) ?_;refine xY (hA.sl.ext he04) (by omega) (x:=p) (by rw[Int.toNat_natCast];exact ga) rfl ?_;intro pa hpa hca;refine qC (ls:=zbz) (x:=uj p) hca ?_;refine zC x2 hb24 (by rfl) ?_;refine xY (hB.sl.ext he04) (by omega) (x:=q) (by rw[Int.toNat_natCast];exact gb) rfl ?_;intro pb hpb hcb;refine qC (ls:=zbz) (x:=uj q) hcb ?_;have hw:wrap .i64 ((i:Int)+1)=((i+1:Nat):Int):=by rw[wrap_i64 (by omega) (by omega)];rfl
    rw[hw];refine⟨?a,?b⟩
    case' a=>
     refine zs fun rX w5 hX he5 hr5 hz5=>?_;refine hl4 (ku (hcb.ext he5)) (yd (hb24.ext he5) rfl) (ku (hca.ext he5)) (yd (hb14.ext he5) rfl) ?_;refine zs fun rY w6 hY he6 hr6 hz6=>?_;have he56:=he5.trans he6;refine hl4 (ku (hcb.ext he56)) (yd (hb24.ext he56) rfl) (ku (hca.ext he56)) (yd (hb14.ext he56) rfl) ?_;have hX:=hX.ext he6
    case' b=>
     refine zs fun rY w5 hY he5 hr5 hz5=>?_;refine hl4 (ku (hcb.ext he5)) (yd (hb24.ext he5) rfl) (ku (hca.ext he5)) (yd (hb14.ext he5) rfl) ?_;refine zs fun rX w6 hX he6 hr6 hz6=>?_;have he56:=he5.trans he6;refine hl4 (ku (hcb.ext he56)) (yd (hb24.ext he56) rfl) (ku (hca.ext he56)) (yd (hb14.ext he56) rfl) ?_;have hY:=hY.ext he6
    all_goals
     have he06:=he04.trans he56;have hs04:=he04.size;refine refill (vs:=zX.f p) hX (by rfl) (zX.one _) (by rfl) ?_;intro w7 hX7 hx7 hk7 hz7;have he7:Ext w4 w7:=hx7 w4 he56 (by have:=he5.size;omega);have hY7:Blk w7 rY _ _:=(hk7 rY (by omega)).trans hY;refine jo (ku (hcb.ext he7)) (yd (hb24.ext he7) rfl) ?_;refine refill (vs:=zX.f q) hY7 (by rfl) (zX.one _) (by rfl) ?_;intro w8 hY8 hx8 hk8 hz8;have he8:Ext w4 w8:=hx8 w4 he7 (by have:=he5.size;omega);have hX8:Blk w8 rX (zX.f p) 44:=(hk8 rX (by omega)).trans hX7;have he08:=he04.trans he8;have q1:p.2.2.1=ea.2.2.1:=by rw[eA.rest]
     have q2:p.2.2.2.1=ea.2.2.2.1:=by rw[eA.rest]
     have q3:p.2.2.2.2=ea.2.2.2.2:=by rw[eA.rest]
     have q4:q.2.2.1=eb.2.2.1:=by rw[eB.rest]
     have q5:q.2.2.2.1=eb.2.2.2.1:=by rw[eB.rest]
     have q6:q.2.2.2.2=eb.2.2.2.2:=by rw[eB.rest]
     have q7:=eA.cols.len;have q8:=eB.cols.len;have q9:=eA.cols.le;refine zC p.1 hX8 (by rfl) (zC q.1 hY8 (by rfl) ?_);rw[eA.name,eB.name,x6];refine zg (fun hq=>no he08 (hne (fun e=>by rw[e]at hq;simp at hq))) (fun hq=>?_);have n1:ea.1=eb.1:=jy (by simpa using hq);refine zk 2 ((p.2.2.1:Nat):Int) hX8 (by rfl) (zk 2 ((q.2.2.1:Nat):Int) hY8 (by rfl) ?_);refine zg (fun hq=>no he08 (hne (fun e=>by have:=bne_iff_ne.1 hq;rw[q1,q4,e]at this;exact this rfl))) (fun hq=>?_);have n2:p.2.2.1=q.2.2.1:=by have:=bne_eq_false_iff_eq.1 hq;omega
     refine zk 3 ((p.2.2.2.1:Nat):Int) hX8 (by rfl) (zk 3 ((q.2.2.2.1:Nat):Int) hY8 (by rfl) ?_);refine zg (fun hq=>no he08 (hne (fun e=>by have:=bne_iff_ne.1 hq;rw[q2,q5,e]at this;exact this rfl))) (fun hq=>?_);have n3:p.2.2.2.1=q.2.2.2.1:=by have:=bne_eq_false_iff_eq.1 hq;omega
     refine zk 4 p.2.2.2.2 hX8 (by rfl) (zk 4 q.2.2.2.2 hY8 (by rfl) ?_);refine zg (fun hq=>no he08 (hne (fun e=>by have:=bne_iff_ne.1 hq;rw[q3,q6,e]at this;exact this rfl))) (fun hq=>?_);have n4:p.2.2.2.2=q.2.2.2.2:=bne_eq_false_iff_eq.1 hq;refine zk 1 p.2.1 hX8 (by rfl) (zk 1 q.2.1 hY8 (by rfl) ?_);refine zg (fun hq=>no he08 (hne (fun e=>by have:=bne_iff_ne.1 hq;rw[e]at q7;omega))) (fun hq=>?_);have n5:p.2.1.2.1=q.2.1.2.1:=by have:=bne_eq_false_iff_eq.1 hq;omega
     refine zu (fun t w'=>∃ j:Nat,j<=p.2.1.2.1/\t=((j:Int),())/\Ext w8 w'/\ea.2.1.take j=eb.2.1.take j) (fun t=>(p.2.1.2.1-t.1).toNat) ⟨0,by omega,rfl,Ext.refl _,rfl⟩ ?_;rintro _ w9 ⟨j,hj,rfl,he9,htj⟩;dsimp only;refine zk 1 p.2.1 (hX8.ext he9) (by rfl) ?_
     by_cases hltj:j<p.2.1.2.1
     ·refine zf (decide_eq_true (by omega)) ?_;refine zK fun w10 he10 hz10 hh10=>?_;have he910:=he9.trans he10;have he410:=he8.trans he910;refine zk 1 p.2.1 (hX8.ext he910) (by rfl) ?_;have g1:ea.2.1[j]?=some (ea.2.1[j]'(by omega)):=List.getElem?_eq_getElem (by omega);have g2:eb.2.1[j]?=some (eb.2.1[j]'(by omega)):=List.getElem?_eq_getElem (by omega);have t1:ea.2.1.take (j+1)=ea.2.1.take j++[ea.2.1[j]'(by omega)]:=take_succ_eq_append_getElem (by omega);have t2:eb.2.1.take (j+1)=eb.2.1.take j++[eb.2.1[j]'(by omega)]:=take_succ_eq_append_getElem (by omega);have hnc:ea.2.1[j]'(by omega)≠eb.2.1[j]'(by omega)->c≠c2:=fun h=>hne (fun e=>h (by
       have e2:ea.2.1=eb.2.1:=by rw[e]
       simp only [e2]))
      generalize ea.2.1[j]'(by omega)=ca at *;generalize eb.2.1[j]'(by omega)=cb at *;refine xY (eA.cols.ext he410) (by omega) (x:=ca) (by rw[Int.toNat_natCast];exact g1) rfl ?_;intro pc hpc hcc;refine qC (ls:=[.str,(.int .i64),.bool]) (x:=(ca.1,ca.2.1,ca.2.2,())) hcc ?_;refine zk 1 q.2.1 (hY8.ext he910) (by rfl) ?_;refine xY (eB.cols.ext he410) (by omega) (x:=cb) (by rw[Int.toNat_natCast];exact g2) rfl ?_;intro pd hpd hcd;refine qC (ls:=[.str,(.int .i64),.bool]) (x:=(cb.1,cb.2.1,cb.2.2,())) hcd ?_;refine⟨_,fun w'=>zpb w' ca cb _ _,?_⟩;refine zg (fun hq=>no (he08.trans he910) (hnc (fun e=>by rw[zfV.2 e]at hq;cases hq))) (fun hq=>?_);have n6:ca=cb:=zfV.1 (by simpa using hq);exact⟨⟨j+1,by omega,by rw[wrap_i64 (by omega) (by omega)];rfl,he910,by rw[t1,t2,htj,n6]⟩,by rw[wrap_i64 (by omega) (by omega)];omega⟩
     ·refine zd (decide_eq_false (by omega)) ?_;have n7:ea.2.1=eb.2.1:=by
       rw[take_of_length_le (by omega),take_of_length_le (by omega)]at htj;exact htj
      have n8:ea=eb:=Prod.ext n1 (Prod.ext n7 (by rw[<- eA.rest,<- eB.rest];exact Prod.ext n2 (Prod.ext n3 n4)));exact⟨⟨i+1,by omega,rfl,(he3.trans he4).trans (he8.trans he9),by rw[tA,tB,ht,n8]⟩,by omega⟩
   ·refine zd (decide_eq_false (by omega)) ?_;have n1:c.1=c2.1:=by
     rw[take_of_length_le (by omega),take_of_length_le (by omega)]at ht;exact ht
    refine zu (fun t w'=>∃ i:Nat,i<=y.2.1/\t=((i:Int),())/\Ext w2 w'/\c.2.take i=c2.2.take i) (fun t=>(y.2.1-t.1).toNat) ⟨0,by omega,rfl,he3,rfl⟩ ?_;rintro _ w4 ⟨j,hj,rfl,he4,htj⟩;dsimp only;refine zk 1 y (hb1.ext he4) (by rfl) ?_
    by_cases hltj:j<y.2.1
    ·refine zf (decide_eq_true (by omega)) ?_;refine zK fun w5 he5 hz5 hh5=>?_;have he25:=he4.trans he5;have he05:=he02.trans he25;have g1:c.2[j]?=some (c.2[j]'(by omega)):=List.getElem?_eq_getElem (by omega);have g2:c2.2[j]?=some (c2.2[j]'(by omega)):=List.getElem?_eq_getElem (by omega);have t1:c.2.take (j+1)=c.2.take j++[c.2[j]'(by omega)]:=take_succ_eq_append_getElem (by omega);have t2:c2.2.take (j+1)=c2.2.take j++[c2.2[j]'(by omega)]:=take_succ_eq_append_getElem (by omega);have hnc:c.2[j]'(by omega)≠c2.2[j]'(by omega)->c≠c2:=fun h e=>h (by
      have e2:c.2=c2.2:=by rw[e]
      simp only [e2])
     generalize c.2[j]'(by omega)=ca at *;generalize c2.2[j]'(by omega)=cb at *;refine zk 1 y (hb1.ext he25) (by rfl) ?_;refine xY (sA.ext he05) (by omega) (x:=ca) (by rw[Int.toNat_natCast];exact g1) rfl ?_;intro pc hpc hcc;refine qC (ls:=zeT) (x:=zcB ca) hcc ?_;refine zk 1 y2 (hb2.ext he25) (by rfl) ?_;refine xY (sB.ext he05) (by omega) (x:=cb) (by rw[Int.toNat_natCast];exact g2) rfl ?_;intro pd hpd hcd;refine qC (ls:=zeT) (x:=zcB cb) hcd ?_;refine⟨_,fun w'=>zpz w' ca cb _ _,?_⟩;refine zg (fun hq=>no he05 (hnc (fun e=>by rw[zgb.2 e]at hq;cases hq))) (fun hq=>?_);have n6:ca=cb:=zgb.1 (by simpa using hq);exact⟨⟨j+1,by omega,by rw[wrap_i64 (by omega) (by omega)];rfl,he25,by rw[t1,t2,htj,n6]⟩,by rw[wrap_i64 (by omega) (by omega)];omega⟩
    ·refine zd (decide_eq_false (by omega)) ?_;have n2:c.2=c2.2:=by
      rw[take_of_length_le (by omega),take_of_length_le (by omega)]at htj;exact htj
     exact⟨⟨true,rfl,by simp[Prod.ext n1 n2]⟩,he02.trans he4⟩
  ·exact zf (bne_iff_ne.2 (by omega)) (no he02 (fun e=>hl2 (by rw[<- a3,<- b3,e])))
 ·exact zf (bne_iff_ne.2 (by omega)) (no he02 (fun e=>hl (by rw[<- a1,a2,<- b1,b2,e])))
end V
/- Contracts of the package blob:index,parts. -/
namespace V
open Go Go.Proofs Go.RowKit Crc
def qs (S:Spa) (n:Nat):Nat×List Nat×Int:=
 if (S.get n).2≠0 then (0,[],(S.get n).2)
 else if (S.get n).1.1≠6 then (0,[],11)
 else if (S.get n).1.2.2.size≠4 then (0,[],10)
 else if lev (B (S.get n).1.2.2)>65536\/nparts S.r0 (lev (B (S.get n).1.2.2))≠(S.get n).1.2.1.length then (0,[],10)
 else (lev (B (S.get n).1.2.2),(S.get n).1.2.1,0)
def zbN (S:Spa) (want k:Nat):Int:=if (S.get k).2=0/\((S.get k).1.1≠7\/0<(S.get k).1.2.1.length\/(S.get k).1.2.2.size≠want) then 10 else (S.get k).2
def goS (S:Spa):Nat->List Nat->List (ByteArray×Int)
 |_,[]=>[]
 |size,k::ks=>if zbN S (min size S.r0) k≠0 then [(ByteArray.empty,zbN S (min size S.r0) k)] else ((S.get k).1.2.2,0)::goS S (size-min size S.r0) ks
def z6 (S:Spa) (n:Nat):List (ByteArray×Int):=if (qs S n).2.2≠0 then [(ByteArray.empty,(qs S n).2.2)] else goS S (qs S n).1 (qs S n).2.1
def ji (l:List (ByteArray×Int)):List (List Value):=l.map fun p=>[.string p.1,.int .i64 p.2]
theorem qi (l:List (ByteArray×Int)):(ji l).length=l.length:=by simp[ji]
theorem zli {l:List (ByteArray×Int)} {i:Nat} (h:i<(ji l).length) {p:ByteArray×Int} (hp:l[i]?=some p):(ji l)[i]=[.string p.1,.int .i64 p.2]:=by
 obtain⟨h1,h2⟩:=List.getElem?_eq_some_iff.1 hp;simp[ji,h2]
variable {w w':World} {b db:Nat} {S:Spa} {F Fd:Nat->Prop} {x:SLC} {hb hr nb nr:Nat} {m:MkL}
theorem zeb {n:Nat} (h:(S.get n).2=0):(S.get n).1.2.1.length<=1024/\∀ k∈(S.get n).1.2.1,2<=k/\k<S.N:=by
 unfold Spa.get at h ⊢;split
 ·rename_i hq;rw[if_pos hq]at h;cases h
 ·rename_i hq;rw[if_neg hq]at h;split
  ·rename_i h0;rw[if_pos h0]at h;cases h
  ·exact zeV
theorem zhI (h:SpM w b db S F Fd x hb hr nb nr m) {n:Nat} (hn:n<4294967296):
  Calls prog 170 #[.pointer (some ⟨b,0,none⟩),.int .u32 (n:Int)] w (Ret fun v w'=>∃ y:SLC,v=.tuple #[.int .i64 ((qs S n).1:Int),.slice y.1 y.2.1 y.2.2,.int .i64 (qs S n).2.2]/\Owni (zw .u32) 41 w' w.heap.size y.1 y.2.1 y.2.2 (qs S n).2.1/\Ext w w'):=by
 obtain⟨q0,q1,q2,q3⟩:=qb h.dims;apply zmn;unfold S170 qs;refine zb (uu h hn) ?_;rintro _ w1 ⟨y,rfl,hok,he1⟩;refine⟨(pgT (S.get n).1 y,(S.get n).2,()),rfl,?_⟩;refine yt (vs:=pgV (S.get n).1 y) (by rfl) (kq _ _) (fun r2 w2 hb2 he2 hr2=>?_) (by rfl);have he:=he1.trans he2;have hok2:=hok.ext he2;dsimp only;refine zg (fun hq=>?_) (fun hq=>?_)
 ·have hq:=bne_iff_ne.1 hq;rw[if_pos hq];exact⟨(none,0,0),rfl,Owni.nil _ _ _,he⟩
 have h0:=bne_eq_false_iff_eq.1 hq;rw[if_neg (fun hh=>hh h0)];have hkl:=zeb h0;have hyn:=hok2.len;refine zC (((S.get n).1.1.toNat:Nat):Int) hb2 (by rfl) ?_;refine zg (fun hq=>?_) (fun hq=>?_)
 ·have hq:=bne_iff_ne.1 hq;rw[if_pos (by intro e;rw[e]at hq;exact hq rfl)];exact⟨(none,0,0),rfl,Owni.nil _ _ _,he⟩
 have h6:=bne_eq_false_iff_eq.1 hq;have h6':(S.get n).1.1=6:=by
  apply UInt8.toNat_inj.1;show _=6;omega
 rw[if_neg (fun hh=>hh h6')];refine zk 2 (S.get n).1.2.2 hb2 (by rfl) ?_;refine zg (fun hq=>?_) (fun hq=>?_)
 ·have hq:=bne_iff_ne.1 hq;rw[if_pos (by omega)];exact⟨(none,0,0),rfl,Owni.nil _ _ _,he⟩
 have h4:=bne_eq_false_iff_eq.1 hq;have h4':(S.get n).1.2.2.size=4:=by omega
 rw[if_neg (fun hh=>hh h4')];refine zk 2 (S.get n).1.2.2 hb2 (by rfl) ?_;refine vd (u:=.string) (e:=5) (by kernel_rfl) (by kernel_rfl) (by kernel_rfl) (by omega) ?_;intro c w3 hsl he3 hs3 hc3;refine zb (ja hsl (by dsimp only;omega)) ?_;rintro _ w4 ⟨rfl,he4⟩;refine⟨_,rfl,?_⟩;have hlv:lev (B (S.get n).1.2.2)<4294967296:=by
  have:=zkY (B (S.get n).1.2.2);unfold rd at this;have hl:(B (S.get n).1.2.2).length=4:=by rw[<- zP];exact h4'
  rw[if_neg (by omega),take_of_length_le (by omega)]at this;exact this
 generalize lev (B (S.get n).1.2.2)=z at *;have he34:=he3.trans he4;have he04:=he.trans he34;refine zb (jc (h.ext he04) (k:=0) (by omega) (by omega)) ?_;rintro _ w5 ⟨rfl,he5⟩;refine⟨_,rfl,?_⟩;have he05:=he04.trans he5;rw[q0,wrap_i64 (x:=(z:Int)) (by omega) (by omega)];refine zK fun w6 he6 _ _=>?_;have he06:=he05.trans he6;have he26:=(he34.trans he5).trans he6;refine zg (fun hq=>?_) (fun hq=>?_)
 ·have hq:=of_decide_eq_true hq;rw[if_pos (.inl (by omega))];exact⟨(none,0,0),rfl,Owni.nil _ _ _,he06⟩
 have hz:=of_decide_eq_false hq;refine zE (by omega) ?_;refine zk (l:=.slc) 1 y (hb2.ext he26) (by rfl) ?_;have hnp:nparts S.r0 z<=65536:=by
  unfold nparts;rw[Nat.div_le_iff_le_mul_add_pred (by omega)];have:110*65536<=S.r0*65536:=Nat.mul_le_mul_right _ q1;omega
 have eM:wrap .i64 (Int.tdiv (wrap .i64 (wrap .i64 ((z:Int)+(S.r0:Int))-1)) (S.r0:Int))=(nparts S.r0 z:Int):=by
  rw[wrap_i64 (x:=(z:Int)+(S.r0:Int)) (by omega) (by omega),wrap_i64 (x:=(z:Int)+(S.r0:Int)-1) (by omega) (by omega)];rw[show(z:Int)+(S.r0:Int)-1=((z+S.r0-1:Nat):Int) by omega,show Int.tdiv ((z+S.r0-1:Nat):Int) (S.r0:Int)=(((z+S.r0-1) / S.r0:Nat):Int) from rfl];have:(z+S.r0-1) / S.r0=nparts S.r0 z:=rfl;rw[this,wrap_i64 (by omega) (by omega)]
 rw[eM];refine zg (fun hq=>?_) (fun hq=>?_)
 ·have hq:=bne_iff_ne.1 hq;rw[if_pos (.inr (by omega))];exact⟨(none,0,0),rfl,Owni.nil _ _ _,he06⟩
 have hq:=bne_eq_false_iff_eq.1 hq;rw[if_neg (by omega)];refine zK fun w7 he7 _ _=>?_;refine zk (l:=.slc) 1 y ((hb2.ext he26).ext he7) (by rfl) ?_;exact⟨y,rfl,(hok2.ext he26).ext he7,he06.trans he7⟩
def NoB (w:World) (k:Nat):Prop:=∀ o,w.heap[k]?=some o->∀ c fz,o≠.cells c 5 fz
theorem NoB.at_ {w w':World} {k:Nat} (h:NoB w k) (e:w'.heap[k]?=w.heap[k]?):NoB w' k:=fun o ho=>h o (e▸ho)
theorem zfB {w:World} {k:Nat} {cs:List Value} {t:TypeId} (h:Blk w k cs t) (ht:t≠5):NoB w k:=fun o ho c fz e=>by
 have h':w.heap[k]?=some _:=h;rw[h']at ho;injection ho with ho
 rw[<- ho]at e;injection e with _ e2 _
 exact ht e2
theorem zpA {α:Type} {E:Enc α} {w:World} {B n c:Nat} {A:Option Addr} {xs:List α} {e:TypeId} (h:Owni E e w B A n c xs) (he:e≠5):∀ q,orow A=some q->NoB w q:=fun q hq o ho c' fz ee=>by
 rcases h.2 with ⟨hv,_⟩|⟨g,cap,cur,hv,_,hg,_⟩
 ·injection hv with hv;subst hv;cases hq
 ·injection hv with hv
  subst hv;have:g=q:=Option.some.inj hq;subst this;rw[hg]at ho;injection ho with ho
  rw[<- ho]at ee;injection ee with _ e2 _
  exact he e2
def RSp (b db:Nat) (S:Spa) (F Fd:Nat->Prop) (x:SLC) (hb hr nb nr:Nat) (m:MkL):WP:=fun w=>SpM w b db S F Fd x hb hr nb nr m
def Two (b n r1 r2:Nat):WP:=fun w=>Blk w r1 [.pointer (some ⟨b,0,none⟩)] 48/\Blk w r2 [.int .u32 (n:Int)] 41
theorem zkf {N0 l n r1 r2:Nat} {J:(Nat->Prop)->Nat->WP} {E:(Nat->Prop)->WP} {Q:Nat->Prop} {wc:World} (hn:n<4294967296) (hF0:∀ k,F k->k<N0) (hN0:N0<=wc.heap.size) (hQ1:Q r1) (hQB:∀ k,Q k->NoB wc k) (hQN:∀ k,Q k->N0<=k)
  (hJ0:J Q 0 wc) (hQc:∀ k,Q k->k<wc.heap.size) (hR0:Two b n r1 r2 wc) (hJR:∀ V i w',J V i w'->RSp b db S F Fd x hb hr nb nr m w')
  (hJ:∀ (V V':Nat->Prop) i w' w'',J V i w'->Only V w' w''->(∀ k,V' k->V k\/w'.heap.size<=k)->RSp b db S F Fd x hb hr nb nr m w''->J V' i w'')
  (hY:∀ (V:Nat->Prop) i w' (h:i<(ji (z6 S n)).length),J V i w'->(∀ k,V k->k<w'.heap.size)->(∀ k,V k->NoB w' k)->jI prog l (ji (z6 S n))[i] w' fun v w''=>w'.heap.size<=w''.heap.size/\(∀ k,V k->w''.heap[k]?=w'.heap[k]?)/\
   ((v=.bool true/\RSp b db S F Fd x hb hr nb nr m w''/\J V (i+1) w'')\/(v=.bool false/\E V w''))):
  Calls prog 169 #[.func (.yield l) #[] #[],.pointer (some ⟨r1,0,none⟩),.pointer (some ⟨r2,0,none⟩)] wc (Ret fun _ w'=>∃ V:Nat->Prop,(J V (ji (z6 S n)).length w'/\(∀ k,V k->Q k\/wc.heap.size<=k)/\True)\/E V w'):=by
 obtain⟨k1,k2⟩:=hR0;have hS:=hJR _ _ _ hJ0;have hS':SpM wc b db S F Fd x hb hr nb nr m:=hS;obtain⟨q0,q1,q2,q3⟩:=qb hS'.dims;have hRst:∀ {w1 w2:World},RSp b db S F Fd x hb hr nb nr m w1->Ext w1 w2->RSp b db S F Fd x hb hr nb nr m w2:=fun h e=>SpM.ext h e;apply zmm;unfold S169;refine zo (x:=some ⟨b,0,none⟩) k1 (by rfl) (zo (x:=(n:Int)) k2 (by rfl) ?_);refine zb (zhI hS' hn) ?_;rintro _ w1 ⟨y,rfl,hok,he1⟩;refine⟨(((qs S n).1:Int),y,(qs S n).2.2,()),rfl,?_⟩;dsimp only
 -- a yield, whatever comes behind
 have yld:∀ {V:Nat->Prop} {i:Nat} {w2:World} {p:ByteArray×Int} {K:Bool->WP},J V i w2->(∀ k,V k->k<w2.heap.size)->(∀ k,V k->NoB w2 k)->(z6 S n)[i]?=some p->(∀ w3,w2.heap.size<=w3.heap.size->(∀ k,V k->w3.heap[k]?=w2.heap[k]?)->RSp b db S F Fd x hb hr nb nr m w3->J V (i+1) w3->K true w3)->(∀ w3,E V w3->K false w3)->
   yJ prog (.func (.yield l) #[] #[]) [.string p.1,.int .i64 p.2] (.one (.one .bool)) K w2:=by
  intro V i w2 p K hJ2 hV2 hB2 hp hK1 hK2;have hidx:i<(ji (z6 S n)).length:=by rw[qi];exact(List.getElem?_eq_some_iff.1 hp).1
  refine .inr ⟨l,rfl,?_⟩;have hy:=hY V i w2 hidx hJ2 hV2 hB2;rw[zli hidx hp]at hy;obtain⟨fn,tmps,asg,bd,hy1,hy2⟩:=hy;refine⟨fn,tmps,asg,bd,hy1,RoundIn.mono hy2 ?_⟩;rintro(v|cc|_) w6 hvv
  ·obtain⟨a1,a2,⟨rfl,a3,a4⟩|⟨rfl,a3⟩⟩:=hvv
   ·exact⟨true,rfl,hK1 w6 a1 a2 a3 a4⟩
   ·exact⟨false,rfl,hK2 w6 a3⟩
  ·exact hvv
  ·exact hvv
 have he1s:=he1.size
 let V1:Nat->Prop:=fun q=>Q q\/orow y.1=some q
 have hV1n:∀ q,V1 q->Q q\/wc.heap.size<=q:=fun q hq=>by
  rcases hq with hq|hq
  ·exact .inl hq
  ·exact .inr (hok.row q hq)
 have hV1l:∀ q,V1 q->q<w1.heap.size:=fun q hq=>by
  rcases hq with hq|hq
  ·exact Nat.lt_of_lt_of_le (hQc q hq) he1s
  ·exact hok.yg q hq
 have hV1b:∀ q,V1 q->NoB w1 q:=fun q hq=>by
  rcases hq with hq|hq
  ·exact(hQB q hq).at_ (he1.block q (hQc q hq))
  ·exact zpA hok (by decide) q hq
 have hJ1:J V1 0 w1:=hJ _ _ _ _ _ hJ0 (Only.zG he1) hV1n (hRst hS he1);refine zg (fun hq=>?_) (fun hq=>?_)
 ·have hq:=bne_iff_ne.1 hq;have ep:z6 S n=[(ByteArray.empty,(qs S n).2.2)]:=by unfold z6;rw[if_pos hq]
  refine yld (p:=(ByteArray.empty,(qs S n).2.2)) hJ1 hV1l hV1b (by rw[ep];rfl) (fun w3 _ _ _ hJ3=>⟨V1,.inl ⟨?_,hV1n,trivial⟩⟩) (fun w3 hE=>⟨V1,.inr hE⟩);rw[qi,ep];exact hJ3
 have hq:=bne_eq_false_iff_eq.1 hq;have ep:z6 S n=goS S (qs S n).1 (qs S n).2.1:=by unfold z6;rw[if_neg (fun hh=>hh hq)]
 have hyn:=hok.len;have hkn:∀ k∈(qs S n).2.1,k<4294967296:=by
  intro k hk;have hd:=hS'.dims.n;unfold qs at hk;split at hk
  ·cases hk
  ·rename_i h0;have h0:(S.get n).2=0:=by omega
   have:=zeb h0;split at hk
   ·cases hk
   ·split at hk
    ·cases hk
    ·split at hk
     ·cases hk
     ·have:=this.2 k hk;omega
 have hz65:(qs S n).1<=65536:=by
  unfold qs;split
  ·omega
  ·split
   ·omega
   ·split
    ·omega
    ·split
     ·omega
     ·rename_i hh;omega
 have hle:=hok.le;generalize hks:(qs S n).2.1=ks at *;generalize hsz0:(qs S n).1=z0 at *;refine zu (fun y' w'=>∃ (j zj:Nat) (V:Nat->Prop),j<=y.2.1/\y'=((zj:Int),(j:Int),())/\zj<=65536/\(z6 S n).drop j=goS S zj (ks.drop j)/\j<=(z6 S n).length/\J V j w'/\(∀ q,V1 q->V q)/\(∀ q,V q->Q q\/wc.heap.size<=q)/\(∀ q,V q->q<w'.heap.size)/\(∀ q,V q->NoB w' q)/\(∀ q,V1 q->w'.heap[q]?=w1.heap[q]?)/\w1.heap.size<=w'.heap.size) (fun y'=>(y.2.1-y'.2.1).toNat)
  ⟨0,z0,V1,by omega,rfl,hz65,by rw[ep];rfl,by omega,hJ1,fun q h=>h,hV1n,hV1l,hV1b,fun _ _=>rfl,Nat.le_refl _⟩ ?_
 rintro _ w2 ⟨j,zj,V,hj,rfl,hzj,hdrop,hjl,hJ2,hVV,hVn,hVl,hVb,hkp,hs12⟩;dsimp only;have hS2:=hJR _ _ _ hJ2;have hS2':SpM w2 b db S F Fd x hb hr nb nr m:=hS2;have k1w:=(k1.ext he1).at_ (hkp r1 (.inl hQ1));have hslj:Sli (zw .u32) w2 y.1 y.2.1 ks:=hok.sl.congr (fun a ha=>hkp _ (.inr (by rw[ha];rfl)))
 by_cases hlt:j<y.2.1
 ·refine zf (decide_eq_true (by omega)) ?_;refine zY hslj (by omega) (by omega) ?_;rw[Int.toNat_natCast];have eg:ks[j]?=some (ks.getD j 0):=by rw[getD_eq_getElem?_getD,List.getElem?_eq_getElem (by omega)];rfl
  have hk32:=hkn _ (mem_of_getElem? eg);have edrop:ks.drop j=ks.getD j 0::ks.drop (j+1):=by
   obtain⟨h1,h2⟩:=List.getElem?_eq_some_iff.1 eg;rw[drop_eq_getElem_cons h1,h2]
  rw[edrop]at hdrop;generalize ks.getD j 0=k at *;refine zo (x:=some ⟨b,0,none⟩) k1w (by rfl) ?_;refine zb (jc hS2' (k:=0) (by omega) (by omega)) ?_;rintro _ w3 ⟨rfl,he3⟩;refine⟨_,rfl,?_⟩;rw[q0];refine zo (x:=some ⟨b,0,none⟩) (k1w.ext he3) (by rfl) ?_;refine zb (uu (hS2'.ext he3) hk32) ?_;rintro _ w4 ⟨y2,rfl,hok4,he4⟩;refine⟨(pgT (S.get k).1 y2,(S.get k).2,()),rfl,?_⟩;refine yt (vs:=pgV (S.get k).1 y2) (by rfl) (kq _ _) (fun r13 w5 hb5 he5 hr5=>?_) (by rfl);have he25:=(he3.trans he4).trans he5;have h25:=he25.size;have hkl:(S.get k).2=0->(S.get k).1.2.1.length<=1024:=fun h0=>(zeb h0).1;have hy2n:=hok4.len;have ewant:(if ((S.r0:Nat):Int)<(zj:Int) then ((S.r0:Nat):Int) else (zj:Int))=((min zj S.r0:Nat):Int):=by split<;>omega
  rw[ewant];dsimp only;refine yi (fun y' w'=>y'=(zbN S (min zj S.r0) k,())/\w'=w5) ?_ (fun J' hJ'=>?_);rotate_left
  ·unfold zbN at hJ';refine zg (fun hq=>?_) (fun hq=>?_)
   ·have hq:=beq_iff_eq.1 hq;refine zC (((S.get k).1.1.toNat:Nat):Int) hb5 (by rfl) ?_;refine zg (fun h7=>?_) (fun h7=>?_)
    ·have h7:=bne_iff_ne.1 h7;exact hJ' _ _ ⟨by rw[if_pos ⟨hq,.inl (fun e=>by rw[e]at h7;exact h7 rfl)⟩],rfl⟩
    have h7:=bne_eq_false_iff_eq.1 h7;have h7':(S.get k).1.1=7:=by
     apply UInt8.toNat_inj.1;show _=7;omega
    refine zk (l:=.slc) 1 y2 hb5 (by rfl) ?_;refine zg (fun h8=>?_) (fun h8=>?_)
    ·have h8:=of_decide_eq_true h8;exact hJ' _ _ ⟨by rw[if_pos ⟨hq,.inr (.inl (by omega))⟩],rfl⟩
    have h8:=of_decide_eq_false h8;refine zk 2 (S.get k).1.2.2 hb5 (by rfl) ?_;refine zg (fun h9=>?_) (fun h9=>?_)
    ·have h9:=bne_iff_ne.1 h9;exact hJ' _ _ ⟨by rw[if_pos ⟨hq,.inr (.inr (by omega))⟩],rfl⟩
    have h9:=bne_eq_false_iff_eq.1 h9;exact hJ' _ _ ⟨by rw[if_neg (by rintro⟨_,e|e|e⟩;exact e h7';omega;omega)],rfl⟩
   ·have hq:¬(S.get k).2=0:=beq_eq_false_iff_ne.1 hq;exact hJ' _ _ ⟨by rw[if_neg (fun e=>hq e.1)],rfl⟩
  rintro y' w6 ⟨rfl,hw6⟩;rw[hw6];dsimp only
  let V2:Nat->Prop:=fun q=>V q\/q=r13
  have hr13:w2.heap.size<=r13:=Nat.le_trans (he3.trans he4).size hr5;have hV2n:∀ q,V2 q->V q\/w2.heap.size<=q:=fun q hq=>by
   rcases hq with hq|rfl
   ·exact .inl hq
   ·exact .inr hr13
  have hJ5:J V2 j w5:=hJ _ _ _ _ _ hJ2 (Only.zG he25) hV2n (hRst hS2 he25);have hV2l:∀ q,V2 q->q<w5.heap.size:=fun q hq=>by
   rcases hq with hq|rfl
   ·exact Nat.lt_of_lt_of_le (hVl q hq) h25
   ·exact hb5.lt
  have hV2b:∀ q,V2 q->NoB w5 q:=fun q hq=>by
   rcases hq with hq|rfl
   ·exact(hVb q hq).at_ (he25.block q (hVl q hq))
   ·exact zfB hb5 (by decide)
  have hV2Q:∀ q,V2 q->Q q\/wc.heap.size<=q:=fun q hq=>by
   rcases hV2n q hq with e|e
   ·exact hVn q e
   ·exact .inr (by omega)
  have hkp5:∀ q,V1 q->w5.heap[q]?=w1.heap[q]?:=fun q hq=>(he25.block q (hVl q (hVV q hq))).trans (hkp q hq);have hget0:∀ p r,(z6 S n).drop j=p::r->(z6 S n)[j]?=some p/\(z6 S n).drop (j+1)=r/\j+1<=(z6 S n).length:=fun p r hh=>by
   have h1:((z6 S n).drop j)[0]?=some p:=by rw[hh];rfl
   rw[List.getElem?_drop,Nat.add_zero]at h1;refine⟨h1,?_,(List.getElem?_eq_some_iff.1 h1).1⟩;have h2:=congrArg (List.drop 1) hh;rw[drop_drop]at h2
   simpa using h2
  refine zg (fun hq=>?_) (fun hq=>?_)
  ·have hq:=bne_iff_ne.1 hq;rw[goS,if_pos hq]at hdrop;obtain⟨g1,g2,g3⟩:=hget0 _ _ hdrop;have hl1:(z6 S n).length=j+1:=by
    have:=congrArg List.length hdrop;rw[length_drop,length_singleton]at this;omega
   refine yld (p:=(ByteArray.empty,zbN S (min zj S.r0) k)) hJ5 hV2l hV2b g1 (fun w7 _ _ _ hJ7=>⟨V2,.inl ⟨?_,hV2Q,trivial⟩⟩) (fun w7 hE=>⟨V2,.inr hE⟩);rw[qi,hl1];exact hJ7
  have hq:=bne_eq_false_iff_eq.1 hq;rw[goS,if_neg (fun hh=>hh hq)]at hdrop;obtain⟨g1,g2,g3⟩:=hget0 _ _ hdrop;refine zk 2 (S.get k).1.2.2 hb5 (by rfl) ?_;refine yld (p:=((S.get k).1.2.2,0)) hJ5 hV2l hV2b g1 (fun w7 a1 a2 a3 a4=>?_) (fun w7 hE=>zf (by rfl) ⟨V2,.inr hE⟩);refine zd (by rfl) ?_;have w1':wrap .i64 ((zj:Int)-((min zj S.r0:Nat):Int))=((zj-min zj S.r0:Nat):Int):=by rw[wrap_i64 (by omega) (by omega)];omega
  have w2':wrap .i64 ((j:Int)+1)=((j+1:Nat):Int):=by rw[wrap_i64 (by omega) (by omega)];rfl
  rw[w1',w2'];refine⟨⟨j+1,zj-min zj S.r0,V2,by omega,rfl,by omega,g2,g3,a4,fun q hq=>.inl (hVV q hq),hV2Q,fun q hq=>Nat.lt_of_lt_of_le (hV2l q hq) a1,fun q hq=>(hV2b q hq).at_ (a2 q hq),fun q hq=>(a2 q (.inl (hVV q hq))).trans (hkp5 q hq),by omega⟩,by omega⟩
 ·obtain rfl:j=y.2.1:=by omega
  refine zd (decide_eq_false (by omega)) ?_;rw[drop_of_length_le (l:=ks) (by omega),goS]at hdrop;have hl1:(z6 S n).length=y.2.1:=by
   have:=congrArg List.length hdrop;rw[length_drop,length_nil]at this;omega
  refine⟨V,.inl ⟨?_,hVn,trivial⟩⟩;rw[qi,hl1];exact hJ2
theorem ziK (h:SpM w b db S F Fd x hb hr nb nr m) {n:Nat} (hn:n<4294967296):
  Calls prog 127 #[.pointer (some ⟨b,0,none⟩),.int .u32 (n:Int)] w (Ret fun v w'=>∃ (Q:Nat->Prop) (R0:WP),zjZ prog v (ji (z6 S n)) (RSp b db S F Fd x hb hr nb nr m) Q R0 (fun _=>True) NoB/\R0 w'/\(∀ w1 w2,R0 w1->Ext w1 w2->R0 w2)/\(∀ k,Q k->k<w'.heap.size)/\(∀ k,Q k->w.heap.size<=k)/\Ext w w'):=by
 have hFlt:=h.lt;apply zlX;unfold S127;refine zs fun r1 w1 hb1 he1 hr1 hz1=>?_;refine zs fun r2 w2 hb2 he2 hr2 hz2=>?_;have he:=he1.trans he2;have hs1:=he1.size;refine⟨fun k=>k=r1\/k=r2,Two b n r1 r2,?_,⟨hb1.ext he2,hb2⟩,fun w1 w2 h1 h2=>⟨h1.1.ext h2,h1.2.ext h2⟩,fun k hk=>by rcases hk with rfl|rfl<;>omega,fun k hk=>by rcases hk with rfl|rfl<;>omega,he⟩;refine⟨_,_,rfl,by kernel_rfl,fun l J E wc hJ0 hQc hR0c hJR hJs hEs hY=>?_⟩;exact zkf (N0:=w.heap.size) hn hFlt (by have:=hQc r1 (.inl rfl);omega) (.inl rfl) (fun k hk=>by rcases hk with rfl|rfl;exact zfB hR0c.1 (by decide);exact zfB hR0c.2 (by decide)) (fun k hk=>by rcases hk with rfl|rfl<;>omega) hJ0 hQc hR0c hJR hJs hY
end V
/- Contracts of the package blob:Get,Parts. -/
namespace V
open Go Go.Proofs Go.RowKit Crc
variable {w w':World} {b db:Nat} {S:Spa} {F Fd:Nat->Prop} {x:SLC} {hb hr nb nr:Nat} {m:MkL}
def BdV (V:Nat->Prop) (w:World) (b:Nat) (l:List UInt8):Prop:=∃ p v,(p=.pointer none\/p=.pointer (some ⟨b,0,none⟩))/\w.heap[b]?=some (.cells #[p,v] 204 (0,0))/\w.ownsRowF b 5 1 v (Lib.byteCells l).length (Lib.byteCells l)/\v.ownBlock≠some b/\∀ j,v.ownBlock=some j->¬V j
theorem BdV.is {V:Nat->Prop} {w:World} {b:Nat} {l:List UInt8} (h:BdV V w b l):Lib.IsBuilderF 204 5 b b (Lib.byteCells l) w:=by
 obtain⟨p,v,rfl|rfl,h1,h2,h3,_⟩:=h
 ·exact .inl ⟨Nat.le_refl _,v,h1,h2,h3⟩
 ·exact .inr ⟨Nat.le_refl _,v,h1,h2,h3⟩
theorem BdV.only {V V' G:Nat->Prop} {w w':World} {b:Nat} {l:List UInt8} (h:BdV V w b l) (hO:Only G w w') (hb:¬G b) (hG:∀ j,G j->V j\/w.heap.size<=j\/j<b) (hV:∀ j,V' j->V j\/w.heap.size<=j):BdV V' w' b l:=by
 obtain⟨p,v,hp,h1,h2,h3,h4⟩:=h;have hlt:=(Array.getElem?_eq_some_iff.1 h1).1;refine⟨p,v,hp,(hO.2.2.2.2 b hlt hb).trans h1,?_,h3,fun j hj hv=>?_⟩
 ·refine⟨h2.1,?_⟩;rcases h2.2 with hn|⟨g,cap,cur,fz,rfl,hbb,hgg,rest⟩
  ·exact .inl hn
  ·refine .inr ⟨g,cap,cur,fz,rfl,hbb,?_,rest⟩;have hgl:=(Array.getElem?_eq_some_iff.1 hgg).1;rw[hO.2.2.2.2 g hgl (fun hh=>by
    rcases hG g hh with e|e|e
    ·exact h4 g rfl e
    ·omega
    ·omega)]
   exact hgg
 ·rcases hV j hv with e|e
  ·exact h4 j hj e
  ·have:=(World.ownsRowF.lt h2 j hj).2;omega
theorem BdV.new {V:Nat->Prop} {w:World} {b:Nat} (h:Blk w b [.pointer none,.slice none 0 0] 204):BdV V w b []:=
 ⟨_,_,.inl rfl,h,World.ownsRowF_nil w b _ 1,(fun e=>by cases e),(fun j hj=>by cases hj)⟩
theorem BdV.lt {V:Nat->Prop} {w:World} {b:Nat} {l:List UInt8} (h:BdV V w b l):b<w.heap.size:=by
 obtain⟨p,v,hp,h1,_⟩:=h;exact(Array.getElem?_eq_some_iff.1 h1).1
theorem zkg {V:Nat->Prop} {w:World} {b:Nat} {l:List UInt8} (h:BdV V w b l) (s:ByteArray) (hl:l.length+s.size<=140737488355000) (hV:∀ k,V k->k<w.heap.size/\k≠b/\NoB w k):
  Calls prog 128 #[.pointer (some ⟨b,0,none⟩),.string s] w (Ret fun v w'=>v=.tuple #[.int .i64 s.size,.nilIface]/\BdV V w' b (l++B s)/\Below b w w'/\∀ k,k<w.heap.size->k≠b->NoB w k->w'.heap[k]?=w.heap[k]?):=
 (Tryz.Builder_WriteString_k b b (Lib.byteCells l) s w h.is (by rw[Lib.byteCells_length];omega) (Nat.le_of_lt h.lt)).mono (by
  rintro e w' ⟨rfl,⟨h1,v,h2,h3,h4⟩,hB,hK⟩
  have keep:∀ k,k<w.heap.size->k≠b->NoB w k->w'.heap[k]?=w.heap[k]?:=fun k h1 h2 h3=>by
   have e:=Array.getElem?_eq_getElem h1
   rw[e]
   exact hK k _ e (fun e'=>h2 (Option.some.inj e')) (fun c fz=>h3 _ e c fz)
  refine⟨rfl,⟨_,v,.inr rfl,h2,?_,h4,fun j hj hv=>?_⟩,hB,keep⟩
  ·have ee:Lib.byteCells (l++B s)=Lib.byteCells l++Lib.strCells s:=by simp[Lib.byteCells,strCells_eq,bV]
   rw[ee]
   exact h3
  ·obtain⟨v1,v2,v3⟩:=hV j hv
   rcases h3.2 with ⟨hn,_⟩|⟨g,cap,cur,fz,hvv,_,hgg,_⟩
   ·subst hn;cases hj
   ·subst hvv
    have:g=j:=Option.some.inj hj
    subst this
    rw[keep g v1 v2 v3]at hgg
    exact v3 _ hgg cur fz rfl)
theorem ziL {V:Nat->Prop} {w:World} {b:Nat} {l:List UInt8} (h:BdV V w b l):
  Calls prog 129 #[.pointer (some ⟨b,0,none⟩)] w (Ret fun v w'=>v=.string (mkB l)/\Below b w w'/\∀ k,k<w.heap.size->k≠b->NoB w k->w'.heap[k]?=w.heap[k]?):=
 (Tryz.Builder_String_any_k b b l w h.is (Nat.le_of_lt h.lt)).mono (by
  rintro e w' ⟨rfl,_,hB,hK⟩
  refine⟨rfl,hB,fun k h1 h2 h3=>?_⟩
  have e:=Array.getElem?_eq_getElem h1
  rw[e]
  exact hK k _ e (fun e'=>h2 (Option.some.inj e')) (fun c fz=>h3 _ e c fz))
def zbO (S:Spa) (n:Nat):ByteArray×Int:=match (z6 S n).find? (fun p=>decide (p.2≠0)) with
 |some p=>(ByteArray.empty,p.2)
 |none=>(mkB ((z6 S n).flatMap fun p=>B p.1),0)
theorem zkh {l:List (ByteArray×Int)} {i:Nat} {p:ByteArray×Int} (hp:l[i]?=some p) (hne:p.2≠0) (hno:∀ (j:Nat) (q:ByteArray×Int),j<i->l[j]?=some q->q.2=0):l.find? (fun p=>decide (p.2≠0))=some p:=by
 induction l generalizing i with
 |nil=>simp at hp
 |cons a t ih=>
  cases i with
  |zero=>
   simp only [List.getElem?_cons_zero,Option.some.injEq]at hp;subst hp;rw[List.find?_cons,decide_eq_true hne]
  |succ i=>
   have h0:=hno 0 a (by omega) rfl;rw[List.find?_cons,decide_eq_false (fun e=>e h0)];exact ih (i:=i) (by simpa using hp) (fun j q hj hq=>hno (j+1) q (by omega) (by simpa using hq))
theorem zgc {l:List (ByteArray×Int)} (hno:∀ (j:Nat) (q:ByteArray×Int),l[j]?=some q->q.2=0):l.find? (fun p=>decide (p.2≠0))=none:=by
 rw[List.find?_eq_none];intro p hp;obtain⟨j,hj,e⟩:=mem_iff_getElem.1 hp;have:=hno j p (by rw[List.getElem?_eq_getElem hj,e]);simp[this]
def ju (S:Spa) (n i:Nat):List UInt8:=((z6 S n).take i).flatMap fun p=>B p.1
theorem zki (h:SpM w b db S F Fd x hb hr nb nr m) {n:Nat} (hn:n<4294967296) (hlen:(z6 S n).length<=100000) (hsz0:∀ p∈z6 S n,p.1.size<=5000):
  Calls prog 82 #[.pointer (some ⟨b,0,none⟩),.int .u32 (n:Int)] w (Ret fun v w'=>v=.tuple #[.string (zbO S n).1,.int .i64 (zbO S n).2]/\Ext w w'):=by
 have hFlt:=h.lt;have hbl:∀ i,(ju S n i).length<=i*5000:=by
  intro i
  induction i with
  |zero=>simp[ju]
  |succ i ih=>
   unfold ju at ih ⊢;rw[take_add_one];rw[flatMap_append,length_append];cases hp:(z6 S n)[i]? with
   |none=>rw[Option.toList_none,List.flatMap_nil,length_nil,Nat.add_zero];exact Nat.le_trans ih (Nat.mul_le_mul_right _ (Nat.le_succ i))
   |some p=>
    have:=hsz0 p (mem_of_getElem? hp);rw[zP]at this;rw[Option.toList_some,flatMap_cons,List.flatMap_nil,append_nil,Nat.add_mul,Nat.one_mul];exact Nat.add_le_add ih (by omega)
 apply zoY;unfold S82;refine zs fun r1 w1 hb1 he1 hr1 hz1=>?_;refine zs fun r2 w2 hb2 he2 hr2 hz2=>?_;refine zd (by rfl) ?_;refine zs fun r5 w3 hb5 he3 hr5 hz5=>?_;have hb1:=(hb1.ext he2).ext he3;have hb2:=hb2.ext he3;have he:=(he1.trans he2).trans he3;refine zb (ziK (h.ext he) hn) ?_;rintro v w4 ⟨Q,R0,hit,hR0,hRx,hQl,hQ,he4⟩;refine⟨v,rfl,?_⟩;have he04:=he.trans he4;have hb1:=hb1.ext he4;have hb2:=hb2.ext he4;have hb5:=hb5.ext he4;have h34:=he4.size;have hs1:=he1.size;have h04:=he04.size;have hsame:∀ {w' w'':World},yY w4.heap.size (w4.heap.size+1) w' w''->RSp b db S F Fd x hb hr nb nr m w'->RSp b db S F Fd x hb hr nb nr m w'':=fun hs hS=>
  SpM.qy hS hs (fun hf=>by have:=hFlt _ hf;omega) (fun hf=>by have:=hFlt _ hf;omega)
 have hRb:∀ {w' w'':World},Only (fun k=>r5<=k) w' w''->RSp b db S F Fd x hb hr nb nr m w'->RSp b db S F Fd x hb hr nb nr m w'':=fun hO hS=>SpM.only hS hO (fun j hj hk=>by have:=hFlt _ hj;have:r5<=j:=hk;omega);have hel:∀ i,i<(z6 S n).length->(z6 S n)[i]?=some ((z6 S n).getD i (ByteArray.empty,0)):=fun i hi=>by rw[getD_eq_getElem?_getD,List.getElem?_eq_getElem hi];rfl
 refine zhv (fun i=>(((z6 S n).getD i (ByteArray.empty,0)).1,((z6 S n).getD i (ByteArray.empty,0)).2,())) ?_
  (fun V i w'=>RSp b db S F Fd x hb hr nb nr m w'/\Blk w' r1 [.string ByteArray.empty] 9/\Blk w' r2 [.int .i64 0] 28/\BdV (fun k=>V k\/k=w4.heap.size\/k=w4.heap.size+1) w' r5 (ju S n i)/\(∀ j q,j<i->(z6 S n)[j]?=some q->q.2=0)/\Ext w w'/\(∀ k,V k->r5<k)/\w4.heap.size<=w'.heap.size)
  (fun V c w'=>c=.ret/\∃ e:Int,Blk w' r1 [.string ByteArray.empty] 9/\Blk w' r2 [.int .i64 e] 28/\zbO S n=(ByteArray.empty,e)/\Ext w w'/\(∀ k,V k->r5<k)/\w4.heap.size<=w'.heap.size)
  hit hQl (fun w' w'' hs hS=>hsame hs hS) (fun _ _ _ _=>trivial) ?_ ?_ ?_ ?_ ?_ ?_ ?_ ?_
 ·intro i hi;have hi':i<(z6 S n).length:=by rw[qi]at hi;exact hi
  simp[ji,hi']
 ·intro V i w' hI;exact hI.1
 ·rintro V V' i w' w'' ⟨g1,g2,g3,g4,g5,g6,g7,g8⟩ hO hV hR;have hno:∀ k,k<=r5->¬(V k\/k=w4.heap.size\/k=w4.heap.size+1):=fun k hk hh=>by
   rcases hh with hh|hh|hh
   ·have:=g7 k hh;omega
   ·omega
   ·omega
  refine⟨hR,g2.only hO (hno r1 (by omega)),g3.only hO (hno r2 (by omega)),?_,g5,Only.ext g6 hO (fun j hj=>?_),fun k hk=>?_,?_⟩
  ·refine BdV.only g4 hO (hno r5 (by omega)) (fun j hj=>.inl hj) (fun j hj=>?_);rcases hj with hj|hj
   ·rcases hV j hj with e|e
    ·exact .inl (.inl e)
    ·exact .inr e
   ·exact .inl (.inr hj)
  ·rcases hj with hj|rfl|rfl
   ·have:=g7 j hj;omega
   ·omega
   ·omega
  ·rcases hV k hk with e|e
   ·exact g7 k e
   ·omega
  ·have:=hO.2.2.2.1;omega
 ·rintro V V' c w' w'' ⟨rfl,e,g1,g2,g3,g6,g7,g8⟩ hO hV;have hno:∀ k,k<=r5->¬(V k\/k=w4.heap.size\/k=w4.heap.size+1):=fun k hk hh=>by
   rcases hh with hh|hh|hh
   ·have:=g7 k hh;omega
   ·omega
   ·omega
  refine⟨rfl,e,g1.only hO (hno r1 (by omega)),g2.only hO (hno r2 (by omega)),g3,Only.ext g6 hO (fun j hj=>?_),fun k hk=>?_,?_⟩
  ·rcases hj with hj|rfl|rfl
   ·have:=g7 j hj;omega
   ·omega
   ·omega
  ·rcases hV k hk with e|e
   ·exact g7 k e
   ·omega
  ·have:=hO.2.2.2.1;omega
 ·intro o;have hx:Ext w4 ((w4.alloc (.deferred (some []))).alloc o):=((Ext.refl w4).alloc _).alloc _;exact⟨(h.ext he04).ext hx,hb1.ext hx,hb2.ext hx,BdV.new (hb5.ext hx),fun j q hj=>by omega,he04.trans hx,fun k hk=>by have:=hQ k hk;omega,hx.size⟩
 ·intro o;exact hRx _ _ hR0 (((Ext.refl w4).alloc _).alloc _)
 ·rintro V i hi w' G N jump hI hsz hV hVb hG;have hi':i<(z6 S n).length:=by rw[qi]at hi;exact hi
  have ei:=hel i hi';have hpz:=hsz0 _ (mem_of_getElem? ei);generalize (z6 S n).getD i (ByteArray.empty,0)=p at *;refine hG _ w' hI (Nat.le_refl _) (fun _ _=>rfl) ?_;rintro w2' ⟨g1,g2,g3,g4,g5,g6,g7,g8⟩ hs2 hk2 hNC hN' hJ';dsimp only;refine zg (fun hq=>?_) (fun hq=>?_)
  ·have hq:=bne_iff_ne.1 hq;refine zU g2 (by show 0<1;omega) ?_;have a1:=g2.set 0 (.string (ByteArray.mk #[]));have a2:=g3.other (p:=⟨r1,0,none⟩) (by show r1≠r2;omega) (.string (ByteArray.mk #[]));refine zU a2 (by show 0<1;omega) ?_;have a3:=a1.other (p:=⟨r2,0,none⟩) (by show r2≠r1;omega) (.int .i64 p.2);have a4:=a2.set 0 (.int .i64 p.2);refine hJ' .ret _ ⟨rfl,p.2,a3,a4,?_,(g6.set (p:=⟨r1,0,none⟩) (by show w.heap.size<=r1;omega) _).set (p:=⟨r2,0,none⟩) (by show w.heap.size<=r2;omega) _,g7,by simp;omega⟩ (by simp) (fun k hk=>?_)
   ·unfold zbO;rw[zkh ei hq (fun j q hj hq'=>g5 j q hj hq')]
   ·have hkr:k≠r1/\k≠r2:=by
     rcases hk with rfl|rfl|hk
     ·omega
     ·omega
     ·have:=g7 k hk;omega
    rw[Below.heap_setCell _ _ _ _ (by show k≠r2;exact hkr.2),Below.heap_setCell _ _ _ _ (by show k≠r1;exact hkr.1)]
  ·have hq:=bne_eq_false_iff_eq.1 hq;have hbli:=hbl i;have hV2:∀ k,(V k\/k=w4.heap.size\/k=w4.heap.size+1)->k<w2'.heap.size/\k≠r5/\NoB w2' k:=fun k hk=>by
    rcases hk with hk|hk
    ·obtain⟨v1,v2,v3⟩:=hV k hk;exact⟨by omega,by have:=g7 k hk;omega,(hVb k hk).at_ (hk2 k v2 v3)⟩
    ·exact⟨by omega,by omega,fun o ho c fz=>hNC k hk o ho c _ fz⟩
   refine zb (zkg g4 p.1 (by omega) hV2) ?_;rintro _ w5 ⟨rfl,g4',hB,hK⟩;refine⟨(((p.1.size:Nat):Int),.nilIface,()),rfl,?_⟩;have oB:Only (fun k=>r5<=k) w2' w5:=⟨hB.os,hB.tape,hB.output,hB.size,fun k _ hk=>hB.block k (by have:¬r5<=k:=hk;omega)⟩;refine hN' w5 (hRb oB g1) ⟨hRb oB g1,g2.only oB (by show ¬r5<=r1;omega),g3.only oB (by show ¬r5<=r2;omega),?_,fun j q hj hq'=>?_,Only.ext g6 oB (fun j hj=>by have:r5<=j:=hj;omega),g7,by have:=hB.size;omega⟩ hB.size (fun k hk=>?_)
   ·have e1:ju S n (i+1)=ju S n i++B p.1:=by
     unfold ju;rw[take_add_one,ei,flatMap_append];simp
    rw[e1];exact g4'
   ·by_cases hji:j=i
    ·subst hji;rw[ei]at hq';injection hq' with hq'
     rw[<- hq'];exact hq
    ·exact g5 j q (by omega) hq'
   ·have hk':V k\/k=w4.heap.size\/k=w4.heap.size+1:=by
     rcases hk with e|e|e
     ·exact .inr (.inl e)
     ·exact .inr (.inr e)
     ·exact .inl e
    obtain⟨v1,v2,v3⟩:=hV2 k hk';exact hK k v1 v2 v3
 ·rintro V w' ⟨g1,g2,g3,g4,g5,g6,g7,g8⟩ _ hsz hdf;rw[jw];refine zb (ziL g4) ?_;rintro _ w5 ⟨rfl,hB,hK⟩;refine⟨_,rfl,?_⟩;have oB:Only (fun k=>r5<=k) w' w5:=⟨hB.os,hB.tape,hB.output,hB.size,fun k _ hk=>hB.block k (by have:¬r5<=k:=hk;omega)⟩;have a1:=g2.only oB (by show ¬r5<=r1;omega);have a2:=g3.only oB (by show ¬r5<=r2;omega);have hx5:=Only.ext g6 oB (fun j hj=>by have:r5<=j:=hj;omega);have hdf5:w5.heap[w4.heap.size]?=some (.deferred (some [])):=by
   rw[hK w4.heap.size (by omega) (by omega) (fun o ho c fz e=>by rw[hdf]at ho;injection ho with ho;rw[<- ho]at e;cases e)];exact hdf
  refine zU a1 (by show 0<1;omega) ?_;have b1:=a1.set 0 (.string (mkB (ju S n (ji (z6 S n)).length)));have b2:=a2.other (p:=⟨r1,0,none⟩) (by show r1≠r2;omega) (.string (mkB (ju S n (ji (z6 S n)).length)));refine zU b2 (by show 0<1;omega) ?_;have c1:=b1.other (p:=⟨r2,0,none⟩) (by show r2≠r1;omega) (.int .i64 0);have c2:=b2.set 0 (.int .i64 0);refine jL ?_ ?_
  ·rw[Below.heap_setCell _ _ _ _ (by show w4.heap.size≠r2;omega),Below.heap_setCell _ _ _ _ (by show w4.heap.size≠r1;omega)];exact hdf5
  have hxx:=(hx5.set (p:=⟨r1,0,none⟩) (by show w.heap.size<=r1;omega) (.string (mkB (ju S n (ji (z6 S n)).length)))).set (p:=⟨r2,0,none⟩) (by show w.heap.size<=r2;omega) (.int .i64 0);have hsb:=ya (a:=w4.heap.size) (b:=w4.heap.size+1) (w:=(w5.setCell ⟨r1,0,none⟩ (.string (mkB (ju S n (ji (z6 S n)).length)))).setCell ⟨r2,0,none⟩ (.int .i64 0)) (o:=.deferred none) (.inl rfl);refine zo (x:=mkB (ju S n (ji (z6 S n)).length)) (hsb.blk c1 (by omega)) (by rfl) (zo (x:=(0:Int)) (hsb.blk c2 (by omega)) (by rfl) ?_);refine⟨?_,hsb.ext hxx (by omega)⟩;unfold zbO;rw[zgc (fun j q hq=>g5 j q (by rw[qi];exact(List.getElem?_eq_some_iff.1 hq).1) hq)];unfold ju;rw[qi,List.take_length]
 ·rintro V c w' ⟨rfl,e,g1,g2,g3,g6,g7,g8⟩ hsz hdf;rw[jw];refine jL hdf ?_;have hsb:=ya (a:=w4.heap.size) (b:=w4.heap.size+1) (w:=w') (o:=.deferred none) (.inl rfl);refine zo (x:=ByteArray.empty) (hsb.blk g1 (by omega)) (by rfl) (zo (x:=e) (hsb.blk g2 (by omega)) (by rfl) ?_);rw[g3];exact⟨rfl,hsb.ext g6 (by omega)⟩
end V
/- Blobs:what they tell. -/
namespace V
open Go Go.Proofs Go.RowKit Crc
structure ud (S:Spa) (n:Nat) (b:ByteArray) (ks:List Nat):Prop where
 idx:S.page n=(((6:UInt8),ks,mkB (le 4 b.size)),0)
 len:ks.length=nparts S.r0 b.size
 data:∀ i,i<ks.length->S.page (ks.getD i 0)=(((7:UInt8),[],part S.r0 b i),0)
 most:b.size<=qU S.r0
theorem ud.blob {S:Spa} {R:List Nat} {n:Nat} {b:ByteArray} {ks:List Nat} (h:ud S n b ks) (hg:Good S R) (hn:zO S.sup.pages S.now n=true):Blob S n b ks:=by
 have hk:∀ k∈ks,zO S.sup.pages S.now k=true:=fun k hk=>(hg.well.good n hn).2 k (by unfold yu;rw[h.idx];exact hk);refine⟨by rw[(hg.get hn).1];exact h.idx,h.len,fun i hi=>?_,h.most⟩;have hm:ks.getD i 0∈ks:=by rw[getD_eq_getElem?_getD,List.getElem?_eq_getElem hi];exact getElem_mem hi
 rw[(hg.get (hk _ hm)).1];exact h.data i hi
theorem ud.keep {S S':Spa} {n:Nat} {b:ByteArray} {ks:List Nat} (h:ud S n b ks) (hr:S'.r0=S.r0) (hp:∀ k,k=n\/k∈ks->S'.page k=S.page k):ud S' n b ks:=by
 refine⟨by rw[hp n (.inl rfl)];exact h.idx,by rw[hr];exact h.len,fun i hi=>?_,by rw[hr];exact h.most⟩;have hm:ks.getD i 0∈ks:=by rw[getD_eq_getElem?_getD,List.getElem?_eq_getElem hi];exact getElem_mem hi
 rw[hp _ (.inr hm),hr];exact h.data i hi
structure zqx (S S2:Spa) (R:List Nat) (bs:ByteArray) (n:Nat) (ks:List Nat):Prop where
 good:Good S2 (n::R)
 sup:S2.sup=S.sup
 held:S2.held=S.held
 mark:S2.mark=S.mark
 slot:S2.slot=S.slot
 blob:ud S2 n bs ks
 two:2<=n
 lt:n<S.N
 page:∀ k,zO S.sup.pages S.now k=true->S2.page k=S.page k
 fresh:S.now.getD n 0=0
 one:S2.now.getD n 0=1
 now:∀ k,zO S.sup.pages S.now k=true->S2.now.getD k 0=S.now.getD k 0
 free:S.z7=S2.z7+nparts S.r0 bs.size+1
 yc:S.yc=ks++n::S2.yc
 klen:ks.length=nparts S.r0 bs.size
 pen:S2.dev.pen.length=S.dev.pen.length+nparts S.r0 bs.size+1
 kept:Kept S S2
theorem zpB {S S1 S2:Spa} {R ks:List Nat} {bs:ByteArray} {n:Nat} (h0:Good S R) (hm:bs.size<=qU S.r0) (hP:Puts S S1 R ks (vU S.r0 bs (nparts S.r0 bs.size))) (hO:vT S1 S2 ((6:UInt8),ks,mkB (le 4 bs.size)) n) (hg:Good S2 (n::R)):zqx S S2 R bs n ks:=by
 have hr1:S1.r0=S.r0:=by unfold Spa.r0 Spa.room;rw[hP.sup]
 have hr2:S2.r0=S.r0:=by unfold Spa.r0 Spa.room;rw[hO.sup,hP.sup]
 have hkl:ks.length=nparts S.r0 bs.size:=by rw[<- hP.len];simp[vU]
 have hmem:∀ i,i<ks.length->ks.getD i 0∈ks:=fun i hi=>by rw[getD_eq_getElem?_getD,List.getElem?_eq_getElem hi];exact getElem_mem hi
 have hnk:n∉ks:=fun hk=>by
  have hf:=(zV.1 hO.free).1;rw[hP.now n,if_pos hk]at hf;cases hf
 have hfr:=zV.1 hO.free;have hn0:S.now.getD n 0=0:=by
  have:=hP.now n;rw[if_neg hnk]at this;omega
 have huk:∀ k,zO S.sup.pages S.now k=true->k∉ks/\k≠n/\k<S.N:=fun k hu=>by
  have hpos:=(zT.1 hu).2.2;refine⟨fun hk=>?_,fun e=>?_,h0.well.lt hu⟩
  ·have:=(zV.1 (hP.mem hk).2.2.1).1;omega
  ·rw[e]at hpos;omega
 have hN1:=hP.N;have hnl:n<S1.now.length:=by rw[hP.good.ok.now];exact hO.lt
 refine⟨hg,hO.sup.trans hP.sup,hO.held.trans hP.held,hO.mark.trans hP.mark,hO.slot.trans hP.slot,⟨hO.page,by rw[hr2];exact hkl,fun i hi=>?_,by rw[hr2];exact hm⟩,hO.two,by rw[<- hN1];exact hO.lt,fun k hu=>?_,hn0,by rw[hO.now,yp,if_pos ⟨rfl,hnl⟩],fun k hu=>?_,?_,?_,?_,?_,⟨hO.sup.trans hP.sup,hO.held.trans hP.held,hO.mark.trans hP.mark,hO.slot.trans hP.slot,⟨hO.dim.1.trans hP.dim.1,hO.dim.2.trans hP.dim.2⟩,fun k h0 hk hf=>?_⟩⟩
 ·have hmi:=hmem i hi;rw[hO.other _ (fun e=>hnk (e▸hmi)) (by rw[hN1];exact(hP.mem hmi).2.1),hP.page i hi,hr2];unfold vU;rw[getD_eq_getElem?_getD,List.getElem?_map,List.getElem?_range (by omega)];rfl
 ·obtain⟨a1,a2,a3⟩:=huk k hu;rw[hO.other k a2 (by rw[hN1];exact a3),hP.other k a3 a1]
 ·obtain⟨a1,a2,a3⟩:=huk k hu;rw[hO.now,yp,if_neg (fun e=>a2 e.1.symm),hP.now k,if_neg a1]
 ·unfold Spa.z7;rw[hP.free,hO.yc,length_append,length_cons];omega
 ·rw[hP.free,hO.yc]
 ·exact hkl
 ·rw[hO.pen,hP.pen];omega
 ·rw[hO.read k h0 (by rw[hN1];exact hk) (fun e=>?_)]
  ·exact hP.kept.read k h0 hk hf
  ·have e:k.toNat=n:=by omega
   rw[e]at hf;rcases hf with hf|hf
   ·have:=hO.two;omega
   ·rw[zV.2 ⟨hn0,by rw[<- hP.held];exact hfr.2.1,by rw[<- hP.mark];exact hfr.2.2⟩]at hf;cases hf
theorem zqp {n:Nat} (h:n<=65536):lev (B (mkB (le 4 n)))=n:=by rw[yV];exact zhk (by omega)
theorem Blob.qs {S:Spa} {n:Nat} {b:ByteArray} {ks:List Nat} (h:Blob S n b ks):qs S n=(b.size,ks,0):=by
 have hb:b.size<=65536:=by have:=h.most;unfold qU at this;omega
 unfold V.qs;rw[h.idx];dsimp only;rw[if_neg (by simp),if_neg (by simp),if_neg (by rw[xb,zy];simp),zqp hb,if_neg (by rw[h.len];omega)]
theorem zhJ {S:Spa} {n:Nat} {b:ByteArray} {ks:List Nat} (h:Blob S n b ks) (hr:1<=S.r0):∀ (j i:Nat),i+j=ks.length->goS S (b.size-i*S.r0) (ks.drop i)=(List.range j).map fun t=>(part S.r0 b (i+t),(0:Int))
 |0,i,hi=>by
  rw[drop_of_length_le (by omega)];simp[goS]
 |j+1,i,hi=>by
  have hil:i<ks.length:=by omega
  have hd:=h.data i hil;have e:ks.drop i=ks.getD i 0::ks.drop (i+1):=by
   rw[drop_eq_getElem_cons hil,getD_eq_getElem?_getD,List.getElem?_eq_getElem hil];rfl
  have hp:=zcK (r:=S.r0) (b:=b) (i:=i) hr (by rw[<- h.len];exact hil);have hpe:zbN S (min (b.size-i*S.r0) S.r0) (ks.getD i 0)=0:=by
   unfold zbN;rw[hd];dsimp only;rw[if_neg (by rintro⟨_,e|e|e⟩;exact e rfl;simp at e;apply e;rw[hp.1];exact Nat.min_comm _ _)]
  rw[e,goS,hpe,if_neg (by simp),hd];have e2:b.size-i*S.r0-min (b.size-i*S.r0) S.r0=b.size-(i+1)*S.r0:=by
   rw[Nat.add_mul,Nat.one_mul];omega
  rw[e2,zhJ h hr j (i+1) (by omega),List.range_succ_eq_map,map_cons,map_map];congr 1;apply map_congr_left;intro t _;show(part S.r0 b (i+1+t),(0:Int))=(part S.r0 b (i+(t+1)),0);rw[show i+1+t=i+(t+1) by omega]
theorem Blob.parts {S:Spa} {n:Nat} {b:ByteArray} {ks:List Nat} (h:Blob S n b ks) (hr:1<=S.r0):z6 S n=(List.range ks.length).map fun t=>(part S.r0 b t,(0:Int)):=by
 unfold z6;rw[h.qs,if_neg (by simp)];have:=zhJ h hr ks.length 0 (by omega);rw[Nat.zero_mul,Nat.sub_zero,List.drop_zero]at this;rw[this];apply map_congr_left;intro t _;rw[Nat.zero_add]
theorem Blob.get {S:Spa} {n:Nat} {b:ByteArray} {ks:List Nat} (h:Blob S n b ks) (hr:1<=S.r0):zbO S n=(b,0):=by
 unfold zbO;rw[h.parts hr,zgc (fun j q hq=>by
  rw[List.getElem?_map]at hq
  cases hh:(List.range ks.length)[j]? with
  |none=>rw[hh]at hq;cases hq
  |some t=>rw[hh]at hq;injection hq with hq;rw[<- hq])]
 dsimp only;have e:((List.range ks.length).map fun t=>(part S.r0 b t,(0:Int))).flatMap (fun p=>B p.1)=(List.range ks.length).flatMap fun t=>B (part S.r0 b t):=by
  rw[List.flatMap_map]
 rw[e,zeY hr b ks.length (by rw[h.len];exact Nat.le_refl _),take_of_length_le]
 ·rw[zc3]
 ·rw[<- zP,h.len];unfold nparts;have:=Nat.lt_mul_div_succ (b.size+S.r0-1) (show 0<S.r0 by omega);rw[Nat.mul_comm,Nat.add_mul,Nat.one_mul]at this;omega
theorem Blob.plen {S:Spa} {n:Nat} {b:ByteArray} {ks:List Nat} (h:Blob S n b ks) (hd:zae S):(z6 S n).length<=100000/\∀ p∈z6 S n,p.1.size<=5000:=by
 obtain⟨q0,q1,q2,q3⟩:=qb hd;rw[h.parts (by omega)];have hn:=zcN q1 h.most;rw[<- h.len]at hn;refine⟨by rw[length_map,length_range];omega,fun p hp=>?_⟩;obtain⟨t,ht,rfl⟩:=mem_map.1 hp;have hp:=zcK (r:=S.r0) (b:=b) (i:=t) (by omega) (by rw[<- h.len];exact mem_range.1 ht);show(part S.r0 b t).size<=5000;omega
end V
/- Spaces after pages were put:plain. catalog.pages,spots. -/
namespace V
open Go Go.Proofs Go.RowKit Crc
theorem Great.made {S S':Spa} {R R' H ls:List Nat} {M:Option (List Nat)} (h:Great S R H M) (hm:Mk S S' ls) (hg:Good S' R') (hr:S.sup.pages.length<=S'.z7):Great S' R' H M:=by
 have hN:=hm.N;have hb:=h.good.dims.blocks;have hn:=h.good.dims.n;have ho:=h.heldOK;have hP:=ho.znH h.good;have hslot:∀ j:Int,j=0\/j=1->(S'.dev.read j).1=(S.dev.read j).1:=fun j hj=>hm.read j (by omega) (by omega) (fun hk=>by have:=(hm.mem hk).2.1;omega);refine⟨hg,⟨?_,?_,?_,?_,?_,?_⟩,?_,?_,?_⟩
 ·rw[hm.slot];exact ho.slot
 ·rw[hm.sup];exact ho.chk
 ·rw[hm.slot,hm.sup,hslot _ ho.slot];exact ho.cur
 ·rw[hm.slot,hm.sup,hslot _ (by unfold other;split<;>simp)];exact ho.old
 ·intro i hi;rw[hm.sup]at hi ⊢;have hmem:S.sup.pages.getD i 0∈S.sup.pages:=by rw[getD_eq_getElem?_getD,List.getElem?_eq_getElem hi];exact getElem_mem _
  have hlt:=(h.good.well.pgs _ hmem).2.1;rw[hm.held,hm.dim.1,hm.read _ (by omega) (by omega) ?_]
  ·exact ho.pgs i hi
  ·intro hk;rw[Int.toNat_natCast]at hk;have:=(zV.1 (hm.mem hk).2.2).1;have:=(hP.at_ _ hmem).2.2;omega
 ·rw[hm.held];exact ho.fit
 ·rw[hN,hm.sup,hm.held];exact yb.zaf h.hwell (fun m hu=>hm.other m (h.hwell.lt hu) (fun hk=>by
   have:=(zV.1 (hm.mem hk).2.2).2.1
   have:=(zT.1 hu).2.2;omega))
 ·rw[hN,hm.sup,hm.mark];exact h.mwell.zaf (fun m hc _ hmN=>hm.other m hmN (fun hk=>hc (zV.1 (hm.mem hk).2.2).2.2))
 ·rw[hm.sup];exact hr
variable {w w':World} {b db:Nat} {S:Spa} {F:Nat->Prop} {R H:List Nat} {M:Option (List Nat)}
open Classical in
noncomputable def zec (r:Nat) (w:World):Nat:=if w.cell? ⟨r,0,none⟩=some (.int .u8 3) then 1 else 0
theorem zp7 {r:Nat} {p:Page} {y:SLC} {ty:TypeId} (h:Blk w r (pgV p y) ty) (hp:p.1≠3):zec r w=0:=by
 unfold zec;rw[h.cell,if_neg];intro e;have e:(Value.int .u8 (p.1.toNat:Int))=.int .u8 3:=Option.some.inj e;injection e with _ e
 exact hp (UInt8.toNat_inj.1 (by show _=3;omega))
theorem zp8 {r:Nat} {p:Page} {y:SLC} {ty:TypeId} (h:Blk w r (pgV p y) ty) (hp:p.1=3):zec r w=1:=by
 unfold zec;rw[h.cell,if_pos];show some (Value.int .u8 (p.1.toNat:Int))=_;rw[hp];rfl
theorem zhK (h:ye w b db S F) {n:Nat} {res:Bool} (hn:n<4294967296) (h0:(S.get n).2=0)
  (hp:((S.get n).1.1≠3/\res=decide ((S.get n).1.1=5))\/((S.get n).1.1=3/\∃ k r,(S.get n).1.2.1=k::r/\k<4294967296/\(S.get k).2=0/\(S.get k).1.1≠3/\res=decide ((S.get k).1.1=5))):
  Calls prog 81 #[.pointer (some ⟨b,0,none⟩),.int .u32 (n:Int)] w (Ret fun v w'=>v=.bool res/\Ext w w'):=by
 apply zoX;unfold S81;refine zb (zhz h hn) ?_;rintro _ w1 ⟨y,rfl,ho,he1⟩;refine⟨(pgT (S.get n).1 y,(S.get n).2,()),rfl,?_⟩;refine yt (vs:=pgV (S.get n).1 y) (by rfl) (kq _ _) (fun r2 w2 hb2 he2 hr2=>?_) (by rfl);have ho2:=ho.ext he2;have he:=he1.trans he2;have hs1:=he1.size;rw[h0];refine⟨fun t w'=>t=((0:Int),())/\Ext w w'/\∃ (p:Page) (y:SLC),Blk w' r2 (pgV p y) 56/\((p.1≠3/\res=decide (p.1=5))\/(p.1=3/\∃ k r,p.2.1=k::r/\k<4294967296/\(S.get k).2=0/\(S.get k).1.1≠3/\res=decide ((S.get k).1.1=5)/\Sli (zw .u32) w' y.1 y.2.1 p.2.1)),fun _ w'=>zec r2 w',⟨rfl,he,(S.get n).1,y,hb2,?_⟩,?_⟩
 ·rcases hp with hp|⟨hp,k,r,e1,e2,e3,e4,e5⟩
  ·exact .inl hp
  ·exact .inr ⟨hp,k,r,e1,e2,e3,e4,e5,ho2.sl⟩
 rintro _ w3 ⟨rfl,he3,p,y',hb3,hc⟩;refine zf (by rfl) (zC ((p.1.toNat:Nat):Int) hb3 (by rfl) ?_);rcases hc with ⟨h3,hres⟩|⟨h3,k,r,e1,e2,e3,e4,e5,hsl⟩
 ·refine zd (beq_eq_false_iff_ne.2 (fun e=>h3 (UInt8.toNat_inj.1 (by show _=3;omega)))) (zf (by rfl) ?_);refine zC ((p.1.toNat:Nat):Int) hb3 (by rfl) ⟨?_,he3⟩;rw[hres];congr 1;rw[Bool.eq_iff_iff,beq_iff_eq,decide_eq_true_iff];constructor
  ·intro e;exact UInt8.toNat_inj.1 (by show _=5;omega)
  ·intro e;rw[e];rfl
 ·refine zf (by rw[h3];rfl) (zk 1 y' hb3 (by rfl) ?_);rw[e1]at hsl;have hl:(k::r).length=y'.2.1:=hsl.len;have hle:=hsl.le;simp only [length_cons]at hl;refine zY hsl (by omega) (by omega) ?_;show ze _ _ [_,.int .u32 ((k:Nat):Int)] _ _ w3;refine zb (zhz (h.ext he3) e2) ?_;rintro _ w4 ⟨y4,rfl,ho4,he4⟩;refine⟨(pgT (S.get k).1 y4,(S.get k).2,()),rfl,?_⟩;have hb4:=hb3.ext he4;refine refill (vs:=pgV (S.get k).1 y4) hb4 (by rfl) (kq _ _) (by rfl) ?_;intro w5 hb5 hx5 hk5 hz5;refine⟨⟨by rw[e3],hx5 w (he3.trans he4) (by omega),_,y4,hb5,.inl ⟨e4,e5⟩⟩,?_⟩;show zec r2 w5<zec r2 w3;rw[zp7 hb5 e4,zp8 hb3 h3];omega
theorem zlj (hg:Good S R) {n:Nat} {ks vs:List Nat} (ht:vk S n ks vs) (hu:zO S.sup.pages S.now n=true):(S.get n).2=0/\((((S.get n).1.1≠3/\true=decide ((S.get n).1.1=5))\/((S.get n).1.1=3/\∃ k r,(S.get n).1.2.1=k::r/\k<4294967296/\(S.get k).2=0/\(S.get k).1.1≠3/\true=decide ((S.get k).1.1=5)))):=by
 cases ht with
 |one hA=>
  rw[(hA.get hg hu).1];exact⟨rfl,.inl ⟨show(5:UInt8)≠3 by decide,rfl⟩⟩
 |two m a c h1 h2 h3 h4 h5 h6 h7 h8=>
  have hkid:yu S.page n=[a,c]:=by unfold yu;rw[h6]
  have hua:=((hg.well.good n hu).2 a (by rw[hkid];simp));obtain⟨a1,a2,a3⟩:=h7.get hg hua;rw[(hg.get hu).1,h6];refine⟨rfl,.inr ⟨rfl,a,[c],rfl,a3,?_⟩⟩;rw[a1];exact⟨rfl,show(5:UInt8)≠3 by decide,rfl⟩
end V
/- Contracts of the package catalog:spots. -/
namespace V
open Go Go.Proofs Go.RowKit Crc
variable {w w':World}
def spE:Enc (Nat×Addr) where
 k:=2
 f p:=[.int .u64 (p.1:Int),.pointer (some p.2)]
 len _:=rfl
 one _:=by
  intro v hv
  simp only [mem_cons,not_mem_nil,or_false]at hv
  rcases hv with rfl|rfl<;>rfl
 pos:=by decide
theorem zgd:j9 prog 135 140 (.agg #[.int .u64 0,.pointer none]) 2 16:=⟨by kernel_rfl,by kernel_rfl,by kernel_rfl⟩
def adr (A:Option Addr):Addr:=A.getD ⟨0,0,none⟩
def vm (A:Option Addr) (i:Nat):Addr:=((adr A).add (i*5)).add 2
def vn (A:Option Addr) (i:Nat):Addr:=((adr A).add (i*2)).add 1
abbrev Spt:=Nat×Addr×Nat
def spT (A:Option Addr) (es:List Ent) (i:Nat):List Spt:=(List.range i).filterMap fun j=>if (es.getD j zI).2.2.1=0 then none else some (1+j,vm A j,(es.getD j zI).2.2.1)
def spS (A:Option Addr) (ss:List Snp) (i:Nat):List Spt:=(List.range i).filterMap fun j=>if (ss.getD j zL).2=0 then none else some (100+j,vn A j,(ss.getD j zL).2)
def yK (x y:SLC) (c:Cat):List Spt:=spT x.1 c.1 c.1.length++spS y.1 c.2 c.2.length
def spP (p:Spt):Nat×Addr:=(p.1,p.2.1)
theorem jY (A:Option Addr) (es:List Ent) (i:Nat):spT A es (i+1)=spT A es i++(if (es.getD i zI).2.2.1=0 then [] else [(1+i,vm A i,(es.getD i zI).2.2.1)]):=by
 unfold spT;rw[range_succ,List.filterMap_append];congr 1
 by_cases h:(es.getD i zI).2.2.1=0
 ·rw[if_pos h,List.filterMap_cons,if_pos h];rfl
 ·rw[if_neg h,List.filterMap_cons,if_neg h];rfl
theorem jZ (A:Option Addr) (ss:List Snp) (i:Nat):spS A ss (i+1)=spS A ss i++(if (ss.getD i zL).2=0 then [] else [(100+i,vn A i,(ss.getD i zL).2)]):=by
 unfold spS;rw[range_succ,List.filterMap_append];congr 1
 by_cases h:(ss.getD i zL).2=0
 ·rw[if_pos h,List.filterMap_cons,if_pos h];rfl
 ·rw[if_neg h,List.filterMap_cons,if_neg h];rfl
theorem zfC (A:Option Addr) (es:List Ent) (i:Nat):(spT A es i).length<=i:=by
 have:=List.length_filterMap_le (fun j=>if (es.getD j zI).2.2.1=0 then none else some (1+j,vm A j,(es.getD j zI).2.2.1)) (List.range i)
 rwa [length_range]at this
theorem zji (A:Option Addr) (ss:List Snp) (i:Nat):(spS A ss i).length<=i:=by
 have:=List.length_filterMap_le (fun j=>if (ss.getD j zL).2=0 then none else some (100+j,vn A j,(ss.getD j zL).2)) (List.range i)
 rwa [length_range]at this
theorem zdF {r:Nat} {t:TypeId} {x y:SLC} {c:Cat} (hb:Blk w r (zN x y) t) (h:qj w x y c) (h1:c.1.length<=1000) (h2:c.2.length<=1000):
  Calls prog 83 #[.pointer (some ⟨r,0,none⟩)] w (Ret fun v w'=>∃ A k,v=.slice A (yK x y c).length k/\Owni spE 140 w' w.heap.size A (yK x y c).length k ((yK x y c).map spP)/\Ext w w'):=by
 obtain⟨⟨raws,hT⟩,hs,hcx,hcy⟩:=h;have hxl:=hT.sl.len;have hyl:=hs.len;have hlr:=hT.len;apply zoZ;unfold S83;refine zp (zC x hb (by rfl) ?_);refine zu (fun q w'=>∃ (i:Nat) (A:Option Addr) (k:Nat),i<=c.1.length/\q=((A,(spT x.1 c.1 i).length,k),(i:Int),())/\Ext w w'/\Owni spE 140 w' w.heap.size A (spT x.1 c.1 i).length k ((spT x.1 c.1 i).map spP)) (fun q=>(c.1.length-q.2.1).toNat) ⟨0,none,0,by omega,rfl,Ext.refl _,Owni.nil _ _ _⟩ ?_;rintro _ w1 ⟨i,A,k,hi,rfl,he1,ho⟩;dsimp only;have hb1:=hb.ext he1
 by_cases hlt:i<c.1.length
 ·refine zf (decide_eq_true (by omega)) (zp (zC x hb1 (by rfl) ?_));refine vN (E:=zX) 2 (fun e:Raw=>((e.2.2.1:Nat):Int)) yl (hT.sl.ext he1) (fun _=>rfl) rfl (by omega) (by omega) ?_;rw[Int.toNat_natCast,show(raws.getD i yl).2.2.1=(c.1.getD i zI).2.2.1 by rw[(hT.at_ i hlt).rest]];have hw:wrap .i64 ((i:Int)+1)=((i+1:Nat):Int):=by rw[wrap_i64 (by omega) (by omega)];rfl
  have hn:=zfC x.1 c.1 i;have hsu:=jY x.1 c.1 i;refine zg (fun hq=>?_) (fun hq=>?_)
  ·have hq:¬(c.1.getD i zI).2.2.1=0:=fun e=>by rw[e]at hq;cases hq
   rw[if_neg hq]at hsu;refine zp (zC x hb1 (by rfl) (zE ⟨by omega,by omega⟩ ?_));obtain⟨a,ha,hsp,hcs⟩:=hT.sl.2.2 (by omega);refine⟨a,ha,?_⟩;show zi _ _ _;have hkey:wrap .u64 (wrap .i64 (1+(i:Int)))=((1+i:Nat):Int):=by rw[wrap_i64 (by omega) (by omega),show(1:Int)+(i:Int)=((1+i:Nat):Int) by omega,zz (by omega)]
   rw[hkey,hw];have hadr:(a.add (i*5)).add 2=vm x.1 i:=by unfold vm adr;rw[ha];rfl
   rw[hadr];refine yG (E:=spE) (ys:=[(1+i,vm x.1 i)]) (by rfl) rfl zgd ho he1.size (by omega) (by omega) ?_;intro A2 k2 w2 ho2 hg2;refine⟨⟨i+1,A2,k2,by omega,?_,he1.grown hg2.grown ho.row,?_⟩,by omega⟩
   ·rw[hsu,length_append];rfl
   ·rw[hsu,length_append,map_append];exact ho2
  ·have hq:(c.1.getD i zI).2.2.1=0:=by have:=bne_eq_false_iff_eq.1 hq;omega
   rw[if_pos hq,append_nil]at hsu;rw[hw];exact⟨⟨i+1,A,k,by omega,by rw[hsu],he1,by rw[hsu];exact ho⟩,by omega⟩
 ·obtain rfl:i=c.1.length:=by omega
  refine zd (decide_eq_false (by omega)) (zp (zk 1 y hb1 (by rfl) ?_));have hn1:=zfC x.1 c.1 c.1.length;have hnil:spT x.1 c.1 c.1.length++spS y.1 c.2 0=spT x.1 c.1 c.1.length:=by simp[spS]
  refine zu (fun q w'=>∃ (i:Nat) (A:Option Addr) (k:Nat),i<=c.2.length/\q=((A,(spT x.1 c.1 c.1.length++spS y.1 c.2 i).length,k),(i:Int),())/\Ext w w'/\Owni spE 140 w' w.heap.size A (spT x.1 c.1 c.1.length++spS y.1 c.2 i).length k ((spT x.1 c.1 c.1.length++spS y.1 c.2 i).map spP)) (fun q=>(c.2.length-q.2.1).toNat) ⟨0,A,k,by omega,by rw[hnil];rfl,he1,by rw[hnil];exact ho⟩ ?_;rintro _ w2 ⟨i,A,k,hi,rfl,he2,ho⟩;dsimp only;have hb2:=hb.ext he2
  by_cases hlt:i<c.2.length
  ·refine zf (decide_eq_true (by omega)) (zp (zk 1 y hb2 (by rfl) ?_));refine vN (E:=yM) 1 (fun e:Snp=>((e.2:Nat):Int)) zL (hs.ext he2) (fun _=>rfl) rfl (by omega) (by omega) ?_;rw[Int.toNat_natCast];have hw:wrap .i64 ((i:Int)+1)=((i+1:Nat):Int):=by rw[wrap_i64 (by omega) (by omega)];rfl
   have hn:=zji y.1 c.2 i;have hsu:=jZ y.1 c.2 i;have hnl:(spT x.1 c.1 c.1.length++spS y.1 c.2 i).length<=2000:=by rw[length_append];omega
   refine zg (fun hq=>?_) (fun hq=>?_)
   ·have hq:¬(c.2.getD i zL).2=0:=fun e=>by rw[e]at hq;cases hq
    rw[if_neg hq]at hsu;refine zp (zk 1 y hb2 (by rfl) (zE ⟨by omega,by omega⟩ ?_));obtain⟨a,ha,hsp,hcs⟩:=hs.2.2 (by omega);refine⟨a,ha,?_⟩;show zi _ _ _;have hkey:wrap .u64 (wrap .i64 (100+(i:Int)))=((100+i:Nat):Int):=by rw[wrap_i64 (by omega) (by omega),show(100:Int)+(i:Int)=((100+i:Nat):Int) by omega,zz (by omega)]
    rw[hkey,hw];have hadr:(a.add (i*2)).add 1=vn y.1 i:=by unfold vn adr;rw[ha];rfl
    rw[hadr];refine yG (E:=spE) (ys:=[(100+i,vn y.1 i)]) (by rfl) rfl zgd ho he2.size (by omega) (by omega) ?_;intro A2 k2 w3 ho3 hg3;refine⟨⟨i+1,A2,k2,by omega,?_,he2.grown hg3.grown ho.row,?_⟩,by omega⟩
    ·rw[hsu,<- append_assoc,length_append (bs:=[_])];rfl
    ·rw[hsu,<- append_assoc,length_append (bs:=[_]),map_append (l₂:=[_])];exact ho3
   ·have hq:(c.2.getD i zL).2=0:=by have:=bne_eq_false_iff_eq.1 hq;omega
    rw[if_pos hq,append_nil]at hsu;rw[hw];exact⟨⟨i+1,A,k,by omega,by rw[hsu],he2,by rw[hsu];exact ho⟩,by omega⟩
  ·obtain rfl:i=c.2.length:=by omega
   refine zd (decide_eq_false (by omega)) ?_;exact⟨A,k,rfl,ho,he2⟩
end V
/- Catalogs as trees:plain. -/
namespace V
open Go Go.Proofs Go.RowKit Crc
def kvC (c:Cat):List (Nat×Nat):=(yK (none,0,0) (none,0,0) c).map fun p=>(p.1,p.2.2)
def qW (c:Cat):List Nat:=(kvC c).map fun p=>p.1
def xG (c:Cat):List Nat:=(kvC c).map fun p=>p.2
theorem zhL (A A':Option Addr) (es:List Ent):∀ i,(spT A es i).map (fun p=>(p.1,p.2.2))=(spT A' es i).map fun p=>(p.1,p.2.2)
 |0=>rfl
 |i+1=>by
  rw[jY,jY,map_append,map_append,zhL A A' es i];congr 1;split<;>rfl
theorem zhM (A A':Option Addr) (ss:List Snp):∀ i,(spS A ss i).map (fun p=>(p.1,p.2.2))=(spS A' ss i).map fun p=>(p.1,p.2.2)
 |0=>rfl
 |i+1=>by
  rw[jZ,jZ,map_append,map_append,zhM A A' ss i];congr 1;split<;>rfl
theorem zed (x y:SLC) (c:Cat):(yK x y c).map (fun p=>(p.1,p.2.2))=kvC c:=by
 unfold kvC yK;rw[map_append,map_append,zhL x.1 none,zhM y.1 none]
theorem zcR (x y:SLC) (c:Cat):(yK x y c).length=(kvC c).length:=by rw[<- zed x y c,length_map]
theorem zlk (c:Cat):(kvC c).length<=c.1.length+c.2.length:=by
 rw[<- zcR (none,0,0) (none,0,0)];unfold yK;rw[length_append];have:=zfC none c.1 c.1.length;have:=zji none c.2 c.2.length;dsimp only;omega
theorem zhN (es:List Ent):∀ i,((spT none es i).map fun p=>p.1).Pairwise (· < ·)/\∀ k∈(spT none es i).map (fun p=>p.1),1<=k/\k<=i
 |0=>⟨.nil,by simp[spT]⟩
 |i+1=>by
  obtain⟨h1,h2⟩:=zhN es i;rw[jY,map_append];constructor
  ·rw[List.pairwise_append];refine⟨h1,by split<;>simp,fun a ha b hb=>?_⟩;have:=h2 a ha;split at hb
   ·simp at hb
   ·simp at hb;omega
  ·intro k hk;rcases mem_append.1 hk with e|e
   ·have:=h2 k e;omega
   ·split at e
    ·simp at e
    ·simp at e;omega
theorem zhO (ss:List Snp):∀ i,((spS none ss i).map fun p=>p.1).Pairwise (· < ·)/\∀ k∈(spS none ss i).map (fun p=>p.1),100<=k/\k<100+i
 |0=>⟨.nil,by simp[spS]⟩
 |i+1=>by
  obtain⟨h1,h2⟩:=zhO ss i;rw[jZ,map_append];constructor
  ·rw[List.pairwise_append];refine⟨h1,by split<;>simp,fun a ha b hb=>?_⟩;have:=h2 a ha;split at hb
   ·simp at hb
   ·simp at hb;omega
  ·intro k hk;rcases mem_append.1 hk with e|e
   ·have:=h2 k e;omega
   ·split at e
    ·simp at e
    ·simp at e;omega
theorem keys_eq (c:Cat):qW c=(spT none c.1 c.1.length).map (fun p=>p.1)++(spS none c.2 c.2.length).map (fun p=>p.1):=by
 unfold qW kvC yK;rw[map_map,map_append];rfl
theorem zpC {c:Cat} (h1:c.1.length<=16) (h2:c.2.length<=16):(0::qW c).Pairwise (· < ·)/\∀ k∈0::qW c,k<200:=by
 obtain⟨a1,a2⟩:=zhN c.1 c.1.length;obtain⟨b1,b2⟩:=zhO c.2 c.2.length;rw[keys_eq];constructor
 ·rw[List.pairwise_cons,List.pairwise_append];refine⟨fun k hk=>?_,a1,b1,fun x hx y hy=>?_⟩
  ·rcases mem_append.1 hk with e|e
   ·have:=a2 k e;omega
   ·have:=b2 k e;omega
  ·have:=a2 x hx;have:=b2 y hy;omega
 ·intro k hk;rcases mem_cons.1 hk with rfl|hk
  ·omega
  ·rcases mem_append.1 hk with e|e
   ·have:=a2 k e;omega
   ·have:=b2 k e;omega
theorem zhP:∀ {l:List Nat},l.Pairwise (· < ·)->xS l=true
 |[],_=>rfl
 |[_],_=>rfl
 |a::b::r,h=>by
  rw[List.pairwise_cons]at h;show(decide (a<b)&&xS (b::r))=true;rw[decide_eq_true (h.1 b (by simp)),zhP h.2];rfl
structure znK (S:Spa) (n:Nat) (c:Cat):Prop where
 isC:kJ c
 tree:∃ bn bks,vk S n (0::qW c) (bn::xG c)/\ud S bn (V.mkB (xV c)) bks
end V
/- Contracts of the package catalog:Put. -/
namespace V
open Go Go.Proofs Go.RowKit Crc
variable {w w':World} {b db:Nat} {S:Spa} {F:Nat->Prop} {R H:List Nat} {M:Option (List Nat)}
theorem zpD (h:ye w b db S F) (hg:Great S R H M) (hpen:S.dev.pen.length<=900000) {bs:ByteArray} (hbs:bs.size<=qU S.r0) (hf:S.sup.pages.length+nparts S.r0 bs.size+1<=S.z7):
  Calls prog 85 #[.pointer (some ⟨b,0,none⟩),.string bs] w (Ret fun v w'=>∃ (S2:Spa) (n:Nat) (ks ls:List Nat),v=.tuple #[.int .u32 (n:Int),.int .i64 0]/\Mk S S2 ls/\ls.length=nparts S.r0 bs.size+1/\Great S2 (n::R) H M/\ud S2 n bs ks/\S2.now.getD n 0=1/\yI w b db F S2 w'):=by
 obtain⟨q0,q1,q2,q3⟩:=qb hg.good.dims;have hm:qU S.r0<=65536:=by unfold qU;omega
 obtain⟨Fd,x,hb,hr,nb,nr,m,h'⟩:=h;refine(zj9 h' hg.good hpen bs (by omega)).mono (Ret.mono ?_);rintro v w' (⟨h1,_⟩|⟨_,h2,S1,S2,ks,n,hP,hO,hG,rfl,hst⟩|⟨_,h2,_⟩)
 ·omega
 ·have hB:=zpB hg.good hbs hP hO hG;have hlen:S1.now.length=S1.N:=hP.good.well.len;have hMk:Mk S S2 (ks++[n]):=hP.mk_.trans (hO.mk_ hlen);refine⟨S2,n,ks,ks++[n],rfl,hMk,by rw[length_append,hB.klen];rfl,hg.made hMk hG (by have:=hB.free;omega),hB.blob,hB.one,hst⟩
 ·omega
structure zp9 (S S':Spa) (n:Nat) (c:Cat) (ls R H:List Nat) (M:Option (List Nat)):Prop where
 made:Mk S S' ls
 great:Great S' (n::R) H M
 pg:znK S' n c
 few:ls.length<=nparts S.r0 (xV c).length+4
theorem zqq {x:SLC} {raws:List Raw} {es:List Ent} (h:za6 w x raws es) {i:Nat} (hi:i<es.length):w.cell? (vm x.1 i)=some (.int .u32 ((es.getD i zI).2.2.1:Int)):=by
 have hl:=h.len;have g:raws[i]?=some (raws.getD i yl):=by rw[getD_eq_getElem?_getD,List.getElem?_eq_getElem (by omega)];rfl
 obtain⟨a,ha,hsp,hc⟩:=h.sl.at_ g;obtain⟨_,_,h2,_⟩:=hc;have:vm x.1 i=(a.add (i*5)).add 2:=by unfold vm adr;rw[ha];rfl
 rw[this,<- (h.at_ i hi).rest];exact h2
theorem zqr {y:SLC} {ss:List Snp} (h:Sli yM w y.1 y.2.1 ss) {i:Nat} (hi:i<ss.length):w.cell? (vn y.1 i)=some (.int .u32 ((ss.getD i zL).2:Int)):=by
 have g:ss[i]?=some (ss.getD i zL):=by rw[getD_eq_getElem?_getD,List.getElem?_eq_getElem hi];rfl
 obtain⟨a,ha,hsp,hc⟩:=h.at_ g;obtain⟨_,h1,_⟩:=hc;have:vn y.1 i=(a.add (i*2)).add 1:=by unfold vn adr;rw[ha];rfl
 rw[this];exact h1
theorem zdG {x y:SLC} {c:Cat} (h:qj w x y c):∀ p∈yK x y c,w.cell? p.2.1=some (.int .u32 (p.2.2:Int)):=by
 obtain⟨⟨raws,hT⟩,hs,_⟩:=h;intro p hp;unfold yK at hp;rcases mem_append.1 hp with e|e
 ·unfold spT at e;obtain⟨i,hi,e⟩:=List.mem_filterMap.1 e;rw[mem_range]at hi;split at e
  ·cases e
  ·injection e with e
   subst e;exact zqq hT hi
 ·unfold spS at e;obtain⟨i,hi,e⟩:=List.mem_filterMap.1 e;rw[mem_range]at hi;split at e
  ·cases e
  ·injection e with e
   subst e;exact zqr hs hi
end V
/- Contracts of the package catalog:Put,whole. -/
namespace V
open Go Go.Proofs Go.RowKit Crc
variable {w w':World} {b db:Nat} {S:Spa} {F:Nat->Prop} {R H:List Nat} {M:Option (List Nat)}
structure uz (w0 w:World) (A1 A2:Option Addr) (n c1 c2:Nat) (ks vs:List Nat):Prop where
 ext:Ext w0 w
 ks:Owni (zw .u64) 42 w w0.heap.size A1 n c1 ks
 vs:Owni (zw .u64) 42 w w0.heap.size A2 n c2 vs
 ne:∀ j,orow A1=some j->orow A2≠some j
theorem uz.ext' {w0:World} {A1 A2:Option Addr} {n c1 c2:Nat} {ks vs:List Nat} (h:uz w0 w A1 A2 n c1 c2 ks vs) (he:Ext w w'):uz w0 w' A1 A2 n c1 c2 ks vs:=⟨h.ext.trans he,h.ks.ext he,h.vs.ext he,h.ne⟩
theorem zee {w0:World} {A1 A2:Option Addr} {n c1 c2 k rk:Nat} {ks vs:List Nat} {t1:TypeId} {K1:SLC->WP} (h:uz w0 w A1 A2 n c1 c2 ks vs) (hk:Blk w rk [.int .u64 (k:Int)] t1) (hn:n<=1000000)
  (hK:∀ A1' c1' w1,Owni (zw .u64) 42 w1 w0.heap.size A1' (n+1) c1' (ks++[k])->Owni (zw .u64) 42 w1 w0.heap.size A2 n c2 vs->(∀ j,orow A1'=some j->orow A2≠some j)->Ext w0 w1->w.heap.size<=w1.heap.size->(∀ q,orow A1≠some q->q<w.heap.size->w1.heap[q]?=w.heap[q]?)->K1 (A1',n+1,c1') w1):
  zv prog (Builtin.append_ #[129,129] 129 #[.slice A1 n c1,.slice (some (aD rk)) 1 1]) .slc K1 w:=by
 have hx:Sli (zw .u64) w (some ⟨rk,0,none⟩) 1 [k]:=Sli.xX (E:=zw .u64) (xs:=[k]) hk rfl (by omega);refine xw kP h.ks h.ext.size hx (by omega) (by omega) ?_;intro A1' c1' w1 ho hg _;have hs:=hg.grown.size;refine hK A1' c1' w1 ho (h.vs.grown hg.grown (fun j hj=>h.ne j hj)) (fun j hj e=>?_) (h.ext.grown hg.grown h.ks.row) hs (fun q hq hlt=>hg.grown.block q hlt (fun e=>hq e.symm));rcases hg.next j hj with e1|e1
 ·exact h.ne j e1 e
 ·have:=h.vs.yg j e;omega
theorem zef {w0:World} {A1 A2:Option Addr} {n c1 c2 v rv:Nat} {ks vs:List Nat} {t2:TypeId} {K1:SLC->WP} (h1:Owni (zw .u64) 42 w w0.heap.size A1 (n+1) c1 ks) (h2:Owni (zw .u64) 42 w w0.heap.size A2 n c2 vs) (hne:∀ j,orow A1=some j->orow A2≠some j) (he:Ext w0 w) (hv:Blk w rv [.int .u64 (v:Int)] t2) (hn:n<=1000000)
  (hK:∀ A2' c2' w1,uz w0 w1 A1 A2' (n+1) c1 c2' ks (vs++[v])->w.heap.size<=w1.heap.size->(∀ q,orow A2≠some q->q<w.heap.size->w1.heap[q]?=w.heap[q]?)->K1 (A2',n+1,c2') w1):
  zv prog (Builtin.append_ #[129,129] 129 #[.slice A2 n c2,.slice (some (aD rv)) 1 1]) .slc K1 w:=by
 have hx:Sli (zw .u64) w (some ⟨rv,0,none⟩) 1 [v]:=Sli.xX (E:=zw .u64) (xs:=[v]) hv rfl (by omega);refine xw kP h2 he.size hx (by omega) (by omega) ?_;intro A2' c2' w1 ho hg _;have hs:=hg.grown.size;refine hK A2' c2' w1 ⟨he.grown hg.grown h2.row,h1.grown hg.grown (fun j hj e=>hne j e hj),ho,fun j hj e=>?_⟩ hs (fun q hq hlt=>hg.grown.block q hlt (fun e=>hq e.symm));rcases hg.next j e with e1|e1
 ·exact hne j hj e1
 ·have:=h1.yg j hj;omega
theorem zcS (h:ye w b db S F) {x y:SLC} {c:Cat} (hC:∀ w',Only F w w'->qj w' x y c) (hok:qp c=true) (hg:Great S (xG c++R) H M) (hpen:S.dev.pen.length<=500000) (hr:204<=S.r0) (hmost:(xV c).length<=qU S.r0)
  (hf:S.sup.pages.length+nparts S.r0 (xV c).length+4<=S.z7) (h6:∀ v∈xG c,S.now.getD v 0<65535):
  Calls prog 27 #[.pointer (some ⟨b,0,none⟩),.agg (zN x y).toArray] w (Ret fun v w'=>(c=zaE/\v=.tuple #[.int .u32 0,.int .i64 0]/\yI w b db F S w')\/(c≠zaE/\∃ (S':Spa) (n:Nat) (ls:List Nat),v=.tuple #[.int .u32 (n:Int),.int .i64 0]/\zp9 S S' n c ls R H M/\yI w b db F S' w')):=by
 obtain⟨q0,q1,q2,q3⟩:=qb hg.good.dims;have hIs:=vX.1 hok;have ht16:=hIs.tabs;have hs16:=hIs.snaps;have hFlt:=h.lt;have hC0:=hC w (Only.refl F w);have hxl:c.1.length=x.2.1:=by obtain⟨⟨raws,hT⟩,_⟩:=hC0;rw[<- hT.len];exact hT.sl.len
 have hyl:c.2.length=y.2.1:=hC0.2.1.len;apply zog;unfold S27;refine zs fun r1 w1 hb1 he1 hr1 hz1=>?_;have hb1:Blk w1 r1 (zN x y) 25:=hb1;have hr1F:¬F r1:=fun hf=>by have:=hFlt _ hf;omega
 refine zR (ls:=xh) (xk x y) hb1 (by rfl) ?_;refine zb (zba (hC0.ext he1)) ?_;rintro _ w2 ⟨rfl,he2⟩;have eB:jG c=(mkB (xV c),0):=by unfold jG;rw[if_pos hok]
 rw[eB];refine⟨(mkB (xV c),0,()),rfl,zd (by rfl) ?_⟩;have hb2:=hb1.ext he2;have he02:=he1.trans he2;refine zC x hb2 (by rfl) (zk 1 y hb2 (by rfl) ?_);rw[show wrap .i64 (((x.2.1:Nat):Int)+((y.2.1:Nat):Int))=((x.2.1+y.2.1:Nat):Int) by rw[wrap_i64 (by omega) (by omega)];omega]
 by_cases h0:c=zaE
 ·refine zf (beq_iff_eq.2 ?_) (.inl ⟨h0,rfl,yI.ext h he02⟩);rw[h0]at hxl hyl;have:x.2.1=0:=hxl.symm;have:y.2.1=0:=hyl.symm;omega
 have hne:¬(x.2.1+y.2.1=0):=fun e=>h0 (Prod.ext (eq_nil_of_length_eq_zero (by omega)) (eq_nil_of_length_eq_zero (by omega)));refine zd (beq_eq_false_iff_ne.2 (by omega)) ?_;have hmk:(mkB (xV c)).size=(xV c).length:=xb _;refine zb (zpD (h.ext he02) hg (by omega) (by rw[hmk];exact hmost) (by rw[hmk];omega)) ?_;rintro _ w3 ⟨S2,bn,bks,ls,rfl,hMk,hll,hG2,hBl,hone,F3,h3,hF3,hO3⟩;refine⟨((bn:Int),0,()),rfl,zd (by rfl) ?_⟩;have hb3:=hb2.only hO3 hr1F;have hO03:Only F w w3:=Only.trans (Only.zG he02) hO3 (fun j hj=>.inl hj);have hs02:=he02.size;have hs3:=hO3.2.2.2.1;have hF30:∀ k,F3 k->F k\/w.heap.size<=k:=fun k hk=>by
  rcases hF3 k hk with e|e
  ·exact .inl e
  ·exact .inr (by omega)
 have hbn32:bn<4294967296:=by
  have:=hG2.good.well.lt (hG2.good.well.root bn mem_cons_self);have:=hG2.good.dims.n;omega
 refine zdb (B:=w3.heap.size) (Nat.le_refl _) (by simp) fun r7 w4 hK0 he4 hr7 hz4=>?_;rw[zz (by omega)];refine zdb (B:=w3.heap.size) (by omega) (by simp) fun r8 w5 hV0 he5 hr8 hz5=>?_;have he35:=he4.trans he5;have hC5:qj w5 x y c:=(hC w3 hO03).ext he35;have hb5:=hb3.ext he35;refine zb (zdF hb5 hC5 (by omega) (by omega)) ?_;rintro _ w6 ⟨Asp,ksp,rfl,hsp,he6⟩;refine⟨(Asp,(yK x y c).length,ksp),rfl,?_⟩;have he36:=he35.trans he6;have hC6:=hC5.ext he6;have hcell:=zdG hC6;have hsl:=hsp.sl;have hkvl:=zlk c;have hspl:=zcR x y c;have hkv:=zed x y c;generalize hspots:yK x y c=sp at *;have hts:uz w3 w6 (some ⟨r7,0,none⟩) (some ⟨r8,0,none⟩) 1 1 1 [0] [bn]:=⟨he36,((show Owni (zw .u64) 42 w4 w3.heap.size (some ⟨r7,0,none⟩) 1 1 [0] from hK0).ext he5).ext he6,(show Owni (zw .u64) 42 w5 w3.heap.size (some ⟨r8,0,none⟩) 1 1 [bn] from hV0).ext he6,fun j hj e=>by
  have e1:r7=j:=Option.some.inj hj
  have e2:r8=j:=Option.some.inj e
  omega⟩
 dsimp only;have hcell3:∀ p∈sp,∀ {w9:World},Ext w3 w9->w9.cell? p.2.1=some (.int .u32 (p.2.2:Int)):=fun p hp w9 he9=>by
  have:=zdG (hC w3 hO03) p (by rw[hspots];exact hp);exact he9.cell this
 have hroot:∀ p∈sp,p.2.2∈xG c:=fun p hp=>by
  unfold xG;rw[<- hkv,map_map];exact mem_map.2 ⟨p,hp,rfl⟩
 have hspsz:sp.length<=32:=by omega
 have hr32:∀ v∈xG c,v<4294967296:=fun v hv=>by
  have:=hg.good.well.lt (hg.good.well.root v (mem_append_left _ hv));have:=hg.good.dims.n;omega
 refine zu (fun q w'=>∃ (i:Nat) (A1 A2:Option Addr) (c1 c2:Nat),i<=sp.length/\q=((A1,i+1,c1),(A2,i+1,c2),(i:Int),())/\uz w3 w' A1 A2 (i+1) c1 c2 (0::(sp.take i).map fun p=>p.1) (bn::(sp.take i).map fun p=>p.2.2)/\Owni spE 140 w' w5.heap.size Asp sp.length ksp (sp.map spP)) (fun q=>(sp.length-q.2.2.1).toNat) ⟨0,_,_,1,1,by omega,rfl,hts,hsp⟩ ?_;rintro _ w7 ⟨i,A1,A2,c1,c2,hi,rfl,ht7,hs7⟩;dsimp only
 by_cases hlt:i<sp.length
 ·refine zf (decide_eq_true (by omega)) ?_;have eg:(sp.map spP)[i]?=some (spP (sp[i]'hlt)):=by rw[List.getElem?_map,List.getElem?_eq_getElem hlt];rfl
  have hmem:sp[i]'hlt∈sp:=getElem_mem hlt;have tk:sp.take (i+1)=sp.take i++[sp[i]'hlt]:=take_succ_eq_append_getElem hlt;generalize sp[i]'hlt=p at *;refine xY hs7.sl (by omega) (x:=spP p) (by rw[Int.toNat_natCast];exact eg) rfl ?_;intro pa hpa hca;refine qC (ls:=[.int .u64,.ptr]) (x:=((p.1:Int),some p.2.1,())) hca ?_;refine yt (vs:=[.int .u64 (p.1:Int),.pointer (some p.2.1)]) (by rfl) (by
   intro v hv
   simp only [mem_cons,not_mem_nil,or_false]at hv
   rcases hv with rfl|rfl<;>rfl) (fun r14 w8 hb14 he8 hr14=>?_) (by rfl)
  refine zK fun w9 he9 hz9 hh9=>?_;have hb14:=hb14.ext he9;have he89:=he8.trans he9;have ht9:=ht7.ext' he89;have hs9:=hs7.ext he89;refine zC ((p.1:Nat):Int) hb14 (by rfl) (zk 1 (some p.2.1) hb14 (by rfl) (zp ?_));refine zaC (l:=.int .u32) (x:=((p.2.2:Nat):Int)) (hcell3 p hmem ht9.ext) ?_;have hv32:=hr32 _ (hroot p hmem);rw[show wrap .u64 ((p.2.2:Nat):Int)=((p.2.2:Nat):Int) from zz (by omega)];have hw:wrap .i64 ((i:Int)+1)=((i+1:Nat):Int):=by rw[wrap_i64 (by omega) (by omega)];rfl
  rw[hw];have neR:∀ {w':World} {A:Option Addr} {n c0:Nat} {xs:List Nat},Owni (zw .u64) 42 w' w3.heap.size A n c0 xs->Blk w' r14 [.int .u64 (p.1:Int),.pointer (some p.2.1)] 140->orow A≠some r14:=fun ho hb e=>Own.neB (show Own 42 _ _ _ _ _ _ from ho) hb (by decide) _ e rfl;have hp17:∀ {w':World},Ext w3 w'->HL w' [(p.2.1,.int .u32 ((p.2.2:Nat):Int))]:=fun he q hq=>by rw[mem_singleton.1 hq];exact hcell3 p hmem he
  have fin:∀ {w':World} {A1' A2':Option Addr} {c1' c2':Nat},uz w3 w' A1' A2' (i+1+1) c1' c2' ((0::(sp.take i).map fun p=>p.1)++[p.1]) ((bn::(sp.take i).map fun p=>p.2.2)++[p.2.2])->Owni spE 140 w' w5.heap.size Asp sp.length ksp (sp.map spP)->
    (∃ (j:Nat) (B1 B2:Option Addr) (d1 d2:Nat),j<=sp.length/\(((A1',i+1+1,c1'),(A2',i+1+1,c2'),((i+1:Nat):Int),()):SLC×SLC×Int×Unit)=((B1,j+1,d1),(B2,j+1,d2),(j:Int),())/\uz w3 w' B1 B2 (j+1) d1 d2 (0::(sp.take j).map fun p=>p.1) (bn::(sp.take j).map fun p=>p.2.2)/\Owni spE 140 w' w5.heap.size Asp sp.length ksp (sp.map spP)):=by
   intro w' A1' A2' c1' c2' h1 h2;refine⟨i+1,A1',A2',c1',c2',by omega,rfl,?_,h2⟩;rw[tk,map_append,map_append];exact h1
  have spk:∀ {wa wb:World} {A:Option Addr} {n c0:Nat} {xs:List Nat},Owni spE 140 wa w5.heap.size Asp sp.length ksp (sp.map spP)->Owni (zw .u64) 42 wa w3.heap.size A n c0 xs->(∀ q,orow A≠some q->q<wa.heap.size->wb.heap[q]?=wa.heap[q]?)->Owni spE 140 wb w5.heap.size Asp sp.length ksp (sp.map spP):=fun h1 h2 h3=>h1.cong (fun j hj=>h3 j (fun e=>h1.ne h2 (by decide) j hj e) (h1.yg j hj));have bk:∀ {wa wb:World} {A:Option Addr} {n c0:Nat} {xs:List Nat},Blk wa r14 [.int .u64 (p.1:Int),.pointer (some p.2.1)] 140->Owni (zw .u64) 42 wa w3.heap.size A n c0 xs->(∀ q,orow A≠some q->q<wa.heap.size->wb.heap[q]?=wa.heap[q]?)->Blk wb r14 [.int .u64 (p.1:Int),.pointer (some p.2.1)] 140:=fun h1 h2 h3=>(h3 r14 (neR h2 h1) h1.lt).trans h1;refine⟨?_,?_⟩
  ·refine zs fun r19 wa hb19 hea hra hza=>?_;have hba:=hb14.ext hea;have hta:=ht9.ext' hea;have hsa:=hs9.ext hea;refine jo (hp17 hta.ext) (yF hba rfl) ?_;refine⟨?_,?_⟩
   ·refine zee hta hb19 (by omega) ?_;intro B1 d1 wb hkb hvb hne heb hsb hkeep;have hbb:=bk hba hta.ks hkeep;have hspb:=spk hsa hta.ks hkeep;refine jo (hp17 heb) (yF hbb rfl) ?_;refine zs fun r21 wc hb21 hec hrc hzc=>?_;refine xz (yd (hbb.ext hec) rfl) ?_;refine zef (hkb.ext hec) (hvb.ext hec) hne (heb.trans hec) hb21 (by omega) ?_;intro B2 d2 wd htd hsd hkeepd;exact⟨fin htd (spk (hspb.ext hec) (hvb.ext hec) hkeepd),by omega⟩
   ·refine zs fun r23 wb hb23 heb hrb hzb=>?_;have hbb:=hba.ext heb;have htb:=hta.ext' heb;have hspb:=hsa.ext heb;refine xz (yd hbb rfl) ?_;refine zee htb (hb19.ext heb) (by omega) ?_;intro B1 d1 wc hkc hvc hne hec hsc hkeep;have hbc:=bk hbb htb.ks hkeep;have hspc:=spk hspb htb.ks hkeep;refine jo (hp17 hec) (yF hbc rfl) ?_;have hb23':Blk wc r23 _ _:=(hkeep r23 (fun e=>by have:=hta.ks.yg _ e;have:=hb23.lt;omega) hb23.lt).trans hb23;refine zef hkc hvc hne hec hb23' (by omega) ?_;intro B2 d2 wd htd hsd hkeepd;exact⟨fin htd (spk hspc hvc hkeepd),by omega⟩
  ·refine zs fun r26 wa hb26 hea hra hza=>?_;have hba:=hb14.ext hea;have hta:=ht9.ext' hea;have hsa:=hs9.ext hea;refine xz (yd hba rfl) ?_;refine zs fun r27 wb hb27 heb hrb hzb=>?_;have hbb:=hba.ext heb;have htb:=hta.ext' heb;have hspb:=hsa.ext heb;refine jo (hp17 htb.ext) (yF hbb rfl) ?_;refine zee htb hb27 (by omega) ?_;intro B1 d1 wc hkc hvc hne hec hsc hkeep;have hbc:=bk hbb htb.ks hkeep;have hspc:=spk hspb htb.ks hkeep;refine jo (hp17 hec) (yF hbc rfl) ?_;have hb26b:=hb26.ext heb;have hb26':Blk wc r26 _ _:=(hkeep r26 (fun e=>by have:=ht9.ks.yg _ e;omega) hb26b.lt).trans hb26b;refine zef hkc hvc hne hec hb26' (by omega) ?_;intro B2 d2 wd htd hsd hkeepd;exact⟨fin htd (spk hspc hvc hkeepd),by omega⟩
 ·obtain rfl:i=sp.length:=by omega
  refine zd (decide_eq_false (by omega)) ?_;rw[take_of_length_le (by omega)]at ht7;have hks:sp.map (fun p=>p.1)=qW c:=by unfold qW;rw[<- hkv,map_map];rfl
  have hvs:sp.map (fun p=>p.2.2)=xG c:=by unfold xG;rw[<- hkv,map_map];rfl
  rw[hks,hvs]at ht7;have hkl:(qW c).length=sp.length:=by rw[<- hks,length_map]
  have hvl:(xG c).length=sp.length:=by rw[<- hvs,length_map]
  obtain⟨hpw,hk200⟩:=zpC ht16 hs16;have h37:=h3.ext ht7.ext;have h3lt:=h3.lt;have hs37:=ht7.ext.size;have hrow:∀ {A:Option Addr} {n c0:Nat} {xs:List Nat},Owni (zw .u64) 42 w7 w3.heap.size A n c0 xs->∀ a,A=some a->¬F3 a.block/\a.block<w7.heap.size:=fun ho a ha=>by
   have e1:=ho.row a.block (by rw[ha];rfl);have e2:=ho.yg a.block (by rw[ha];rfl);exact⟨fun hf=>by have:=h3lt _ hf;omega,e2⟩
  have hr0:S2.r0=S.r0:=hMk.r0;have hsup:=hMk.sup;have hfr:=hMk.free;have hpn:=hMk.pen;rw[hmk]at hll;have hnp:ls.length<=65537:=by
   have:=(zcN (len:=(xV c).length) q1 hmost).2;omega
  refine zb (ziJ (R:=R) (ks:=0::qW c) (vs:=bn::xG c) (x:=(A1,sp.length+1,c1)) (y:=(A2,sp.length+1,c2)) h37 hG2 (by omega) ht7.ks.sl ht7.ks.le.1 ht7.vs.sl (hrow ht7.ks) (hrow ht7.vs) (by simp[hkl,hvl]) (fun k hk=>by have:=hk200 k hk;omega) (by simp) (by rw[hr0,length_cons];omega) (zhP hpw) (by rw[hsup];omega) (fun v hv=>?_)) ?_
  ·rcases mem_cons.1 hv with rfl|hv
   ·rw[hone];omega
   ·have hu:=hg.good.well.root v (mem_append_left _ hv);rw[(hMk.used hg.good hu).2.1];exact h6 v hv
  rintro _ w8 ⟨S',n,ls2,rfl,hB,hst⟩;refine⟨((n:Int),0,()),rfl,.inr ⟨h0,S',n,ls++ls2,rfl,⟨hMk.trans hB.made,hB.great,⟨hIs,bn,bks,hB.tree,?_⟩,?_⟩,yI.trans (Only.trans hO03 (Only.zG (F:=F) ht7.ext) (fun j hj=>.inl hj)) (fun k hk=>?_) hst⟩⟩
  ·have hub:=hG2.good.well.root bn mem_cons_self;refine hBl.keep (hB.made.r0) (fun k hk=>?_);rcases hk with rfl|hk
   ·exact(hB.made.used hG2.good hub).1
   ·have hkid:yu S2.page bn=bks:=by unfold yu;rw[hBl.idx]
    exact(hB.made.used hG2.good ((hG2.good.well.good bn hub).2 k (by rw[hkid];exact hk))).1
  ·have:=hB.few;rw[length_append];omega
  ·rcases hF30 k hk with e|e
   ·exact .inl e
   ·exact .inr e
end V
/- Contracts of the package catalog:Get;the entries of a tree,gathered. -/
namespace V
open Go Go.Proofs Go.RowKit Crc
variable {w w':World} {b db:Nat} {S:Spa} {F:Nat->Prop}
structure Gath (w0 w:World) (r1 r5 r6:Nat) (i:Nat) (ks vs:List Nat) (A1 A2:Option Addr) (c1 c2:Nat):Prop where
 ext:Ext w0 w
 b1:Blk w r1 (zN (none,0,0) (none,0,0)) 25
 b5:Blk w r5 [.slice A1 i c1] 129
 b6:Blk w r6 [.slice A2 i c2] 54
 ks:Owni (zw .u64) 42 w (r6+1) A1 i c1 ks
 vs:Owni (zw .u32) 41 w (r6+1) A2 i c2 vs
theorem Gath.only {G:Nat->Prop} {w0:World} {r1 r5 r6 i:Nat} {ks vs:List Nat} {A1 A2:Option Addr} {c1 c2:Nat} (h:Gath w0 w r1 r5 r6 i ks vs A1 A2 c1 c2) (o:Only G w w') (h0:w0.heap.size<=r1) (hr:r1<r5/\r5<r6) (hG:∀ k,G k->r6<k/\orow A1≠some k/\orow A2≠some k):Gath w0 w' r1 r5 r6 i ks vs A1 A2 c1 c2:=
 ⟨Only.ext h.ext o (fun j hj=>by have:=(hG j hj).1;omega),h.b1.only o (fun e=>by have:=(hG _ e).1;omega),h.b5.only o (fun e=>by have:=(hG _ e).1;omega),h.b6.only o (fun e=>by have:=(hG _ e).1;omega),
  h.ks.only o (fun j hj e=>(hG j e).2.1 hj),h.vs.only o (fun j hj e=>(hG j e).2.2 hj)⟩
theorem Gath.ext' {w0:World} {r1 r5 r6 i:Nat} {ks vs:List Nat} {A1 A2:Option Addr} {c1 c2:Nat} (h:Gath w0 w r1 r5 r6 i ks vs A1 A2 c1 c2) (he:Ext w w'):Gath w0 w' r1 r5 r6 i ks vs A1 A2 c1 c2:=⟨h.ext.trans he,h.b1.ext he,h.b5.ext he,h.b6.ext he,h.ks.ext he,h.vs.ext he⟩
theorem zeg {w0:World} {r1 r5 r6 i k rk:Nat} {ks vs:List Nat} {A1 A2:Option Addr} {c1 c2:Nat} {t1:TypeId} {K1:SLC->WP} (h:Gath w0 w r1 r5 r6 i ks vs A1 A2 c1 c2) (hr:w0.heap.size<=r1/\r1<r5/\r5<r6) (hk:Blk w rk [.int .u64 (k:Int)] t1) (hn:i<=1000000)
  (hK:∀ A c w1,Owni (zw .u64) 42 w1 (r6+1) A (i+1) c (ks++[k])->Blk w1 r1 (zN (none,0,0) (none,0,0)) 25->Blk w1 r5 [.slice A1 i c1] 129->Blk w1 r6 [.slice A2 i c2] 54->Owni (zw .u32) 41 w1 (r6+1) A2 i c2 vs->Only (fun q=>orow A1=some q) w w1->(∀ q,orow A=some q->orow A1=some q\/w.heap.size<=q)->K1 (A,i+1,c) w1):
  zv prog (Builtin.append_ #[129,129] 129 #[.slice A1 i c1,.slice (some (aD rk)) 1 1]) .slc K1 w:=by
 have hx:Sli (zw .u64) w (some ⟨rk,0,none⟩) 1 [k]:=Sli.xX (E:=zw .u64) (xs:=[k]) hk rfl (by omega);refine xw kP h.ks (by have:=h.b6.lt;omega) hx (by omega) (by omega) ?_;intro A c w1 ho hg _;have hrow:=h.ks.row;exact hK A c w1 ho (h.b1.grown hg.grown (fun e=>by have:=hrow _ e.symm;omega)) (h.b5.grown hg.grown (fun e=>by have:=hrow _ e.symm;omega)) (h.b6.grown hg.grown (fun e=>by have:=hrow _ e.symm;omega)) (h.vs.grown hg.grown (fun j hj=>h.ks.ne h.vs (by decide) j hj)) (Only.z8 hg.grown (fun q hq=>.inl hq)) hg.next
theorem zkj {w0:World} {r1 r5 r6 i k v:Nat} {ks vs:List Nat} {A1 A2:Option Addr} {c1 c2:Nat} {N:WP} (h:Gath w0 w r1 r5 r6 i ks vs A1 A2 c1 c2) (hr:w0.heap.size<=r1/\r1<r5/\r5<r6) (hn:i<=1000000) (hv32:v<4294967296)
  (hN:∀ A1' A2' c1' c2' w',Gath w0 w' r1 r5 r6 (i+1) (ks++[k]) (vs++[v]) A1' A2' c1' c2'->Only (fun q=>q=r5\/q=r6\/orow A1=some q\/orow A2=some q) w w'->(∀ q,orow A1'=some q->orow A1=some q\/w.heap.size<=q)->(∀ q,orow A2'=some q->orow A2=some q\/w.heap.size<=q)->N w'):
  (zD<|ldW .slc (aD r5) fun(u14:SLC)=>ldW .slc (aD r6) fun(u15:SLC)=>
   kW (zi (.cells #[.int .u64 (k:Int)] 42) fun r16=>zr [[((aD r6),.slice u15.1 u15.2.1 u15.2.2)],[((aD r5),.slice u14.1 u14.2.1 u14.2.2)]]<|
    kW (zv prog (Builtin.append_ #[129,129] 129 #[.slice u14.1 u14.2.1 u14.2.2,.slice (some (aD r16)) 1 1]) .slc fun(u17:SLC)=>
     zr [[((aD r6),.slice u15.1 u15.2.1 u15.2.2)]]<|zi (.cells #[.int .u32 (wrap .u32 (v:Int))] 41) fun r18=>
     zr [[((aD r6),.slice u15.1 u15.2.1 u15.2.2)],[((aD r5),.slice u14.1 u14.2.1 u14.2.2)]]<|
     zv prog (Builtin.append_ #[54,54] 54 #[.slice u15.1 u15.2.1 u15.2.2,.slice (some (aD r18)) 1 1]) .slc fun(u19:SLC)=>
     stW (aD r5) (.slice u17.1 u17.2.1 u17.2.2)<|stW (aD r6) (.slice u19.1 u19.2.1 u19.2.2)<|N)
    (zi (.cells #[.int .u32 (wrap .u32 (v:Int))] 41) fun r20=>
     zr [[((aD r6),.slice u15.1 u15.2.1 u15.2.2)],[((aD r5),.slice u14.1 u14.2.1 u14.2.2)]]<|
     zv prog (Builtin.append_ #[129,129] 129 #[.slice u14.1 u14.2.1 u14.2.2,.slice (some (aD r16)) 1 1]) .slc fun(u21:SLC)=>
     zr [[((aD r6),.slice u15.1 u15.2.1 u15.2.2)]]<|
     zv prog (Builtin.append_ #[54,54] 54 #[.slice u15.1 u15.2.1 u15.2.2,.slice (some (aD r20)) 1 1]) .slc fun(u22:SLC)=>
     stW (aD r5) (.slice u21.1 u21.2.1 u21.2.2)<|stW (aD r6) (.slice u22.1 u22.2.1 u22.2.2)<|N))
   (zi (.cells #[.int .u32 (wrap .u32 (v:Int))] 41) fun r23=>
    zr [[((aD r6),.slice u15.1 u15.2.1 u15.2.2)],[((aD r5),.slice u14.1 u14.2.1 u14.2.2)]]<|
    zi (.cells #[.int .u64 (k:Int)] 42) fun r24=>zr [[((aD r6),.slice u15.1 u15.2.1 u15.2.2)],[((aD r5),.slice u14.1 u14.2.1 u14.2.2)]]<|
    zv prog (Builtin.append_ #[129,129] 129 #[.slice u14.1 u14.2.1 u14.2.2,.slice (some (aD r24)) 1 1]) .slc fun(u25:SLC)=>
    zr [[((aD r6),.slice u15.1 u15.2.1 u15.2.2)]]<|
    zv prog (Builtin.append_ #[54,54] 54 #[.slice u15.1 u15.2.1 u15.2.2,.slice (some (aD r23)) 1 1]) .slc fun(u26:SLC)=>
    stW (aD r5) (.slice u25.1 u25.2.1 u25.2.2)<|stW (aD r6) (.slice u26.1 u26.2.1 u26.2.2)<|N)) w:=by
 refine zK fun wd hed hzd hhd=>?_;have hd:=h.ext' hed;refine zC ((A1,i,c1):SLC) hd.b5 (by rfl) (zC ((A2,i,c2):SLC) hd.b6 (by rfl) ?_);have hv:wrap .u32 (v:Int)=(v:Int):=by rw[wrap_u32];omega
 rw[hv];have hs0:=hed.size
 -- the values' append, and the boxes
 have fin:∀ {A:Option Addr} {c rv:Nat} {wa wb:World} {t:TypeId},Ext wd wa->Owni (zw .u64) 42 wb (r6+1) A (i+1) c (ks++[k])->Blk wb r1 (zN (none,0,0) (none,0,0)) 25->Blk wb r5 [.slice A1 i c1] 129->Blk wb r6 [.slice A2 i c2] 54->Owni (zw .u32) 41 wb (r6+1) A2 i c2 vs->Only (fun q=>orow A1=some q) wa wb->(∀ q,orow A=some q->orow A1=some q\/wa.heap.size<=q)->Blk wb rv [.int .u32 (v:Int)] t->
   zv prog (Builtin.append_ #[54,54] 54 #[.slice A2 i c2,.slice (some (aD rv)) 1 1]) .slc (fun(u19:SLC)=>stW (aD r5) (.slice A (i+1) c)<|stW (aD r6) (.slice u19.1 u19.2.1 u19.2.2)<|N) wb:=by
  intro A c rv wa wb t hea ho g1 g5 g6 gv oab hAn hb;have hx:Sli (zw .u32) wb (some ⟨rv,0,none⟩) 1 [v]:=Sli.xX (E:=zw .u32) (xs:=[v]) hb rfl (by omega);refine xw jV gv (by have:=g6.lt;omega) hx (by omega) (by omega) ?_;intro A' c' w1 ho' hg _;have hrow:=gv.row;have e1:=g1.grown hg.grown (fun e=>by have:=hrow _ e.symm;omega);have e5:=g5.grown hg.grown (fun e=>by have:=hrow _ e.symm;omega);have e6:=g6.grown hg.grown (fun e=>by have:=hrow _ e.symm;omega);have ek:=ho.grown hg.grown (fun j hj=>gv.ne ho (by decide) j hj);have ob1:Only (fun q=>orow A2=some q) wb w1:=Only.z8 hg.grown (fun q hq=>.inl hq);refine stE (o:=0) e5 rfl (by show 0<1;omega) ?_;intro w2 f5 o2;refine stE (o:=0) (e6.only o2 (by omega)) rfl (by show 0<1;omega) ?_;intro w3 f6 o3;have hsz1:=oab.2.2.2.1;have hsz2:=hg.grown.size;have hsz0:=hea.size;have rA:=ho.row;have rA':=ho'.row;have oall:Only (fun q=>q=r5\/q=r6\/orow A1=some q\/orow A2=some q) w w3:=by
   refine Only.trans (Only.trans (Only.trans (Only.trans (Only.zG (hed.trans hea)) (oab.mono (fun q hq=>.inr (.inr (.inl hq)))) (fun q hq=>.inl hq)) (ob1.mono (fun q hq=>.inr (.inr (.inr hq)))) (fun q hq=>.inl hq)) (o2.mono (fun q hq=>.inl hq)) (fun q hq=>.inl hq)) (o3.mono (fun q hq=>.inr (.inl hq))) (fun q hq=>.inl hq)
  have k1:=h.ks.row;have k2:=h.vs.row;refine hN A A' c c' w3 ⟨Only.ext h.ext oall (fun q hq=>?_),(e1.only o2 (by omega)).only o3 (by omega),f5.only o3 (by omega),f6,(ek.only o2 (fun j hj e=>by have:=rA j hj;have:j=r5:=e;omega)).only o3 (fun j hj e=>by have:=rA j hj;have:j=r6:=e;omega),(ho'.only o2 (fun j hj e=>by have:=rA' j hj;have:j=r5:=e;omega)).only o3 (fun j hj e=>by have:=rA' j hj;have:j=r6:=e;omega)⟩ oall (fun q hq=>?_) (fun q hq=>?_)
  ·rcases hq with e|e|e|e
   ·omega
   ·omega
   ·have:=k1 q e;omega
   ·have:=k2 q e;omega
  ·rcases hAn q hq with e|e
   ·exact .inl e
   ·exact .inr (by omega)
  ·rcases hg.next q hq with e|e
   ·exact .inl e
   ·exact .inr (by omega)
 refine⟨?_,?_⟩
 ·refine zs fun r16 wa hb16 hea hra hza=>?_;have ha:=hd.ext' hea;refine jo (yd ha.b6 rfl) (yd ha.b5 rfl) ?_;refine⟨?_,?_⟩
  ·refine zeg ha hr hb16 hn ?_;intro A c wb ho g1 g5 g6 gv oab hAn;refine xz (yd g6 rfl) ?_;refine zs fun r18 wc hb18 hec hrc hzc=>?_;refine jo (yd (g6.ext hec) rfl) (yd (g5.ext hec) rfl) ?_;exact fin hea (ho.ext hec) (g1.ext hec) (g5.ext hec) (g6.ext hec) (gv.ext hec) (Only.trans oab (Only.zG (F:=fun q=>orow A1=some q) hec) (fun q hq=>.inl hq)) hAn hb18
  ·refine zs fun r20 wb hb20 heb hrb hzb=>?_;have hb:=ha.ext' heb;refine jo (yd hb.b6 rfl) (yd hb.b5 rfl) ?_;refine zeg hb hr (hb16.ext heb) hn ?_;intro A c wc ho g1 g5 g6 gv oab hAn;refine xz (yd g6 rfl) ?_;exact fin (hea.trans heb) ho g1 g5 g6 gv oab hAn (hb20.only oab (fun e=>by have:=ha.ks.yg _ e;omega))
 ·refine zs fun r23 wa hb23 hea hra hza=>?_;have ha:=hd.ext' hea;refine jo (yd ha.b6 rfl) (yd ha.b5 rfl) ?_;refine zs fun r24 wb hb24 heb hrb hzb=>?_;have hb:=ha.ext' heb;refine jo (yd hb.b6 rfl) (yd hb.b5 rfl) ?_;refine zeg hb hr hb24 hn ?_;intro A c wc ho g1 g5 g6 gv oab hAn;refine xz (yd g6 rfl) ?_;exact fin (hea.trans heb) ho g1 g5 g6 gv oab hAn ((hb23.ext heb).only oab (fun e=>by have:=hd.ks.yg _ e;omega))
end V
/- A field of a row of one's own is set. -/
namespace V
open Go Go.Proofs Go.RowKit Crc
variable {w w':World} {b db:Nat} {S:Spa} {F:Nat->Prop} {R:List Nat}
theorem Enc.zhQ {α:Type} (E:Enc α) {x x':α} {v:Value} {j:Nat} (hj:j<E.k) (hx:E.f x'=(E.f x).set j v):∀ (xs:List α) (i:Nat),xs[i]?=some x->(E.flat xs).set (i*E.k+j) v=E.flat (xs.set i x')
 |[],i,h=>by simp at h
 |a::r,0,h=>by
  have ha:a=x:=by simpa using h
  subst ha;show(E.f a++E.flat r).set (0*E.k+j) v=E.f x'++E.flat r;rw[Nat.zero_mul,Nat.zero_add,List.set_append_left _ _ (by rw[E.len];exact hj),hx]
 |a::r,i+1,h=>by
  have ih:=Enc.zhQ E hj hx r i (by simpa using h);show(E.f a++E.flat r).set ((i+1)*E.k+j) v=E.f a++E.flat (r.set i x');rw[List.set_append_right _ _ (by rw[E.len,Nat.add_mul,Nat.one_mul];omega),E.len,show(i+1)*E.k+j-E.k=i*E.k+j by rw[Nat.add_mul,Nat.one_mul];omega,ih]
theorem Owni.stF {α:Type} {E:Enc α} {e:TypeId} {B0:Nat} {A:Option Addr} {n c i j k:Nat} {xs:List α} {x x':α} {v:Value} {K:WP} (h:Owni E e w B0 A n c xs) (hk:E.k=k) (hi:xs[i]?=some x) (hj:j<k) (hx:E.f x'=(E.f x).set j v)
  (hK:∀ w',Owni E e w' B0 A n c (xs.set i x')->Only (fun q=>orow A=some q) w w'->K w'):stW (((adr A).add (i*k)).add j) v K w:=by
 subst hk;have hl:=h.len;have hin:i<xs.length:=(List.getElem?_eq_some_iff.1 hi).1;obtain⟨g,hA⟩:∃ g,A=some ⟨g,0,none⟩:=by
  rcases h.2 with ⟨hv,h2⟩|⟨g,cap,cur,hv,_⟩
  ·have:n=0:=h2;omega
  ·injection hv with hv
   exact⟨g,hv⟩
 subst hA;have ha:((adr (some ⟨g,0,none⟩)).add (i*E.k)).add j=(⟨g,i*E.k+j,none⟩:Addr):=by
  show((aD g).add (i*E.k)).add j=_;rw[zx,zx,Nat.zero_add]
 rw[ha];have hlt:i*E.k+j<(E.flat xs).length:=by
  rw[Enc.xm];have:(i+1)*E.k<=xs.length*E.k:=Nat.mul_le_mul_right _ hin;rw[Nat.add_mul,Nat.one_mul]at this;omega
 have hst:=World.ownsRow.stored (show w.ownsRow B0 e E.k (.slice (some ⟨g,0,none⟩) n c) n (E.flat xs) from h) (i*E.k+j) v;refine⟨?_,World.ownsRow.frozenAt (show w.ownsRow B0 e E.k (.slice (some ⟨g,0,none⟩) n c) n (E.flat xs) from h) _,hK _ ?_ (Only.z8 hst.2 (fun q hq=>.inl (by injection hq with hq;rw[<- hq];rfl)))⟩
 ·rw[World.ownsRow.cellAt (show w.ownsRow B0 e E.k (.slice (some ⟨g,0,none⟩) n c) n (E.flat xs) from h) _ (by rw[<- hl,<- Enc.xm];exact hlt)];exact⟨_,List.getElem?_eq_getElem hlt⟩
 ·have:=hst.1;rw[Enc.zhQ E hj hx xs i hi]at this;exact this
end V
/- Catalogs whose roots are put in one by one:plain. -/
namespace V
open Go Go.Proofs Go.RowKit Crc
def nzT (es:List Ent) (j:Nat):Nat:=(spT none es j).length
def nzS (ss:List Snp) (j:Nat):Nat:=(spS none ss j).length
theorem zbP (A:Option Addr) (es:List Ent) (j:Nat):(spT A es j).length=nzT es j:=by
 have:=congrArg List.length (zhL A none es j)
 rwa [length_map,length_map]at this
theorem ze4 (A:Option Addr) (ss:List Snp) (j:Nat):(spS A ss j).length=nzS ss j:=by
 have:=congrArg List.length (zhM A none ss j)
 rwa [length_map,length_map]at this
theorem zhR (es:List Ent) (j:Nat):nzT es (j+1)=nzT es j+(if (es.getD j zI).2.2.1=0 then 0 else 1):=by
 unfold nzT;rw[jY,length_append];split<;>rfl
theorem zhS (ss:List Snp) (j:Nat):nzS ss (j+1)=nzS ss j+(if (ss.getD j zL).2=0 then 0 else 1):=by
 unfold nzS;rw[jZ,length_append];split<;>rfl
theorem zhT (es:List Ent) (j:Nat):∀ d,nzT es j<=nzT es (j+d)
 |0=>Nat.le_refl _
 |d+1=>Nat.le_trans (zhT es j d) (by rw[<- Nat.add_assoc,zhR];omega)
theorem zhU (ss:List Snp) (j:Nat):∀ d,nzS ss j<=nzS ss (j+d)
 |0=>Nat.le_refl _
 |d+1=>Nat.le_trans (zhU ss j d) (by rw[<- Nat.add_assoc,zhS];omega)
theorem ze5 {es:List Ent} {j k:Nat} (h:j<k) (hj:(es.getD j zI).2.2.1≠0):nzT es j<nzT es k:=by
 have h1:=zhT es (j+1) (k-(j+1));rw[show j+1+(k-(j+1))=k by omega,zhR,if_neg hj]at h1;omega
theorem zhV {ss:List Snp} {j k:Nat} (h:j<k) (hj:(ss.getD j zL).2≠0):nzS ss j<nzS ss k:=by
 have h1:=zhU ss (j+1) (k-(j+1));rw[show j+1+(k-(j+1))=k by omega,zhS,if_neg hj]at h1;omega
theorem zll {A:Option Addr} {es:List Ent}:∀ {n i:Nat} {p:Spt},(spT A es n)[i]?=some p->∃ j,j<n/\nzT es j=i/\(es.getD j zI).2.2.1≠0/\p=(1+j,vm A j,(es.getD j zI).2.2.1)
 |0,i,p,h=>by simp[spT]at h
 |n+1,i,p,h=>by
  rw[jY]at h
  by_cases hi:i<(spT A es n).length
  ·rw[List.getElem?_append_left hi]at h;obtain⟨j,h1,h2⟩:=zll h;exact⟨j,by omega,h2⟩
  ·rw[List.getElem?_append_right (by omega)]at h;split at h
   ·simp at h
   ·rename_i hn;have h0:i-(spT A es n).length=0:=by
     have:=(List.getElem?_eq_some_iff.1 h).1;simp at this;omega
    rw[h0]at h;refine⟨n,by omega,by rw[<- zbP A];omega,hn,?_⟩
    simpa using h.symm
theorem zlm {A:Option Addr} {ss:List Snp}:∀ {n i:Nat} {p:Spt},(spS A ss n)[i]?=some p->∃ j,j<n/\nzS ss j=i/\(ss.getD j zL).2≠0/\p=(100+j,vn A j,(ss.getD j zL).2)
 |0,i,p,h=>by simp[spS]at h
 |n+1,i,p,h=>by
  rw[jZ]at h
  by_cases hi:i<(spS A ss n).length
  ·rw[List.getElem?_append_left hi]at h;obtain⟨j,h1,h2⟩:=zlm h;exact⟨j,by omega,h2⟩
  ·rw[List.getElem?_append_right (by omega)]at h;split at h
   ·simp at h
   ·rename_i hn;have h0:i-(spS A ss n).length=0:=by
     have:=(List.getElem?_eq_some_iff.1 h).1;simp at this;omega
    rw[h0]at h;refine⟨n,by omega,by rw[<- ze4 A];omega,hn,?_⟩
    simpa using h.symm
def uk (b:Bool) (r:Nat):Nat:=if b then r else min r 1
def zbQ (es es':List Ent) (i:Nat):Prop:=es'.length=es.length/\∀ j,j<es.length->es'.getD j zI=((es.getD j zI).1,(es.getD j zI).2.1,uk (decide (nzT es j<i)) (es.getD j zI).2.2.1,(es.getD j zI).2.2.2.1,(es.getD j zI).2.2.2.2)
def zbR (n0:Nat) (ss ss':List Snp) (i:Nat):Prop:=ss'.length=ss.length/\∀ j,j<ss.length->ss'.getD j zL=((ss.getD j zL).1,uk (decide (n0+nzS ss j<i)) (ss.getD j zL).2)
theorem getD_map' {α β:Type} (f:α->β) (l:List α) (j:Nat) (d:α) (d':β) (h:j<l.length):(l.map f).getD j d'=f (l.getD j d):=by
 rw[getD_eq_getElem?_getD,List.getElem?_map,List.getElem?_eq_getElem h,getD_eq_getElem?_getD,List.getElem?_eq_getElem h];rfl
theorem zqa (es:List Ent):zbQ es (es.map kg) 0:=by
 refine⟨by simp,fun j hj=>?_⟩;rw[getD_map' kg es j zI zI hj,decide_eq_false (by omega)];rfl
theorem zqb (n0:Nat) (ss:List Snp):zbR n0 ss (ss.map kI) 0:=by
 refine⟨by simp,fun j hj=>?_⟩;rw[getD_map' kI ss j zL zL hj,decide_eq_false (by omega)];rfl
theorem zhW {α:Type} {l l':List α} (d:α) (h:l.length=l'.length) (hh:∀ j,j<l'.length->l.getD j d=l'.getD j d):l=l':=by
 refine List.ext_getElem h (fun j h1 h2=>?_);have:=hh j h2;rw[getD_eq_getElem?_getD,List.getElem?_eq_getElem h1,getD_eq_getElem?_getD,List.getElem?_eq_getElem h2]at this;exact this
theorem zhX {es es':List Ent} {i:Nat} (h:zbQ es es' i) (hi:nzT es es.length<=i):es'=es:=by
 refine zhW zI h.1 (fun j hj=>?_);rw[h.2 j hj]
 by_cases h0:(es.getD j zI).2.2.1=0
 ·rw[h0];have:uk (decide (nzT es j<i)) 0=0:=by unfold uk;split<;>simp
  rw[this];refine Prod.ext rfl (Prod.ext rfl (Prod.ext h0.symm rfl))
 ·have:=ze5 (k:=es.length) hj h0;rw[decide_eq_true (show nzT es j<i by omega)];rfl
theorem znm {n0:Nat} {ss ss':List Snp} {i:Nat} (h:zbR n0 ss ss' i) (hi:n0+nzS ss ss.length<=i):ss'=ss:=by
 refine zhW zL h.1 (fun j hj=>?_);rw[h.2 j hj]
 by_cases h0:(ss.getD j zL).2=0
 ·rw[h0];have:uk (decide (n0+nzS ss j<i)) 0=0:=by unfold uk;split<;>simp
  rw[this];exact Prod.ext rfl h0.symm
 ·have:=zhV (k:=ss.length) hj h0;rw[decide_eq_true (show n0+nzS ss j<i by omega)];rfl
theorem kV {α:Type} {l:List α} {j k:Nat} {x d:α} (hj:j<l.length):(l.set j x).getD k d=if j=k then x else l.getD k d:=by
 rw[getD_eq_getElem?_getD,List.getElem?_set]
 by_cases h:j=k
 ·subst h;rw[if_pos rfl,if_pos hj,if_pos rfl];rfl
 ·rw[if_neg h,if_neg h,<- getD_eq_getElem?_getD]
theorem zbQ.step {es es':List Ent} {i j:Nat} (h:zbQ es es' i) (hj:j<es.length) (hi:nzT es j=i) (hn:(es.getD j zI).2.2.1≠0):zbQ es (es'.set j (es.getD j zI)) (i+1):=by
 refine⟨by rw[length_set];exact h.1,fun k hk=>?_⟩;rw[kV (by rw[h.1];exact hj)]
 by_cases e:j=k
 ·subst e;rw[if_pos rfl,decide_eq_true (by omega)];rfl
 ·rw[if_neg e,h.2 k hk]
  by_cases h0:(es.getD k zI).2.2.1=0
  ·rw[h0];have:∀ b,uk b 0=0:=fun b=>by unfold uk;split<;>simp
   rw[this,this]
  ·have hne:nzT es k≠i:=fun e2=>by
    rcases Nat.lt_or_gt_of_ne e with hlt|hlt
    ·have:=ze5 hlt hn;omega
    ·have:=ze5 hlt h0;omega
   rw[show decide (nzT es k<i+1)=decide (nzT es k<i) from by
    by_cases h1:nzT es k<i
    ·rw[decide_eq_true h1,decide_eq_true (by omega)]
    ·rw[decide_eq_false h1,decide_eq_false (by omega)]]
theorem zbR.step {n0:Nat} {ss ss':List Snp} {i j:Nat} (h:zbR n0 ss ss' i) (hj:j<ss.length) (hi:n0+nzS ss j=i) (hn:(ss.getD j zL).2≠0):zbR n0 ss (ss'.set j (ss.getD j zL)) (i+1):=by
 refine⟨by rw[length_set];exact h.1,fun k hk=>?_⟩;rw[kV (by rw[h.1];exact hj)]
 by_cases e:j=k
 ·subst e;rw[if_pos rfl,decide_eq_true (by omega)];rfl
 ·rw[if_neg e,h.2 k hk]
  by_cases h0:(ss.getD k zL).2=0
  ·rw[h0];have:∀ b,uk b 0=0:=fun b=>by unfold uk;split<;>simp
   rw[this,this]
  ·have hne:n0+nzS ss k≠i:=fun e2=>by
    rcases Nat.lt_or_gt_of_ne e with hlt|hlt
    ·have:=zhV hlt hn;omega
    ·have:=zhV hlt h0;omega
   rw[show decide (n0+nzS ss k<i+1)=decide (n0+nzS ss k<i) from by
    by_cases h1:n0+nzS ss k<i
    ·rw[decide_eq_true h1,decide_eq_true (by omega)]
    ·rw[decide_eq_false h1,decide_eq_false (by omega)]]
theorem zbQ.more {es es':List Ent} {i:Nat} (h:zbQ es es' i) (hi:nzT es es.length<=i):zbQ es es' (i+1):=by
 have e:=zhX h hi;refine⟨h.1,fun j hj=>?_⟩;rw[e]
 by_cases h0:(es.getD j zI).2.2.1=0
 ·rw[h0];have:uk (decide (nzT es j<i+1)) 0=0:=by unfold uk;split<;>simp
  rw[this];exact Prod.ext rfl (Prod.ext rfl (Prod.ext h0 rfl))
 ·have:=ze5 (k:=es.length) hj h0;rw[decide_eq_true (show nzT es j<i+1 by omega)];rfl
theorem zbR.more {n0:Nat} {ss ss':List Snp} {i:Nat} (h:zbR n0 ss ss' i) (hi:i<n0):zbR n0 ss ss' (i+1):=by
 refine⟨h.1,fun j hj=>?_⟩;rw[h.2 j hj,decide_eq_false (by omega),decide_eq_false (by omega)]
end V
/- Contracts of the package catalog:Get;a root is put in. -/
namespace V
open Go Go.Proofs Go.RowKit Crc
variable {w w':World} {b db:Nat} {S:Spa} {F:Nat->Prop} {R:List Nat}
theorem zhY (A:Option Addr) (es:List Ent):∀ i,i<=es.length->(spT A (es.map kg) i).map spP=(spT A es i).map spP
 |0,_=>rfl
 |i+1,h=>by
  rw[jY,jY,map_append,map_append,zhY A es i (by omega),getD_map' kg es i zI zI (by omega)];congr 1
  by_cases h0:(es.getD i zI).2.2.1=0
  ·rw[if_pos (show(kg (es.getD i zI)).2.2.1=0 by show min _ 1=0;omega),if_pos h0]
  ·rw[if_neg (show ¬(kg (es.getD i zI)).2.2.1=0 by show ¬min _ 1=0;omega),if_neg h0];rfl
theorem zhZ (A:Option Addr) (ss:List Snp):∀ i,i<=ss.length->(spS A (ss.map kI) i).map spP=(spS A ss i).map spP
 |0,_=>rfl
 |i+1,h=>by
  rw[jZ,jZ,map_append,map_append,zhZ A ss i (by omega),getD_map' kI ss i zL zL (by omega)];congr 1
  by_cases h0:(ss.getD i zL).2=0
  ·rw[if_pos (show(kI (ss.getD i zL)).2=0 by show min _ 1=0;omega),if_pos h0]
  ·rw[if_neg (show ¬(kI (ss.getD i zL)).2=0 by show ¬min _ 1=0;omega),if_neg h0];rfl
theorem zkk (x y:SLC) (c:Cat):(yK x y (ones c)).map spP=(yK x y c).map spP:=by
 unfold yK ones;dsimp only;rw[map_append,map_append,length_map,length_map,zhY _ _ _ (Nat.le_refl _),zhZ _ _ _ (Nat.le_refl _)]
theorem znn {x y:SLC} {c:Cat} {i:Nat} {p:Spt} (h:(yK x y c)[i]?=some p):
  (∃ j,j<c.1.length/\nzT c.1 j=i/\(c.1.getD j zI).2.2.1≠0/\p=(1+j,vm x.1 j,(c.1.getD j zI).2.2.1)/\i<nzT c.1 c.1.length)\/
  (∃ j,j<c.2.length/\nzT c.1 c.1.length+nzS c.2 j=i/\(c.2.getD j zL).2≠0/\p=(100+j,vn y.1 j,(c.2.getD j zL).2)/\nzT c.1 c.1.length<=i):=by
 unfold yK at h;have hl:=zbP x.1 c.1 c.1.length
 by_cases hi:i<(spT x.1 c.1 c.1.length).length
 ·rw[List.getElem?_append_left hi]at h;obtain⟨j,h1,h2,h3,h4⟩:=zll h;exact .inl ⟨j,h1,h2,h3,h4,by omega⟩
 ·rw[List.getElem?_append_right (by omega)]at h;obtain⟨j,h1,h2,h3,h4⟩:=zlm h;exact .inr ⟨j,h1,by omega,h3,h4,by omega⟩
def zav (w:World) (B0:Nat) (x y:SLC) (c:Cat) (i:Nat):Prop:=(∃ raws es,yw w B0 x raws es/\zbQ c.1 es i)/\∃ ss,Owni yM 46 w B0 y.1 y.2.1 y.2.2 ss/\zbR (nzT c.1 c.1.length) c.2 ss i
theorem zpE {B0:Nat} {x y:SLC} {c:Cat} (h:yy w B0 x y (ones c)):zav w B0 x y c 0:=by
 obtain⟨⟨raws,h1⟩,h2⟩:=h;exact⟨⟨raws,_,h1,zqa c.1⟩,_,h2,zqb _ c.2⟩
theorem zln {B0:Nat} {x y:SLC} {c:Cat} {i:Nat} (h:zav w B0 x y c i) (hi:(yK x y c).length<=i):yy w B0 x y c:=by
 obtain⟨⟨raws,es,h1,h2⟩,ss,h3,h4⟩:=h;have hl:(yK x y c).length=nzT c.1 c.1.length+nzS c.2 c.2.length:=by
  unfold yK;rw[length_append,zbP,ze4]
 rw[zhX h2 (by omega)]at h1;rw[znm h4 (by omega)]at h3;exact⟨⟨raws,h1⟩,h3⟩
theorem zav.ext {B0:Nat} {x y:SLC} {c:Cat} {i:Nat} (h:zav w B0 x y c i) (he:Ext w w'):zav w' B0 x y c i:=by
 obtain⟨⟨raws,es,h1,h2⟩,ss,h3,h4⟩:=h;exact⟨⟨raws,es,h1.ext he,h2⟩,ss,h3.ext he,h4⟩
theorem zqc {B0:Nat} {x y:SLC} {c:Cat} {i:Nat} {p:Spt} {K:WP} (h:zav w B0 x y c i) (hp:(yK x y c)[i]?=some p)
  (hK:∀ w',zav w' B0 x y c (i+1)->Only (fun q=>orow x.1=some q\/orow y.1=some q) w w'->K w'):stW p.2.1 (.int .u32 (p.2.2:Int)) K w:=by
 obtain⟨⟨raws,es,h1,h2⟩,ss,h3,h4⟩:=h;have hl:=h1.len;rcases znn hp with ⟨j,j1,j2,j3,rfl,j5⟩|⟨j,j1,j2,j3,rfl,j5⟩
 ·have hj:j<raws.length:=by rw[hl,h2.1];exact j1
  have g:raws[j]?=some (raws.getD j yl):=by rw[getD_eq_getElem?_getD,List.getElem?_eq_getElem hj];rfl
  have hE:=h1.at_ j (by rw[h2.1];exact j1);have hm:=h2.2 j j1;refine Owni.stF (x':=((raws.getD j yl).1,(raws.getD j yl).2.1,(c.1.getD j zI).2.2.1,(raws.getD j yl).2.2.2.1,(raws.getD j yl).2.2.2.2)) h1.row (k:=5) rfl g (by omega) (by rfl) ?_;intro w2 ho2 o2;refine hK w2 ⟨⟨_,_,⟨ho2,by rw[length_set,length_set];exact hl,fun k hk=>?_⟩,h2.step j1 j2 j3⟩,ss,h3.only o2 (fun q hq e=>h3.ne h1.row (by decide) q hq e),h4.more j5⟩ (o2.mono (fun q hq=>.inl hq));rw[length_set]at hk;rw[kV hj,kV (by rw[h2.1];exact j1)];have hc:∀ {r:Raw} {e:Ent},xF w B0 r e->xF w2 B0 r e:=fun hE=>⟨hE.name,hE.rest,hE.cols.only o2 (fun q hq e=>hE.cols.ne h1.row (by decide) q hq e)⟩
  by_cases e:j=k
  ·rw[if_pos e,if_pos e];have hE2:=hc hE;rw[hm]at hE2;refine⟨hE2.name,?_,hE2.cols⟩;have:=hE2.rest;dsimp only at this ⊢;rw[Prod.ext_iff]at this;rw[this.2]
  ·rw[if_neg e,if_neg e];exact hc (h1.at_ k hk)
 ·have hj:j<ss.length:=by rw[h4.1];exact j1
  have g:ss[j]?=some (ss.getD j zL):=by rw[getD_eq_getElem?_getD,List.getElem?_eq_getElem hj];rfl
  have hm:=h4.2 j j1;refine Owni.stF (x':=c.2.getD j zL) h3 (k:=2) rfl g (by omega) (by rw[hm];rfl) ?_;intro w2 ho2 o2;refine hK w2 ⟨⟨_,_,⟨h1.row.only o2 (fun q hq e=>h1.row.ne h3 (by decide) q hq e),hl,fun k hk=>?_⟩,h2.more j5⟩,_,ho2,h4.step j1 j2 j3⟩ (o2.mono (fun q hq=>.inr hq));have hE:=h1.at_ k hk;exact⟨hE.name,hE.rest,hE.cols.only o2 (fun q hq e=>hE.cols.ne h3 (by decide) q hq e)⟩
end V
/- Contracts of the package catalog:Get,whole. -/
namespace V
open Go Go.Proofs Go.RowKit Crc
variable {w w':World} {b db:Nat} {S:Spa} {F:Nat->Prop} {R:List Nat}
theorem ye.same {a c:Nat} (h:ye w b db S F) (hs:yY a c w w') (ha:¬F a) (hc:¬F c):ye w' b db S F:=
 h.only (G:=fun k=>k=a\/k=c) ⟨hs.1,hs.2.1,hs.2.2.1,Nat.le_of_eq hs.2.2.2.1.symm,fun k _ hk=>hs.2.2.2.2 k (fun e=>hk (.inl e)) (fun e=>hk (.inr e))⟩ (fun j hj e=>by rcases e with rfl|rfl;exact ha hj;exact hc hj)
theorem zpF (h:ye w b db S F) {n:Nat} {bs:ByteArray} {ks:List Nat} (hn:n<4294967296) (hd:zae S) (hB:Blob S n bs ks):Calls prog 82 #[.pointer (some ⟨b,0,none⟩),.int .u32 (n:Int)] w (Ret fun v w'=>v=.tuple #[.string bs,.int .i64 0]/\Ext w w'):=by
 obtain⟨q0,q1,q2,q3⟩:=qb hd;obtain⟨Fd,x,hb,hr,nb,nr,m,h'⟩:=h;have hp:=hB.plen hd;refine(zki h' hn hp.1 hp.2).mono (Ret.mono ?_);rintro v w' ⟨rfl,he⟩;rw[hB.get (by omega)];exact⟨rfl,he⟩
def zqy (w0:World) (b db:Nat) (S:Spa) (F:Nat->Prop) (r1 r5 r6 z:Nat) (ks vs:List Nat) (V:Nat->Prop) (i:Nat) (w:World):Prop:=
 ye w b db S F/\∃ A1 A2 c1 c2,Gath w0 w r1 r5 r6 i (ks.take i) (vs.take i) A1 A2 c1 c2/\(∀ k,V k\/k=z\/k=z+1->r6<k/\orow A1≠some k/\orow A2≠some k)/\z<=w.heap.size
theorem zh0 {l:List Nat} {i:Nat} (h:i<l.length):l.take (i+1)=l.take i++[l.getD i 0]:=by
 rw[take_succ_eq_append_getElem h,getD_eq_getElem?_getD,List.getElem?_eq_getElem h];rfl
theorem zh1 (h:ye w b db S F) (hg:Good S R) {n:Nat} {c:Cat} (hp:znK S n c) (hu:zO S.sup.pages S.now n=true):
  Calls prog 25 #[.pointer (some ⟨b,0,none⟩),.int .u32 (n:Int)] w (Ret fun v w'=>(∃ x y,v=.tuple #[.agg (zN x y).toArray,.int .i64 0]/\yy w' w.heap.size x y c)/\Ext w w'):=by
 obtain⟨hIs,bn,bks,hT,hBl⟩:=hp;have hn2:=(zT.1 hu).1;have hdN:=hg.dims.n;have hn32:n<4294967296:=by have:=hg.well.lt hu;omega
 have hkvl:=zlk c;have ht16:=hIs.tabs;have hs16:=hIs.snaps;have hkl:(qW c).length=(kvC c).length:=by unfold qW;rw[length_map]
 have hvl:(xG c).length=(kvC c).length:=by unfold xG;rw[length_map]
 have hlen:(0::qW c).length=(bn::xG c).length:=hT.len;have hFlt:=h.lt
 -- what the tree's values are
 have hvu:∀ v∈bn::xG c,zO S.sup.pages S.now v=true:=by
  cases hT with
  |one hA=>exact fun v hv=>(hg.well.good n hu).2 v (by unfold yu;rw[hA.1];exact hv)
  |two m a c' h1 h2 h3 h4 h5 h6 h7 h8=>
   have hkid:yu S.page n=[a,c']:=by unfold yu;rw[h6]
   have hua:=((hg.well.good n hu).2 a (by rw[hkid];simp));have huc:=((hg.well.good n hu).2 c' (by rw[hkid];simp));intro v hv;rw[<- List.take_append_drop m (bn::xG c)]at hv;rcases mem_append.1 hv with e|e
   ·exact(hg.well.good a hua).2 v (by unfold yu;rw[h7.1];exact e)
   ·exact(hg.well.good c' huc).2 v (by unfold yu;rw[h8.1];exact e)
 have hv32:∀ v∈bn::xG c,v<4294967296:=fun v hv=>by have:=hg.well.lt (hvu v hv);omega
 apply zoe;unfold S25;refine zs fun r1 w1 hb1 he1 hr1 hz1=>?_;have hb1:Blk w1 r1 (zN (none,0,0) (none,0,0)) 25:=hb1;refine zd (beq_eq_false_iff_ne.2 (by omega)) ?_;refine zb (zhB (h.ext he1) hg hT hu (by rw[length_cons];omega)) ?_;rintro _ w2 ⟨rfl,he2⟩;refine⟨_,rfl,zd (by rfl) ?_⟩;refine zs fun r5 w3 hb5 he3 hr5 hz3=>?_;refine zs fun r6 w4 hb6 he4 hr6 hz4=>?_;have he24:=he3.trans he4;have he04:=(he1.trans he2).trans he24;have hb14:=(hb1.ext he2).ext he24;have hb54:=hb5.ext he4;have hs2:=he2.size;refine zb (zj7 (zj6 (b:=b) (db:=db) (F:=F) hg hT hu (by rw[length_cons];omega) hv32) (by omega)) ?_;rintro v w5 ⟨Q,R0,hit,hR0,hRx,hQl,hQ,he5⟩;refine⟨v,rfl,?_⟩;have hs5:=he5.size;have hL:(zbH (0::qW c) (bn::xG c)).length=(0::qW c).length:=zaO hlen;generalize hKs:(0::qW c)=KS at *;generalize hVs:(bn::xG c)=VS at *;refine zhv (fun i=>((KS.getD i 0:Int),(VS.getD i 0:Int),())) ?_ (zqy w b db S F r1 r5 r6 w5.heap.size KS VS) (fun _ _ _=>False) hit hQl (fun w' w'' hs hS=>hS.same hs (fun hf=>by have:=hFlt _ hf;omega) (fun hf=>by have:=hFlt _ hf;omega)) (fun _ _ _ _=>trivial) (fun V i w' hI=>hI.1) ?_ (fun _ _ _ _ _ hf _ _=>hf.elim) ?_ (fun o=>hRx _ _ hR0 (((Ext.refl w5).alloc _).alloc _)) ?_ ?_ (fun _ _ _ hf _ _=>hf.elim)
 ·intro i hi;exact(List.getElem?_eq_some_iff.1 (zbI hlen (by rw[<- hL];exact hi))).2.symm
 ·rintro V V' i w' w'' ⟨g1,A1,A2,c1,c2,g2,g3,g4⟩ hO hV hR;have l6:=g2.b6.lt;refine⟨hR,A1,A2,c1,c2,g2.only hO (by omega) ⟨by omega,by omega⟩ g3,fun k hk=>?_,by have:=hO.2.2.2.1;omega⟩;rcases hk with hk|hk
  ·rcases hV k hk with e|e
   ·exact g3 k (.inl e)
   ·exact⟨by omega,fun e2=>by have:=g2.ks.yg _ e2;omega,fun e2=>by have:=g2.vs.yg _ e2;omega⟩
  ·exact g3 k (.inr hk)
 ·intro o;have hx:Ext w5 ((w5.alloc (.deferred (some []))).alloc o):=((Ext.refl w5).alloc _).alloc _;refine⟨(h.ext (he04.trans he5)).ext hx,none,none,0,0,⟨(he04.trans he5).trans hx,(hb14.ext he5).ext hx,(hb54.ext he5).ext hx,(hb6.ext he5).ext hx,Owni.nil _ _ _,Owni.nil _ _ _⟩,fun k hk=>⟨?_,by simp[orow,Value.ownBlock],by simp[orow,Value.ownBlock]⟩,hx.size⟩;rcases hk with hk|hk
  ·have:=hQ k hk;omega
  ·omega
 ·rintro V i hi w' G N jump hI hsz hV hVb hG;have hi':i<KS.length:=by rw[<- hL];exact hi
  refine hG _ w' hI (Nat.le_refl _) (fun _ _=>rfl) ?_;rintro w2' ⟨g1,A1,A2,c1,c2,g2,g3,g4⟩ hs2' hk2 hNC hN' hJ';dsimp only;have hKl:KS.length<=33:=by rw[<- hKs,length_cons];omega
  have hvi:VS.getD i 0<4294967296:=js hv32 (by omega) i;refine zkj g2 ⟨by omega,by omega,by omega⟩ (by omega) hvi ?_;intro A1' A2' c1' c2' w3' g5 o5 n1 n2;have hnr:∀ k,V k\/k=w5.heap.size\/k=w5.heap.size+1->¬(k=r5\/k=r6\/orow A1=some k\/orow A2=some k)/\k<w2'.heap.size:=fun k hk=>by
   obtain⟨q1,q2,q3⟩:=g3 k hk;refine⟨fun e=>?_,?_⟩
   ·rcases e with e|e|e|e
    ·omega
    ·omega
    ·exact q2 e
    ·exact q3 e
   ·rcases hk with hk|hk
    ·have:=(hV k hk).1;omega
    ·omega
  have hsp':ye w3' b db S F:=g1.only o5 (fun j hj e=>by
   have:=hFlt j hj
   rcases e with e|e|e|e
   ·omega
   ·omega
   ·have:=g2.ks.row j e;omega
   ·have:=g2.vs.row j e;omega)
  refine hN' w3' hsp' ⟨hsp',A1',A2',c1',c2',by rw[zh0 hi',zh0 (by omega)];exact g5,fun k hk=>?_,by have:=o5.2.2.2.1;omega⟩ o5.2.2.2.1 (fun k hk=>?_)
  ·obtain⟨q1,q2,q3⟩:=g3 k hk;obtain⟨_,q4⟩:=hnr k hk;refine⟨q1,fun e=>?_,fun e=>?_⟩
   ·rcases n1 k e with e|e
    ·exact q2 e
    ·omega
   ·rcases n2 k e with e|e
    ·exact q3 e
    ·omega
  ·have hk:V k\/k=w5.heap.size\/k=w5.heap.size+1:=by
    rcases hk with e|e|e
    ·exact .inr (.inl e)
    ·exact .inr (.inr e)
    ·exact .inl e
   obtain⟨q1,q2⟩:=hnr k hk;exact o5.2.2.2.2 k q2 q1
 ·rintro V w' ⟨g1,A1,A2,c1,c2,g2,g3,g4⟩ _ hsz hdf;rw[jw];rw[hL]at g2;rw[take_of_length_le (Nat.le_refl _),take_of_length_le (by omega)]at g2;have htp:=zlj hg hT hu;refine zb (zhK g1 hn32 htp.1 htp.2) ?_;rintro _ w6 ⟨rfl,he6⟩;refine⟨_,rfl,zd (by rfl) ?_⟩;have g6:=g2.ext' he6;have sp6:=g1.ext he6;have hdf6:=he6.heap hdf;have hs6:=he6.size;have hKl:1<=KS.length/\KS.length<=33:=by rw[<- hKs,length_cons];omega
  refine zC ((A1,KS.length,c1):SLC) g6.b5 (by rfl) (zd (beq_eq_false_iff_ne.2 (by dsimp only;omega)) ?_);refine zC ((A1,KS.length,c1):SLC) g6.b5 (by rfl) ?_;refine zY g6.ks.sl (by omega) (by dsimp only;omega) ?_;have hK0:KS.getD (Int.toNat 0) 0=0:=by rw[<- hKs];rfl
  have hV0:VS.getD (Int.toNat 0) 0=bn:=by rw[<- hVs];rfl
  rw[hK0];refine zd (by rfl) ?_;refine zC ((A2,KS.length,c2):SLC) g6.b6 (by rfl) ?_;refine zY g6.vs.sl (by omega) (by dsimp only;omega) ?_;rw[hV0];have hbnm:bn∈VS:=by rw[<- hVs];exact mem_cons_self
  refine zb (zpF sp6 (hv32 bn hbnm) hg.dims (hBl.blob hg (hvu bn hbnm))) ?_;rintro _ w7 ⟨rfl,he7⟩;refine⟨(mkB (xV c),0,()),rfl,zd (by rfl) ?_⟩;have hcl:=hIs.len;refine zb (zb4 (s:=mkB (xV c)) (by rw[xb];omega)) ?_;rintro _ w8 ⟨⟨x,y,rfl,hown⟩,he8⟩;rw[yV,zjD hIs]at hown ⊢;refine⟨(xk x y,0,()),rfl,?_⟩;refine yt (vs:=zN x y) (by rfl) (xQ _ _) (fun r41 w9 hb41 he9 hr41=>?_) (by rfl);refine zd (by rfl) ?_;have hown9:=hown.ext he9;have hcat:=hown9.cat;have he68:=he7.trans he8;have he69:=he68.trans he9;have hs7:=he7.size;have hs8:=he8.size;have hs9:=he9.size;have g9:=g6.ext' he69;have hdf9:=he69.heap hdf6;refine zb (zdF hb41 hcat (by show(ones c).1.length<=_;unfold ones;rw[length_map];omega) (by show(ones c).2.length<=_;unfold ones;rw[length_map];omega)) ?_;rintro _ w10 ⟨Asp,ksp,rfl,hsp,he10⟩;refine⟨(Asp,(yK x y (ones c)).length,ksp),rfl,?_⟩;have hso:=zkk x y c;have hsl:(yK x y (ones c)).length=(yK x y c).length:=by have:=congrArg List.length hso;rwa [length_map,length_map]at this
  rw[hso,hsl]at hsp;rw[hsl];have g10:=g9.ext' he10;have hdf10:=he10.heap hdf9;have hs10:=he10.size;have hspl:=zcR x y c;have hkv:=zed x y c;have hlx:=hb41.lt
  -- rows
  have rx:(∀ j,orow x.1=some j->w7.heap.size<=j/\j<w8.heap.size)/\(∀ j,orow y.1=some j->w7.heap.size<=j/\j<w8.heap.size):=by
   obtain⟨⟨raws,q1⟩,q2⟩:=hown;exact⟨fun j hj=>⟨q1.row.row j hj,q1.row.yg j hj⟩,fun j hj=>⟨q2.row j hj,q2.yg j hj⟩⟩
  have rA1:=g6.ks.yg;have rA2:=g6.vs.yg;have l6:=g6.b6.lt;refine zC ((A1,KS.length,c1):SLC) g10.b5 (by rfl) ?_;have hKl2:KS.length=(yK x y c).length+1:=by rw[<- hKs,length_cons,hkl,hspl]
  refine zd (bne_eq_false_iff_eq.2 (by dsimp only;rw[wrap_i64 (by omega) (by omega)];omega)) ?_;generalize hspd:yK x y c=sp at *;refine zu (fun t w'=>∃ i:Nat,i<=sp.length/\t=((i:Int),())/\zav w' w7.heap.size x y c i/\Gath w w' r1 r5 r6 KS.length KS VS A1 A2 c1 c2/\Blk w' r41 (zN x y) 25/\Owni spE 140 w' w9.heap.size Asp sp.length ksp (sp.map spP)/\w'.heap[w5.heap.size]?=some (.deferred (some []))) (fun t=>(sp.length-t.1).toNat)
   ⟨0,by omega,rfl,(zpE hown9).ext he10,g10,hb41.ext he10,hsp,hdf10⟩ ?_
  rintro _ w11 ⟨i,hi,rfl,hmx,g11,hb11,hsp11,hdf11⟩;dsimp only
  by_cases hlt:i<sp.length
  ·refine zf (decide_eq_true (by omega)) ?_;have eg:(sp.map spP)[i]?=some (spP (sp[i]'hlt)):=by rw[List.getElem?_map,List.getElem?_eq_getElem hlt];rfl
   have egs:(yK x y c)[i]?=some (sp[i]'hlt):=by rw[hspd,List.getElem?_eq_getElem hlt]
   have ekey:KS.getD (i+1) 0=(sp[i]'hlt).1:=by
    rw[<- hKs];show(qW c).getD i 0=_;unfold qW;rw[<- hkv,map_map,getD_eq_getElem?_getD,List.getElem?_map,List.getElem?_eq_getElem hlt];rfl
   have eval:VS.getD (i+1) 0=(sp[i]'hlt).2.2:=by
    rw[<- hVs];show(xG c).getD i 0=_;unfold xG;rw[<- hkv,map_map,getD_eq_getElem?_getD,List.getElem?_map,List.getElem?_eq_getElem hlt];rfl
   generalize sp[i]'hlt=p at *;refine xY hsp11.sl (by omega) (x:=spP p) (by rw[Int.toNat_natCast];exact eg) rfl ?_;intro pa hpa hca;refine qC (ls:=[.int .u64,.ptr]) (x:=((p.1:Int),some p.2.1,())) hca ?_;refine yt (vs:=[.int .u64 (p.1:Int),.pointer (some p.2.1)]) (by rfl) (by
    intro v hv
    simp only [mem_cons,not_mem_nil,or_false]at hv
    rcases hv with rfl|rfl<;>rfl) (fun r50 w12 hb50 he12 hr50=>?_) (by rfl)
   refine zK fun w13 he13 hz13 hh13=>?_;have he113:=he12.trans he13;have g13:=g11.ext' he113;have hb50:=hb50.ext he13;have hw:wrap .i64 ((i:Int)+1)=((i+1:Nat):Int):=by rw[wrap_i64 (by omega) (by omega)];rfl
   rw[hw];refine zC ((A1,KS.length,c1):SLC) g13.b5 (by rfl) ?_;refine zY g13.ks.sl (by omega) (by dsimp only;omega) ?_;rw[Int.toNat_natCast,ekey];refine zC ((p.1:Nat):Int) hb50 (by rfl) (zd (by simp) ?_);refine zK fun w14 he14 hz14 hh14=>?_;have he114:=he113.trans he14;have g14:=g11.ext' he114;refine zk 1 (some p.2.1) (hb50.ext he14) (by rfl) ?_;refine zC ((A2,KS.length,c2):SLC) g14.b6 (by rfl) ?_;refine zY g14.vs.sl (by omega) (by dsimp only;omega) ?_;rw[Int.toNat_natCast,eval];refine zp ?_;refine zqc (hmx.ext he114) egs ?_;intro w15 hmx15 o15;have hG:∀ k,(orow x.1=some k\/orow y.1=some k)->w7.heap.size<=k/\k<w8.heap.size:=fun k hk=>by
    rcases hk with e|e
    ·exact rx.1 k e
    ·exact rx.2 k e
   refine⟨⟨i+1,by omega,rfl,hmx15,g14.only o15 (by omega) ⟨by omega,by omega⟩ (fun k hk=>?_),(hb11.ext he114).only o15 (fun e=>by have:=hG _ e;omega),(hsp11.ext he114).only o15 (fun j hj e=>by have:=hG _ e;have:=hsp11.row j hj;omega),?_⟩,by omega⟩
   ·have:=hG k hk;exact⟨by omega,fun e=>by have:=rA1 _ e;omega,fun e=>by have:=rA2 _ e;omega⟩
   ·have hz:w5.heap.size<w14.heap.size:=by have:=(Array.getElem?_eq_some_iff.1 (he114.heap hdf11)).1;omega
    rw[o15.2.2.2.2 _ hz (fun e=>by have:=hG _ e;omega)];exact he114.heap hdf11
  ·obtain rfl:i=sp.length:=by omega
   refine zd (decide_eq_false (by omega)) ?_;have hc:=zln hmx (by rw[hspd];exact Nat.le_refl _);refine zR (ls:=xh) (xk x y) hb11 (by rfl) ?_;refine refill (vs:=zN x y) g11.b1 (by rfl) (xQ _ _) (by rfl) ?_;intro w12 hb12 hx12 hk12 hz12;have he12:=hx12 w g11.ext (by omega);have heo:=g11.ext;refine jL (by rw[hk12 _ (by omega)];exact hdf11) ?_;have hsb:=ya (a:=w5.heap.size) (b:=w5.heap.size+1) (w:=w12) (o:=.deferred none) (.inl rfl);refine zR (ls:=xh) (xk x y) (hsb.blk hb12 (by omega)) (by rfl) ?_;have o1:Only (fun k=>k=r1) w11 w12:=⟨he12.os.trans heo.os.symm,he12.tape.trans heo.tape.symm,he12.output.trans heo.output.symm,Nat.le_of_eq hz12.symm,fun k _ hk=>hk12 k hk⟩;have o2:Only (fun k=>k=w5.heap.size) w12 (yA w12 w5.heap.size (.deferred none)):=Only.yA rfl;refine⟨⟨x,y,rfl,((hc.only o1 (fun k hk=>by omega)).only o2 (fun k hk=>by omega)).lower (by have:=he04.size;omega)⟩,hsb.ext he12 (by omega)⟩
end V
/- Contracts of the package catalog:Find,Copy. -/
namespace V
open Go Go.Proofs Go.RowKit Crc
variable {w w':World}
theorem zh2 {p q:Nat->Bool} {n:Nat} (h:∀ j,j<n->p j=q j):xe p n=xe q n:=by
 have aux:∀ l:List Nat,(∀ j∈l,p j=q j)->l.findIdx p=l.findIdx q:=by
  intro l
  induction l with
  |nil=>intro _;rfl
  |cons a r ih=>
   intro hl;rw[List.findIdx_cons,List.findIdx_cons,hl a mem_cons_self,ih (fun j hj=>hl j (mem_cons_of_mem _ hj))]
 exact aux _ (fun j hj=>h j (mem_range.1 hj))
def vV (c:Cat) (s:ByteArray):Nat:=xe (fun j=>decide (B (c.1.getD j zI).1=B s)) c.1.length
def vo (c:Cat) (s:ByteArray):Int×Int:=if vV c s<c.1.length then ((vV c s:Int),0) else (0,210)
theorem zfD {r:Raw} {b:Nat} {s:ByteArray} {t:TypeId} (hb:Blk w b [.string s] t):Calls prog 56 #[.agg (zX.f r).toArray,.pointer (some ⟨b,0,none⟩)] w (Ret fun v w'=>v=.bool (decide (B r.1=B s))/\Ext w w'):=by
 apply zoz;unfold S56;refine zs fun r1 w1 hb1 he1 hr1 hz1=>?_;have hb1:Blk w1 r1 (zX.f r) 44:=hb1;refine zC r.1 hb1 (by rfl) (zC s (hb.ext he1) (by rfl) ?_);exact⟨by rw[x6],he1⟩
theorem zgs {x y:SLC} {c:Cat} (h:qj w x y c) (s:ByteArray):
  Calls prog 17 #[.agg (zN x y).toArray,.string s] w (Ret fun v w'=>v=.tuple #[.int .i64 (vo c s).1,.int .i64 (vo c s).2]/\Ext w w'):=by
 obtain⟨⟨raws,hT⟩,hs,hcx,hcy⟩:=h;have hl:=hT.len;apply zn6;unfold S17;refine zs fun r1 w1 hb1 he1 hr1 hz1=>?_;have hb1:Blk w1 r1 (zN x y) 25:=hb1;refine zs fun r2 w2 hb2 he2 hr2 hz2=>?_;have he:=he1.trans he2;refine zC x (hb1.ext he2) (by rfl) ?_;refine zb (zcO (q:=fun j=>decide (B (raws.getD j yl).1=B s)) (by kernel_rfl) (hT.sl.ext he) (fun w' i he' hi=>zfD (hb2.ext he'))) ?_;rintro _ w3 ⟨rfl,he3⟩;refine⟨_,rfl,?_⟩;have hq:xe (fun j=>decide (B (raws.getD j yl).1=B s)) raws.length=vV c s:=by
  unfold vV;rw[hl];exact zh2 (fun j hj=>by rw[(hT.at_ j hj).name])
 rw[hq,hl];unfold vo
 by_cases hlt:vV c s<c.1.length
 ·rw[if_pos hlt,if_pos hlt];exact zd (decide_eq_false (by omega)) ⟨rfl,he.trans he3⟩
 ·rw[if_neg hlt,if_neg hlt];exact zf (by rfl) ⟨rfl,he.trans he3⟩
theorem Owni.neB {α:Type} {E:Enc α} {w:World} {e t:TypeId} {B n c r:Nat} {A:Option Addr} {xs:List α} {cs:List Value} (h:Owni E e w B A n c xs) (hb:Blk w r cs t) (he:e≠t):∀ j,orow A=some j->j≠r:=by
 intro j hj hr;subst hr;rcases h.2 with ⟨hv,_⟩|⟨g,cap,cur,hv,_,hg,_⟩
 ·injection hv with hv;subst hv;cases hj
 ·injection hv with hv
  subst hv;have e1:g=j:=Option.some.inj hj;subst e1;have hb':w.heap[g]?=some _:=hb;rw[hg]at hb';injection hb' with hb'
  injection hb' with _ e2 _
  exact he e2
theorem zlo:j9 prog 40 62 (.agg #[.string ByteArray.empty,.int .i64 0,.bool false]) xr.k 32:=⟨by kernel_rfl,by kernel_rfl,by kernel_rfl⟩
theorem zcT {x:SLC} {xs:List Raw} (h:Sli zX w x.1 x.2.1 xs) (hn:x.2.1<=1000000):
  Calls prog 65 #[.slice x.1 x.2.1 x.2.2] w (Ret fun v w'=>∃ A c,v=.slice A x.2.1 c/\Owni zX 44 w' w.heap.size A x.2.1 c xs/\Ext w w'):=by
 apply zoI;unfold S65;exact zfp (K:=fun v w'=>∃ A c,v=.slice A x.2.1 c/\Owni zX 44 w' w.heap.size A x.2.1 c xs/\Ext w w') zd8 h (by omega) (by omega) fun A' c' w' ho he=>⟨A',c',rfl,ho,he⟩
theorem zah {x:SLC} {xs:List Snp} (h:Sli yM w x.1 x.2.1 xs) (hn:x.2.1<=1000000):
  Calls prog 66 #[.slice x.1 x.2.1 x.2.2] w (Ret fun v w'=>∃ A c,v=.slice A x.2.1 c/\Owni yM 46 w' w.heap.size A x.2.1 c xs/\Ext w w'):=by
 apply zoJ;unfold S66;exact zfp (K:=fun v w'=>∃ A c,v=.slice A x.2.1 c/\Owni yM 46 w' w.heap.size A x.2.1 c xs/\Ext w w') zd9 h (by omega) (by omega) fun A' c' w' ho he=>⟨A',c',rfl,ho,he⟩
theorem zh3 {x:SLC} {xs:List Col} (h:Sli xr w x.1 x.2.1 xs) (hn:x.2.1<=1000000):
  Calls prog 67 #[.slice x.1 x.2.1 x.2.2] w (Ret fun v w'=>∃ A c,v=.slice A x.2.1 c/\Owni xr 62 w' w.heap.size A x.2.1 c xs/\Ext w w'):=by
 apply zoK;unfold S67;exact zfp (K:=fun v w'=>∃ A c,v=.slice A x.2.1 c/\Owni xr 62 w' w.heap.size A x.2.1 c xs/\Ext w w') zlo h (by omega) (by omega) fun A' c' w' ho he=>⟨A',c',rfl,ho,he⟩
def zkl (c:Cat):Prop:=c.1.length<=1000/\c.2.length<=1000/\∀ e∈c.1,e.2.1.length<=1000
structure zfE (w0 w:World) (r2 r7:Nat) (X Y:SLC) (raws:List Raw) (c:Cat) (i:Nat) (raws':List Raw):Prop where
 ext:Ext w0 w
 b2:Blk w r2 (zN (none,0,0) (none,0,0)) 25
 b7:Blk w r7 (zN X Y) 25
 row:Owni zX 44 w w0.heap.size X.1 X.2.1 X.2.2 raws'
 len:raws'.length=raws.length
 done:∀ j,j<i->xF w w0.heap.size (raws'.getD j yl) (c.1.getD j zI)
 left:∀ j,i<=j->raws'.getD j yl=raws.getD j yl
 snps:Owni yM 46 w w0.heap.size Y.1 Y.2.1 Y.2.2 c.2
theorem zfE.ext' {w0:World} {r2 r7 i:Nat} {X Y:SLC} {raws raws':List Raw} {c:Cat} (h:zfE w0 w r2 r7 X Y raws c i raws') (he:Ext w w'):zfE w0 w' r2 r7 X Y raws c i raws':=
 ⟨h.ext.trans he,h.b2.ext he,h.b7.ext he,h.row.ext he,h.len,fun j hj=>(h.done j hj).ext he,h.left,h.snps.ext he⟩
theorem zcU {w0:World} {r2 r7:Nat} {x X Y:SLC} {raws:List Raw} {c:Cat} {K:Value->WP} (hT:za6 w0 x raws c.1) (hX:X.2.1=raws.length) (hlt:zkl c) (h2:w0.heap.size<=r2) (h7:w0.heap.size<=r7) (h27:r2≠r7) (h:zfE w0 w r2 r7 X Y raws c 0 raws)
  (hK:∀ w',yy w' w0.heap.size X Y c->Ext w0 w'->K (.agg (zN X Y).toArray) w'):
  (ldW .slc (aD r7) fun(u8:SLC)=>
   zB (Int×Unit) ((0:Int),()) fun(y10:Int×Unit) (I9:(Int×Unit)->WP)=>
   za (decide (y10.1<((u8.2.1:Nat):Int))) (zc (0<=y10.1/\y10.1<((u8.2.1:Nat):Int))<|
   zh u8.1 fun(p11:Addr)=>
   zl [.str,.slc,(.int .u32),(.int .u64),(.int .i64)] (p11.add (Int.toNat y10.1*5)) fun(u12:(ByteArray×SLC×Int×Int×Int×Unit))=>
   zi (.cells #[(.string ByteArray.empty),(.slice none 0 0),(.int .u32 (0:Int)),(.int .u64 (0:Int)),(.int .i64 (0:Int))] 44) fun(r13:Nat)=>
   zc ((#[(.string u12.1),(.slice u12.2.1.1 u12.2.1.2.1 u12.2.1.2.2),(.int .u32 u12.2.2.1),(.int .u64 u12.2.2.2.1),(.int .i64 u12.2.2.2.2.1)]:Array Value).size=5)<|
   zt (aD r13) [(.string u12.1),(.slice u12.2.1.1 u12.2.1.2.1 u12.2.1.2.2),(.int .u32 u12.2.2.1),(.int .u64 u12.2.2.2.1),(.int .i64 u12.2.2.2.2.1)]<|
   zD<|
   ldW .slc (aD r7) fun(u14:SLC)=>
   ldW .slc ((aD r13).add 1) fun(u15:SLC)=>
   ze prog 67 [(.slice u15.1 u15.2.1 u15.2.2)] (.one (.one .slc)) fun(u16:SLC)=>
   zr [[((aD r7),(.slice u14.1 u14.2.1 u14.2.2))]]<|
   zc (0<=y10.1/\y10.1<((u14.2.1:Nat):Int))<|
   zh u14.1 fun(p17:Addr)=>
   stW ((p17.add (Int.toNat y10.1*5)).add 1) (.slice u16.1 u16.2.1 u16.2.2)<|I9 ((wrap .i64 (y10.1+(1:Int))),()))<|
   zl [.slc,.slc] (aD r7) fun(u18:(SLC×SLC×Unit))=>
   zc ((#[(.slice u18.1.1 u18.1.2.1 u18.1.2.2),(.slice u18.2.1.1 u18.2.1.2.1 u18.2.1.2.2)]:Array Value).size=2)<|
   zt (aD r2) [(.slice u18.1.1 u18.1.2.1 u18.1.2.2),(.slice u18.2.1.1 u18.2.1.2.1 u18.2.1.2.2)]<|
   zl [.slc,.slc] (aD r2) fun(u19:(SLC×SLC×Unit))=>K (.agg #[(.slice u19.1.1 u19.1.2.1 u19.1.2.2),(.slice u19.2.1.1 u19.2.1.2.1 u19.2.1.2.2)])) w:=by
 have hl:=hT.len;obtain⟨hl1,hl2,hl3⟩:=hlt;refine zC X h.b7 (by rfl) ?_;refine zu (fun q w'=>∃ (i:Nat) (raws':List Raw),i<=raws.length/\q=((i:Int),())/\zfE w0 w' r2 r7 X Y raws c i raws') (fun q=>(raws.length-q.1).toNat) ⟨0,raws,by omega,rfl,h⟩ ?_;rintro _ w1 ⟨i,raws',hi,rfl,g⟩;dsimp only;have hl':=g.len
 by_cases hlt:i<raws.length
 ·refine zf (decide_eq_true (by omega)) ?_;have eg:raws'[i]?=some (raws'.getD i yl):=by rw[getD_eq_getElem?_getD,List.getElem?_eq_getElem (by omega)];rfl
  have eL:=g.left i (Nat.le_refl _);have hE:=(hT.at_ i (by omega)).ext g.ext;rw[<- eL]at hE;have hmem:c.1.getD i zI∈c.1:=by rw[getD_eq_getElem?_getD,List.getElem?_eq_getElem (by omega)];exact getElem_mem _
  have hcl:=hl3 _ hmem;generalize hp:raws'.getD i yl=p at *;refine xY g.row.sl (by omega) (x:=p) (by rw[Int.toNat_natCast];exact eg) rfl ?_;intro pa hpa hca;refine qC (ls:=zbz) (x:=uj p) hca ?_;refine yt (vs:=zX.f p) (by rfl) (zX.one _) (fun r13 w2 hb2 he2 hr2=>?_) (by rfl);refine zK fun w3 he3 hz3 hh3=>?_;have he13:=he2.trans he3;have g3:=g.ext' he13;have hb3:=hb2.ext he3;refine zC X g3.b7 (by rfl) (zk 1 p.2.1 hb3 (by rfl) ?_);have hcs:=hE.cols.ext he13;have hcsl:=hcs.len;refine zb (zh3 (x:=p.2.1) hcs (by omega)) ?_;rintro _ w4 ⟨A4,k4,rfl,ho4,he4⟩;refine⟨(A4,p.2.1.2.1,k4),rfl,?_⟩;have g4:=g3.ext' he4;refine xz (yd g4.b7 rfl) ?_;refine zE ⟨by omega,by omega⟩ ?_;obtain⟨a,hA⟩:∃ a,X.1=some a:=by
   obtain⟨a,ha,_⟩:=g4.row.sl.2.2 (by omega);exact⟨a,ha⟩
  refine⟨a,hA,?_⟩;have hadr:(a.add (Int.toNat (i:Int)*5)).add 1=((adr X.1).add (i*5)).add 1:=by rw[hA,Int.toNat_natCast];rfl
  have hw:wrap .i64 ((i:Int)+1)=((i+1:Nat):Int):=by rw[wrap_i64 (by omega) (by omega)];rfl
  show stW ((a.add (Int.toNat (i:Int)*5)).add 1) (.slice A4 p.2.1.2.1 k4) _ w4;rw[hadr,hw];refine Owni.stF (x':=(p.1,(A4,p.2.1.2.1,k4),p.2.2)) g4.row (k:=5) rfl eg (by omega) (by rfl) ?_;intro w5 ho5 o5;have hrow:=g4.row.row;have hsz:=g.ext.size;have hsz3:=he13.size;refine⟨⟨i+1,_,by omega,rfl,Only.ext g4.ext o5 (fun j hj=>hrow j hj),g4.b2.only o5 (fun e=>?_),g4.b7.only o5 (fun e=>?_),ho5,by rw[length_set];exact hl',fun j hj=>?_,fun j hj=>?_,g4.snps.only o5 (fun q hq e=>g4.snps.ne g4.row (by decide) q hq e)⟩,by omega⟩
  ·exact Owni.neB g4.row g4.b2 (by decide) _ e rfl
  ·exact Owni.neB g4.row g4.b7 (by decide) _ e rfl
  ·rw[kV (by omega)]
   by_cases e:i=j
   ·subst e;rw[if_pos rfl];exact⟨hE.name,hE.rest,(ho4.lower (by omega)).only o5 (fun q hq e=>ho4.ne g4.row (by decide) q hq e)⟩
   ·rw[if_neg e];have hd:=g4.done j (by omega);exact⟨hd.name,hd.rest,hd.cols.only o5 (fun q hq e=>hd.cols.ne g4.row (by decide) q hq e)⟩
  ·rw[kV (by omega),if_neg (by omega)];exact g4.left j (by omega)
 ·obtain rfl:i=raws.length:=by omega
  refine zd (decide_eq_false (by omega)) ?_;refine zR (ls:=xh) (xk X Y) g.b7 (by rfl) ?_;refine refill (vs:=zN X Y) g.b2 (by rfl) (xQ _ _) (by rfl) ?_;intro w2 hb2 hx2 hk2 hz2;have he2:=hx2 w0 g.ext h2;refine zR (ls:=xh) (xk X Y) hb2 (by rfl) ?_;have o:Only (fun k=>k=r2) w1 w2:=⟨he2.os.trans g.ext.os.symm,he2.tape.trans g.ext.tape.symm,he2.output.trans g.ext.output.symm,Nat.le_of_eq hz2.symm,fun k _ hk=>hk2 k hk⟩;have nB:∀ {α:Type} {E:Enc α} {e:TypeId} {A:Option Addr} {n k:Nat} {xs:List α},e≠25->Owni E e w1 w0.heap.size A n k xs->Owni E e w2 w0.heap.size A n k xs:=fun hne ho=>ho.only o (fun j hj e=>Owni.neB ho g.b2 hne j hj e);refine hK w2 ⟨⟨raws',nB (by decide) g.row,by omega,fun j hj=>?_⟩,nB (by decide) g.snps⟩ he2;have hd:=g.done j (by omega);exact⟨hd.name,hd.rest,nB (by decide) hd.cols⟩
theorem zgt {x y:SLC} {c:Cat} (h:qj w x y c) (hlt:zkl c):
  Calls prog 21 #[.agg (zN x y).toArray] w (Ret fun v w'=>(∃ X Y,v=.agg (zN X Y).toArray/\yy w' w.heap.size X Y c)/\Ext w w'):=by
 obtain⟨⟨raws,hT⟩,hs,hcx,hcy⟩:=h;have hl:=hT.len;have hxl:=hT.sl.len;have hyl:=hs.len;obtain⟨hl1,hl2,hl3⟩:=id hlt;apply zoa;unfold S21;refine zs fun r1 w1 hb1 he1 hr1 hz1=>?_;have hb1:Blk w1 r1 (zN x y) 25:=hb1;refine zs fun r2 w2 hb2 he2 hr2 hz2=>?_;have hb2:Blk w2 r2 (zN (none,0,0) (none,0,0)) 25:=hb2;refine zK fun w3 he3 hz3 hh3=>?_;have hb13:=(hb1.ext he2).ext he3;have hb23:=hb2.ext he3;have he03:=(he1.trans he2).trans he3;have hs03:=he03.size;refine zC x hb13 (by rfl) (zk 1 y hb13 (by rfl) ?_);have fin:∀ {w6:World} {r7:Nat} {A1 A2:Option Addr} {k1 k2:Nat} {B1 B2:Nat},Ext w3 w6->Owni zX 44 w6 B1 A1 x.2.1 k1 raws->Owni yM 46 w6 B2 A2 y.2.1 k2 c.2->w.heap.size<=B1->w.heap.size<=B2->Blk w6 r7 (zN (A1,x.2.1,k1) (A2,y.2.1,k2)) 25->zfE w w6 r2 r7 (A1,x.2.1,k1) (A2,y.2.1,k2) raws c 0 raws:=fun he ho1 ho2 hB1 hB2 hb=>
  ⟨he03.trans he,hb23.ext he,hb,ho1.lower hB1,rfl,fun j hj=>absurd hj (by omega),fun j _=>rfl,ho2.lower hB2⟩
 refine⟨?_,?_⟩
 ·refine zb (zcT (hT.sl.ext he03) (by omega)) ?_;rintro _ w4 ⟨A1,k1,rfl,ho1,he4⟩;refine⟨(A1,x.2.1,k1),rfl,?_⟩;refine xz (yF (hb13.ext he4) rfl) ?_;refine⟨?_,?_⟩
  ·refine zb (zah (hs.ext (he03.trans he4)) (by omega)) ?_;rintro _ w5 ⟨A2,k2,rfl,ho2,he5⟩;refine⟨(A2,y.2.1,k2),rfl,?_⟩;refine zs fun r7 w6 hb7 he6 hr7 hz7=>?_;have he36:=(he4.trans he5).trans he6;have hz36:=he36.size;have:=he4.size;have:=he5.size;refine jo (yF (hb13.ext he36) rfl) (yd (hb13.ext he36) rfl) ?_;refine refill (vs:=zN (A1,x.2.1,k1) (A2,y.2.1,k2)) hb7 (by rfl) (xQ _ _) (by rfl) ?_;intro w7 hb77 hx7 hk7 hz77;have he7:=hx7 w3 he36 (by omega);have e7:=hx7 w5 he6 (by omega);exact zcU (K:=fun v w'=>(∃ X Y,v=.agg (zN X Y).toArray/\yy w' w.heap.size X Y c)/\Ext w w') (X:=(A1,x.2.1,k1)) (Y:=(A2,y.2.1,k2)) hT hxl.symm hlt (by omega) (by omega) (by omega) (fin he7 ((ho1.ext he5).ext e7) (ho2.ext e7) (by omega) (by omega) hb77) (fun w' hc he=>⟨⟨_,_,rfl,hc⟩,he⟩)
  ·refine zs fun r7 w6 hb7 he6 hr7 hz7=>?_;have he36:=he4.trans he6;have:=he4.size;refine jo (yF (hb13.ext he36) rfl) (yd (hb13.ext he36) rfl) ?_;refine zb (zah (hs.ext (he03.trans he36)) (by omega)) ?_;rintro _ w5 ⟨A2,k2,rfl,ho2,he5⟩;refine⟨(A2,y.2.1,k2),rfl,?_⟩;have he35:=he36.trans he5;have:=he6.size;refine refill (vs:=zN (A1,x.2.1,k1) (A2,y.2.1,k2)) (hb7.ext he5) (by rfl) (xQ _ _) (by rfl) ?_;intro w7 hb77 hx7 hk7 hz77;have he7:=hx7 w3 he35 (by omega);have e47:=hx7 w4 (he6.trans he5) (by omega);have o7:Only (fun k=>k=r7) w5 w7:=⟨he7.os.trans he35.os.symm,he7.tape.trans he35.tape.symm,he7.output.trans he35.output.symm,Nat.le_of_eq hz77.symm,fun k _ hk=>hk7 k hk⟩;exact zcU (K:=fun v w'=>(∃ X Y,v=.agg (zN X Y).toArray/\yy w' w.heap.size X Y c)/\Ext w w') (X:=(A1,x.2.1,k1)) (Y:=(A2,y.2.1,k2)) hT hxl.symm hlt (by omega) (by omega) (by omega) (fin he7 (ho1.ext e47) (ho2.only o7 (fun j hj e=>by have:=ho2.row j hj;have:j=r7:=e;omega)) (by omega) (by omega) hb77) (fun w' hc he=>⟨⟨_,_,rfl,hc⟩,he⟩)
 ·refine zs fun r7 w6 hb7 he6 hr7 hz7=>?_;refine jo (yF (hb13.ext he6) rfl) (yd (hb13.ext he6) rfl) ?_;refine zb (zcT (hT.sl.ext (he03.trans he6)) (by omega)) ?_;rintro _ w4 ⟨A1,k1,rfl,ho1,he4⟩;refine⟨(A1,x.2.1,k1),rfl,?_⟩;refine xz (yF ((hb13.ext he6).ext he4) rfl) ?_;have:=he6.size;have:=he4.size;refine zb (zah (hs.ext ((he03.trans he6).trans he4)) (by omega)) ?_;rintro _ w5 ⟨A2,k2,rfl,ho2,he5⟩;refine⟨(A2,y.2.1,k2),rfl,?_⟩;have he65:=he4.trans he5;have he35:=he6.trans he65;refine refill (vs:=zN (A1,x.2.1,k1) (A2,y.2.1,k2)) (hb7.ext he65) (by rfl) (xQ _ _) (by rfl) ?_;intro w7 hb77 hx7 hk7 hz77;have he7:=hx7 w3 he35 (by omega);have o7:Only (fun k=>k=r7) w5 w7:=⟨he7.os.trans he35.os.symm,he7.tape.trans he35.tape.symm,he7.output.trans he35.output.symm,Nat.le_of_eq hz77.symm,fun k _ hk=>hk7 k hk⟩;have hlt7:=hb7.lt;exact zcU (K:=fun v w'=>(∃ X Y,v=.agg (zN X Y).toArray/\yy w' w.heap.size X Y c)/\Ext w w') (X:=(A1,x.2.1,k1)) (Y:=(A2,y.2.1,k2)) hT hxl.symm hlt (by omega) (by omega) (by omega) (fin he7 ((ho1.ext he5).only o7 (fun j hj e=>by have:=ho1.row j hj;have:j=r7:=e;omega)) (ho2.only o7 (fun j hj e=>by have:=ho2.row j hj;have:j=r7:=e;omega)) (by omega) (by omega) hb77) (fun w' hc he=>⟨⟨_,_,rfl,hc⟩,he⟩)
end V
/- Spaces of which nothing is owned:plain. Leaves that are dropped. -/
namespace V
open Go Go.Proofs Go.RowKit Crc
theorem ze6 {U:Nat->Bool} (r:Nat->Nat):∀ N:Nat,(∃ n,n<N/\U n=true)->∃ n,n<N/\U n=true/\∀ m,m<N->U m=true->r m<=r n
 |0,⟨n,h,_⟩=>by omega
 |N+1,h=>by
  by_cases hN:∃ n,n<N/\U n=true
  ·obtain⟨n,h1,h2,h3⟩:=ze6 r N hN
   by_cases hu:U N=true
   ·by_cases hr:r N<=r n
    ·refine⟨n,by omega,h2,fun m hm hum=>?_⟩
     by_cases e:m=N
     ·subst e;exact hr
     ·exact h3 m (by omega) hum
    ·refine⟨N,by omega,hu,fun m hm hum=>?_⟩
     by_cases e:m=N
     ·subst e;exact Nat.le_refl _
     ·have:=h3 m (by omega) hum;omega
   ·refine⟨n,by omega,h2,fun m hm hum=>?_⟩
    by_cases e:m=N
    ·subst e;exact absurd hum hu
    ·exact h3 m (by omega) hum
  ·obtain⟨n,h1,h2⟩:=h;have e:n=N:=by
    by_cases e:n<N
    ·exact absurd ⟨n,e,h2⟩ hN
    ·omega
   subst e;refine⟨n,by omega,h2,fun m hm hum=>?_⟩
   by_cases e:m=n
   ·subst e;exact Nat.le_refl _
   ·exact absurd ⟨m,by omega,hum⟩ hN
theorem zlp {N:Nat} {ps:List Nat} {pg:PgF} {c:List Nat} (h:yb N ps pg c []) (n:Nat):zO ps c n=false:=by
 cases hq:zO ps c n with
 |false=>rfl
 |true=>
  exfalso
  obtain⟨r,hr⟩:=h.rank;obtain⟨m,m1,m2,m3⟩:=ze6 (U:=zO ps c) r N ⟨n,h.lt hq,hq⟩;obtain⟨a1,a2,a3⟩:=zT.1 m2;have hs:=h.sum m a1 a2;rw[List.count_nil,Nat.zero_add]at hs;have:∃ k,k<N/\xR ps pg c m k≠0:=by
   apply Classical.byContradiction;intro hno;have:vi N ps pg c m=0:=by
    unfold vi;rw[zf3 (g:=fun _=>0) (fun k hk=>by
     apply Classical.byContradiction
     intro hk0
     exact hno ⟨k,hk,hk0⟩)]
    exact zcH N
   omega
  obtain⟨k,hk,hk0⟩:=this;unfold xR at hk0;split at hk0
  ·rename_i huk;have hm:m∈yu pg k:=List.count_pos_iff.1 (by omega);have:=hr k huk m hm;have:=m3 k hk huk;omega
  ·exact hk0 rfl
theorem zge {N:Nat} {ps:List Nat} {pg:PgF} {c:List Nat} (h:yb N ps pg c []) {n:Nat} (h2:2<=n) (hp:n∉ps):c.getD n 0=0:=by
 have:=zlp h n;cases hq:c.getD n 0 with
 |zero=>rfl
 |succ k=>
  rw[zT.2 ⟨h2,hp,by omega⟩]at this;cases this
theorem zkm {S:Spa} (h:Great S [] [] none) (hm:S.mark=none):S.z7+S.sup.pages.length+2=S.N:=by
 have hP:=h.heldOK.znH h.good;have hN:=h.good.dims.n;have hmem:∀ n,n∈S.yc↔2<=n/\n<S.N/\n∉S.sup.pages:=by
  intro n;rw[ub];constructor
  ·rintro⟨a1,a2,a3⟩;refine⟨a2,a1,fun e=>?_⟩;have:=(hP.at_ n e).2.2;have:=(zV.1 a3).1;omega
  ·rintro⟨a1,a2,a3⟩;refine⟨a2,a1,zV.2 ⟨zge h.good.well a1 a3,zge h.hwell a1 a3,by rw[hm];rfl⟩⟩
 have hnd:(0::1::(S.sup.pages++S.yc)).Nodup:=by
  rw[nodup_cons,nodup_cons,List.nodup_append];refine⟨?_,?_,hP.nodup,zne S,?_⟩
  ·simp only [mem_cons,mem_append,not_or];exact⟨by omega,fun e=>by have:=(hP.at_ 0 e).1;omega,fun e=>by have:=((hmem 0).1 e).1;omega⟩
  ·simp only [mem_append,not_or];exact⟨fun e=>by have:=(hP.at_ 1 e).1;omega,fun e=>by have:=((hmem 1).1 e).1;omega⟩
  ·intro a ha b hb e;subst e;exact((hmem a).1 hb).2.2 ha
 have h1:=zat hnd (b:=List.range S.N) (fun x hx=>by
  rw[mem_range]
  simp only [mem_cons,mem_append]at hx
  rcases hx with e|e|e|e
  ·omega
  ·omega
  ·exact(hP.at_ x e).2.1
  ·exact((hmem x).1 e).2.1)
 have h2:=zat (List.nodup_range (n:=S.N)) (b:=0::1::(S.sup.pages++S.yc)) (fun x hx=>by
  have hx:=mem_range.1 hx
  simp only [mem_cons,mem_append]
  by_cases e:x<2
  ·omega
  ·by_cases e2:x∈S.sup.pages
   ·exact .inr (.inr (.inl e2))
   ·exact .inr (.inr (.inr ((hmem x).2 ⟨by omega,hx,e2⟩))))
 rw[length_range]at h1 h2;simp only [length_cons,length_append]at h1 h2;unfold Spa.z7;omega
end V
/- The space that laws on catalogs begin with;what stays,whatever a space does. -/
namespace V
open Go Go.Proofs Go.RowKit Crc
def S0:Spa:=qz (zdY 256 256)
theorem zfF:zZ 256 256=true:=by decide
theorem znL:zJ 256 256=3:=by decide
theorem zno:chk (xl 256 256)=0:=by
 have h:=zpo (size:=256) (N:=256) zfF;rw[h,znL]
 decide
theorem zeh:Great S0 [] [] none:=(zag (zgC zfF) zno).2.1
theorem zqs:(yC (zdY 256 256)).2=0:=(zag (zgC zfF) zno).1
theorem zlq:S0.dev.pen=[]:=(zag (zgC zfF) zno).2.2
theorem zlr:S0.sup=xl 256 256:=rfl
theorem zpG:S0.mark=none:=rfl
theorem zei:S0.sup.pages.length=3:=by rw[zlr];show(xJ (zJ 256 256)).length=3;rw[kF,znL]
theorem zdc:S0.r0=238:=by unfold Spa.r0 Spa.room;rw[zlr];decide
theorem znM:qU 238=13804:=by decide
theorem zqz:S0.N=256:=rfl
theorem zjj:S0.z7=251:=by
 have:=zkm zeh zpG;rw[zei,zqz]at this;omega
structure St (w0 w:World) (b db:Nat) (S:Spa) (F:Nat->Prop):Prop where
 sp:ye w b db S F
 low:∀ k,F k->w0.heap.size<=k
 ext:Ext w0 w
def Safe (F:Nat->Prop) (w:World) (P:World->Prop):Prop:=∀ w',Only F w w'->P w'
variable {w0 w w':World} {b db:Nat} {S S':Spa} {F F':Nat->Prop} {P:World->Prop}
theorem Safe.step (h:Safe F w P) (o:Only F w w') (hF:∀ k,F' k->F k\/w.heap.size<=k):Safe F' w' P:=fun w'' o2=>h w'' (Only.trans o o2 hF)
theorem Safe.mono {Q:World->Prop} (h:Safe F w P) (hQ:∀ w,P w->Q w):Safe F w Q:=fun w' o=>hQ _ (h w' o)
theorem St.ext' (h:St w0 w b db S F) (he:Ext w w'):St w0 w' b db S F:=⟨h.sp.ext he,h.low,h.ext.trans he⟩
theorem St.step (h:St w0 w b db S F) (hst:yI w b db F S' w'):∃ F',St w0 w' b db S' F'/\∀ P:World->Prop,Safe F w P->Safe F' w' P:=by
 obtain⟨F',h1,h2,h3⟩:=hst;refine⟨F',⟨h1,fun k hk=>?_,Only.ext h.ext h3 h.low⟩,fun P hP=>hP.step h3 h2⟩;rcases h2 k hk with e|e
 ·exact h.low k e
 ·exact Nat.le_trans h.ext.size e
theorem St.own (h:ye w b db S F) {x y:SLC} {c:Cat} (hc:yy w' w.heap.size x y c):Safe F w' (fun w=>yy w 0 x y c):=fun w2 o=>(hc.only o (fun k hk=>h.lt k hk)).lower (Nat.zero_le _)
theorem At.zqA (h:At w0 w b db S):∃ F,St w0 w b db S F:=by
 obtain⟨F,h1,h2,h3⟩:=h;exact⟨F,h1,h2,h3⟩
theorem zls {w1:World} {db:Nat} (h:zhg w0 (zdY 256 256) db w1):
  Calls prog 69 #[.pointer (some ⟨db,0,none⟩)] w1 (Ret fun v w'=>∃ b,v=.tuple #[.pointer (some ⟨b,0,none⟩),.int .i64 0]/\∃ F,St w0 w' b db S0 F):=by
 refine(zk8 h (zgC zfF) (by show([]:List (Int×ByteArray)).length<=_;simp)).mono (Ret.mono ?_);rintro _ w3 (⟨hne,_⟩|⟨_,b,rfl,hat⟩)
 ·exact absurd zqs hne
 ·exact⟨b,rfl,hat.zqA⟩
def strk:ByteArray:=ByteArray.mk #[107]
def strv:ByteArray:=ByteArray.mk #[118]
def pk:Col:=(strk,3,false)
def pv:Col:=(strv,1,true)
def zdd:List Col:=[pk,pv]
theorem zh4 (w:World):Calls prog 70 #[] w (Ret fun v w'=>∃ r,v=.slice (some ⟨r,0,none⟩) 2 2/\Owni xr 62 w' w.heap.size (some ⟨r,0,none⟩) 2 2 zdd/\Ext w w'):=by
 apply zoN;unfold S70;refine zs fun r w1 hb he hr hz=>⟨r,rfl,kC (E:=xr) (xs:=zdd) (by exact hb) rfl (by omega) (by omega),he⟩
theorem zpH:yL zdd=0:=by kernel_rfl
end V
/- Law 24:the space,the catalog that all begin with;the example. -/
namespace V
open Go Go.Proofs Go.RowKit Crc
theorem ziM (w:World):Calls prog 22 #[] w (Ret fun v w'=>∃ db b,v=.tuple #[.pointer (some ⟨db,0,none⟩),.pointer (some ⟨b,0,none⟩)]/\∃ F,St w w' b db S0 F):=by
 apply zob;unfold S22;refine zb (zjH w 256 256) ?_;rintro _ w2 (⟨_,db,rfl,hd⟩|⟨hg,_⟩)
 ·refine⟨(some ⟨db,0,none⟩,0,()),rfl,?_⟩;refine zb (zls hd) ?_;rintro _ w3 ⟨b,rfl,F,h3⟩;exact⟨(some ⟨b,0,none⟩,0,()),rfl,zd (by rfl) ⟨db,b,rfl,F,h3⟩⟩
 ·rw[zfF]at hg;cases hg
def strt:ByteArray:=ByteArray.mk #[116]
def strs:ByteArray:=ByteArray.mk #[115]
def zej (root snap:Nat):Cat:=([(strt,zdd,root,5,if root=0 then 0 else 3)],[(strs,snap)])
theorem zgf (w:World) (root snap:Nat):Calls prog 23 #[.int .u32 (root:Int),.int .u32 (snap:Int)] w (Ret fun v w'=>(∃ x y,v=.agg (zN x y).toArray/\yy w' w.heap.size x y (zej root snap))/\Ext w w'):=by
 apply zoc;unfold S23;refine zs fun r1 w1 hb1 he1 hr1 hz1=>?_;have tail:∀ (rows:Int) (n:Nat) {w2:World},rows=(if root=0 then 0 else 3)->Ext w1 w2->Owni xr 62 w2 w1.heap.size (some ⟨n,0,none⟩) 2 2 zdd->
   (zi (.cells #[(.string (ByteArray.mk #[116])),(.slice (some (aD n)) 2 2),(.int .u32 (root:Int)),(.int .u64 (5:Int)),(.int .i64 rows)] 44) fun(r3:Nat)=>
    zi (.cells #[(.string (ByteArray.mk #[115])),(.int .u32 (snap:Int))] 46) fun(r4:Nat)=>
    zc ((#[(.slice (some (aD r3)) 1 1),(.slice (some (aD r4)) 1 1)]:Array Value).size=2)<|
    zt (aD r1) [(.slice (some (aD r3)) 1 1),(.slice (some (aD r4)) 1 1)]<|
    zl [.slc,.slc] (aD r1) fun(u5:(SLC×SLC×Unit))=>(fun w'=>(∃ x y,Value.agg #[(.slice u5.1.1 u5.1.2.1 u5.1.2.2),(.slice u5.2.1.1 u5.2.1.2.1 u5.2.1.2.2)]=.agg (zN x y).toArray/\yy w' w.heap.size x y (zej root snap))/\Ext w w')) w2:=by
  intro rows n w2 hrows he2 ho;refine zs fun r3 w3 hb3 he3 hr3 hz3=>?_;refine zs fun r4 w4 hb4 he4 hr4 hz4=>?_;have he14:=(he2.trans he3).trans he4;have hs2:=he2.size;refine refill (vs:=zN (some ⟨r3,0,none⟩,1,1) (some ⟨r4,0,none⟩,1,1)) (hb1.ext he14) (by rfl) (xQ _ _) (by rfl) ?_;intro w5 hb5 hx5 hk5 hz5;have he5:=hx5 w (he1.trans he14) (by omega);have hk3:Blk w5 r3 (zX.flat [(strt,(some ⟨n,0,none⟩,2,2),root,5,rows)]) 44:=by
   have:Blk w4 r3 (zX.flat [(strt,(some ⟨n,0,none⟩,2,2),root,5,rows)]) 44:=hb3.ext he4;exact(hk5 r3 (by omega)).trans this
  have hk4:Blk w5 r4 (yM.flat [(strs,snap)]) 46:=(hk5 r4 (by omega)).trans hb4;have o5:Only (fun k=>k=r1) w4 w5:=⟨he5.os.trans (he1.trans he14).os.symm,he5.tape.trans (he1.trans he14).tape.symm,he5.output.trans (he1.trans he14).output.symm,Nat.le_of_eq hz5.symm,fun k _ hk=>hk5 k hk⟩;have hor:=ho.row;refine zR (ls:=xh) (xk (some ⟨r3,0,none⟩,1,1) (some ⟨r4,0,none⟩,1,1)) hb5 (by rfl) ⟨⟨_,_,rfl,⟨[(strt,(some ⟨n,0,none⟩,2,2),root,5,rows)],kC hk3 rfl (by show 1<=9223372036854775807;omega) (by omega),rfl,fun i hi=>?_⟩,kC hk4 rfl (by show 1<=9223372036854775807;omega) (by omega)⟩,he5⟩;have hi:i<1:=hi;obtain rfl:i=0:=by omega
  refine⟨rfl,?_,?_⟩
  ·show(root,5,rows)=(root,5,_);rw[hrows]
  ·exact(((ho.ext he3).ext he4).only o5 (fun j hj e=>by have:=hor j hj;have:j=r1:=e;omega)).lower (by omega)
 by_cases h0:root=0
 ·refine zd (bne_eq_false_iff_eq.2 (by rw[h0];rfl)) ?_;refine zb (zh4 w1) ?_;rintro _ w2 ⟨n,rfl,ho,he2⟩;refine⟨(some ⟨n,0,none⟩,2,2),rfl,?_⟩;exact tail 0 n (by rw[if_pos h0]) he2 ho
 ·refine zf (bne_iff_ne.2 (by omega)) ?_;refine zb (zh4 w1) ?_;rintro _ w2 ⟨n,rfl,ho,he2⟩;refine⟨(some ⟨n,0,none⟩,2,2),rfl,?_⟩;exact tail 3 n (by rw[if_neg h0]) he2 ho
theorem zqd (root snap:Nat):qp (zej root snap)=true:=by
 refine vX.2 ⟨by show 1<=16;omega,by show 1<=16;omega,fun e he=>?_,fun s hs=>?_,rfl,rfl⟩
 ·rw[mem_singleton.1 he];refine⟨by kernel_rfl,zpH,?_,?_,by show 5<_;omega⟩
  ·show 0<=(if root=0 then (0:Int) else 3)/\(if root=0 then (0:Int) else 3)<=4096;split<;>omega
  ·show root=0↔(if root=0 then (0:Int) else 3)=0;split
   ·rename_i h;exact⟨fun _=>rfl,fun _=>h⟩
   ·rename_i h;exact⟨fun e=>absurd e h,fun e=>by omega⟩
 ·rw[mem_singleton.1 hs]
  kernel_rfl
theorem zpI (root snap:Nat):(xV (zej root snap)).length=27:=by
 unfold xV zej;simp only [flatMap_cons,List.flatMap_nil,append_nil,xP,ql,length_cons,length_append,ki,zy,length_nil];have h1:strt.size=1:=by kernel_rfl
 have h2:strs.size=1:=by kernel_rfl
 have h3:(yq zdd).length=7:=by kernel_rfl
 omega
theorem ziN (w:World):Calls prog 9 #[] w (Ret fun v w'=>v=.bool true/\Ext w w'):=by
 apply zpR;unfold S9;refine zb (ziM w) ?_;rintro _ w1 ⟨db,b,rfl,F,h1⟩;refine⟨(some ⟨db,0,none⟩,some ⟨b,0,none⟩,()),rfl,zd (by rfl) ?_⟩;have q1:([]:List (Int×ByteArray)).length<=500000:=by simp
 refine zb (zcS (x:=(none,0,0)) (y:=(none,0,0)) (c:=zaE) (R:=[]) (H:=[]) (M:=none) h1.sp (fun w' o=>(zbL w' 0).cat) (by rfl) (by exact zeh) (by rw[zlq];simp) (by rw[zdc];omega) (by rw[zdc,znM];show 2<=_;omega) (by
  rw[zei,zdc,zjj];decide) (fun v hv=>by cases hv)) ?_
 rintro _ w2 (⟨_,rfl,hst⟩|⟨hne,_⟩);rotate_left
 ·exact absurd rfl hne
 refine⟨(0,0,()),rfl,?_⟩;obtain⟨F2,h2,_⟩:=h1.step hst;refine zb (zgf w2 0 0) ?_;rintro _ w3 ⟨⟨x,y,rfl,hc3⟩,he3⟩;refine⟨xk x y,rfl,?_⟩;have h3:=h2.ext' he3;have hsafe:=(St.own h2.sp hc3).mono (fun _ h=>h.cat);have hlen:=zpI 0 0;refine zb (zcS (x:=x) (y:=y) (c:=zej 0 0) (R:=[]) (H:=[]) (M:=none) h3.sp hsafe (zqd 0 0) (by exact zeh) (by rw[zlq];simp) (by rw[zdc];omega) (by rw[zdc,znM,hlen];omega) (by
  rw[zei,zdc,zjj,hlen];decide) (fun v hv=>by cases hv)) ?_
 rintro _ w4 (⟨hne,_⟩|⟨_,S',n,ls,rfl,hP,hst⟩)
 ·exact absurd hne (by unfold zej zaE;simp)
 refine⟨((n:Int),0,()),rfl,?_⟩;obtain⟨F4,h4,_⟩:=h3.step hst;have hu:=hP.great.good.well.root n mem_cons_self;refine zb (zh1 h4.sp hP.great.good hP.pg hu) ?_;rintro _ w5 ⟨⟨x5,y5,rfl,hc5⟩,he5⟩;refine⟨(xk x5 y5,0,()),rfl,?_⟩;refine yt (vs:=zN x5 y5) (by rfl) (xQ _ _) (fun r6 w6 hb6 he6 hr6=>?_) (by rfl);refine zK fun w7 he7 hz7 hh7=>?_;have hn2:=(zT.1 hu).1;have he57:=he6.trans he7;refine zf (by rfl) (zf (by rfl) (zf (by rfl) (zf (bne_iff_ne.2 (by dsimp only;omega)) (zf (by rfl) ?_))));refine zR (ls:=xh) (xk x5 y5) (hb6.ext he7) (by rfl) ?_;refine zb (zgf w7 0 0) ?_;rintro _ w8 ⟨⟨x8,y8,rfl,hc8⟩,he8⟩;refine⟨xk x8 y8,rfl,?_⟩;refine xz (uF ((hb6.ext he7).ext he8)) ?_;refine zb (zbM (hc5.ext (he57.trans he8)).cat hc8.cat) ?_;rintro _ w9 ⟨⟨v,rfl,hv⟩,he9⟩;refine⟨_,rfl,?_,h4.ext.trans ((he5.trans (he57.trans he8)).trans he9)⟩;rw[hv.2 rfl]
end V
/- Law 24:light catalogs;roots as 1;CatalogBytes. -/
namespace V
open Go Go.Proofs Go.RowKit Crc
variable {w w':World}
structure zcV (c:Cat):Prop where
 tabs:c.1.length<=20
 snaps:c.2.length<=20
 ents:∀ e∈c.1,e.1.size<=60/\jS e.2.1=true
 snps:∀ s∈c.2,s.1.size<=60
theorem zcV.lt {c:Cat} (h:zcV c):zkl c:=by
 refine⟨by have:=h.tabs;omega,by have:=h.snaps;omega,fun e he=>?_⟩;have:=zgl (h.ents e he).2;omega
theorem ziO {x y:SLC} {c:Cat} (h:qj w x y c):Calls prog 10 #[.agg (zN x y).toArray] w (Ret fun v w'=>(∃ b:Bool,v=.bool b/\(b=true->zcV c))/\Ext w w'):=by
 obtain⟨⟨raws,hT⟩,hs,hcx,hcy⟩:=h;have hl:=hT.len;have hxl:=hT.sl.len;have hyl:=hs.len;have hle:=hT.sl.le;have hley:=hs.le;apply zn0;unfold S10;refine zs fun r1 w1 hb1 he1 hr1 hz1=>?_;have hb1:Blk w1 r1 (zN x y) 25:=hb1;have no:∀ {w2:World},Ext w1 w2->(fun v w'=>(∃ b:Bool,v=Value.bool b/\(b=true->zcV c))/\Ext w w') (.bool false) w2:=fun he=>⟨⟨false,rfl,fun e=>by cases e⟩,he1.trans he⟩;refine zu (fun q w'=>∃ i:Nat,i<=raws.length/\q=((i:Int),())/\Ext w1 w'/\∀ j,j<i->(c.1.getD j zI).1.size<=60/\jS (c.1.getD j zI).2.1=true) (fun q=>(raws.length-q.1).toNat) ⟨0,by omega,rfl,Ext.refl _,fun j hj=>by omega⟩ ?_;rintro _ w2 ⟨i,hi,rfl,he2,hq⟩;dsimp only;have hb2:=hb1.ext he2;have he02:=he1.trans he2;refine zC x hb2 (by rfl) ?_
 by_cases hlt:i<raws.length
 ·refine zf (decide_eq_true (by omega)) (zC x hb2 (by rfl) ?_);have hE:=hT.at_ i (by omega);refine jF (E:=zX) (fun e:Raw=>e.1) yl (hT.sl.ext he02) (fun _=>rfl) rfl (by omega) (by omega) ?_;rw[Int.toNat_natCast];refine zg (fun _=>no he2) (fun hn=>?_);have hn:=of_decide_eq_false hn;refine zC x hb2 (by rfl) ?_;refine vN (E:=zX) 1 (fun e:Raw=>e.2.1) yl (hT.sl.ext he02) (fun _=>rfl) rfl (by omega) (by omega) ?_;rw[Int.toNat_natCast];refine zb (zeJ (hE.cols.ext he02)) ?_;rintro _ w3 ⟨rfl,he3⟩;refine⟨_,rfl,?_⟩;refine zg (fun _=>no (he2.trans he3)) (fun hn2=>?_);have hw:wrap .i64 ((i:Int)+1)=((i+1:Nat):Int):=by rw[wrap_i64 (by omega) (by omega)];rfl
  rw[hw];refine⟨⟨i+1,by omega,rfl,he2.trans he3,fun j hj=>?_⟩,by omega⟩
  by_cases e:j=i
  ·subst e;refine⟨?_,by simpa using hn2⟩;rw[<- hE.name];omega
  ·exact hq j (by omega)
 obtain rfl:i=raws.length:=by omega
 refine zd (decide_eq_false (by omega)) ?_;refine zu (fun q w'=>∃ i:Nat,i<=c.2.length/\q=((i:Int),())/\Ext w1 w'/\∀ j,j<i->(c.2.getD j zL).1.size<=60) (fun q=>(c.2.length-q.1).toNat) ⟨0,by omega,rfl,he2,fun j hj=>by omega⟩ ?_;rintro _ w3 ⟨i,hi,rfl,he3,hq2⟩;dsimp only;have hb3:=hb1.ext he3;have he03:=he1.trans he3;refine zk 1 y hb3 (by rfl) ?_
 by_cases hlt:i<c.2.length
 ·refine zf (decide_eq_true (by omega)) (zk 1 y hb3 (by rfl) ?_);refine jF (E:=yM) (fun e:Snp=>e.1) zL (hs.ext he03) (fun _=>rfl) rfl (by omega) (by omega) ?_;rw[Int.toNat_natCast];refine zg (fun _=>no he3) (fun hn=>?_);have hn:=of_decide_eq_false hn;have hw:wrap .i64 ((i:Int)+1)=((i+1:Nat):Int):=by rw[wrap_i64 (by omega) (by omega)];rfl
  rw[hw];refine⟨⟨i+1,by omega,rfl,he3,fun j hj=>?_⟩,by omega⟩
  by_cases e:j=i
  ·subst e;omega
  ·exact hq2 j (by omega)
 obtain rfl:i=c.2.length:=by omega
 refine zd (decide_eq_false (by omega)) (zC x hb3 (by rfl) ?_);refine zg (fun h1=>?_) (fun _=>no he3);have h1:=of_decide_eq_true h1;refine zk 1 y hb3 (by rfl) ⟨⟨_,rfl,fun h2=>?_⟩,he03⟩;have h2:=of_decide_eq_true h2;refine⟨by omega,by omega,fun e he=>?_,fun s hs=>?_⟩
 ·obtain⟨j,hj,rfl⟩:=mem_iff_getElem.1 he;have:=hq j (by omega);rw[getD_eq_getElem?_getD,List.getElem?_eq_getElem hj]at this;exact this
 ·obtain⟨j,hj,rfl⟩:=mem_iff_getElem.1 hs;have:=hq2 j hj;rw[getD_eq_getElem?_getD,List.getElem?_eq_getElem hj]at this;exact this
end V
/- Catalogs' names,in order:plain. -/
namespace V
open Go Go.Proofs Go.RowKit Crc
end V
/- Cells,and whether they may be:contracts of value.Check and of the document's answer. -/
namespace V
open Go Go.Proofs Go.RowKit
end V
/- Contracts of rows,of what is taken and picked (schema),and of the document's answer. -/
set_option maxRecDepth 100000
namespace V
open Go Go.Proofs Go.RowKit
def qI:Col:=(ByteArray.empty,0,false)
theorem vp {α:Type} {xs:List α} {i:Nat} {d:α} (h:i<xs.length):xs.getD i d=xs[i]:=by simp[h]
theorem zfG {cs:List Col} {i:Nat} {s:ByteArray} (h:∀ k,k<i->k<cs.length->B (cs.getD k qI).1≠B s):((cs.take i).any fun d=>decide (B d.1=B s))=false:=by
 rw[List.any_eq_false];intro d hd;obtain⟨k,hk,rfl⟩:=mem_iff_getElem.1 hd;rw[length_take]at hk;have:=h k (by omega) (by omega);rw[vp (by omega)]at this
 simpa using this
theorem um {w:World} {A:Option Addr} {n c:Nat} {cs:List Col} (h:Sli xr w A n cs):
  Calls prog 64 #[.slice A n c] w (Ret fun v w'=>v=.int .i64 (yL cs)/\Ext w w'):=by
 apply zoH;unfold S64 yL;have hl:=h.len;refine zg (fun h1=>?_) (fun h1=>?_)
 ·have h1:=of_decide_eq_true h1;rw[if_pos (by omega)];exact⟨rfl,Ext.refl w⟩
 refine zg (fun h2=>?_) (fun h2=>?_)
 ·have h2:=of_decide_eq_true h2;rw[if_pos (by omega)];exact⟨rfl,Ext.refl w⟩
 have h1:=of_decide_eq_false h1;have h2:=of_decide_eq_false h2;rw[if_neg (by omega)];refine zu (fun x w'=>Ext w w'/\∃ i:Nat,i<=n/\x=((i:Int),())/\qg [] cs=qg (cs.take i) (cs.drop i)) (fun x=>(n-x.1).toNat) ⟨Ext.refl w,0,by omega,rfl,rfl⟩ ?_;rintro _ w' ⟨he,i,hi,rfl,hf⟩;dsimp only
 by_cases hlt:i<n
 ·refine zf (decide_eq_true (by omega)) ?_;have hg:cs.getD i qI=cs[i]:=vp (by omega);have hdrop:cs.drop i=cs.getD i qI::cs.drop (i+1):=by rw[hg];exact drop_eq_getElem_cons (by omega)
  have htake:cs.take (i+1)=cs.take i++[cs.getD i qI]:=by rw[hg];exact take_succ_eq_append_getElem (by omega)
  rw[hdrop,qg]at hf;refine jF (l:=.str) (fun c=>c.1) qI (h.ext he) (fun _=>rfl) rfl (by omega) (by omega) ?_;rw[Int.toNat_natCast];refine zb (zaD w' _) ?_;rintro _ w1 ⟨rfl,he1⟩;refine⟨_,rfl,?_⟩;have he1:=he.trans he1;refine zg (fun hn=>?_) (fun hn=>?_)
  ·have hn:yz (B (cs.getD i qI).1)≠0:=by simpa using hn
   rw[hf,if_pos hn];exact⟨rfl,he1⟩
  have hn:yz (B (cs.getD i qI).1)=0:=by simpa using hn
  rw[if_neg (fun hh=>hh hn)]at hf;refine vN (l:=.int .i64) 1 (fun c=>c.2.1) qI (h.ext he1) (fun _=>rfl) rfl (by omega) (by omega) ?_;rw[Int.toNat_natCast];refine zg (fun hk=>?_) (fun hk=>?_)
  ·have hk:=of_decide_eq_true hk;rw[hf,if_pos (.inl hk)];exact⟨rfl,he1⟩
  have hk:=of_decide_eq_false hk;refine vN (l:=.int .i64) 1 (fun c=>c.2.1) qI (h.ext he1) (fun _=>rfl) rfl (by omega) (by omega) ?_;rw[Int.toNat_natCast];refine zg (fun hk2=>?_) (fun hk2=>?_)
  ·have hk2:=of_decide_eq_true hk2;rw[hf,if_pos (.inr (.inl hk2))];exact⟨rfl,he1⟩
  have hk2:=of_decide_eq_false hk2;refine zu (fun x w'=>Ext w w'/\∃ k:Nat,k<=i/\x=((k:Int),())/\∀ j,j<k->j<cs.length->B (cs.getD j qI).1≠B (cs.getD i qI).1) (fun x=>(i-x.1).toNat) ⟨he1,0,by omega,rfl,fun j hj=>by omega⟩ ?_;rintro _ w2 ⟨he2,k,hki,rfl,hall⟩;dsimp only
  by_cases hkl:k<i
  ·refine zf (decide_eq_true (by omega)) ?_;refine zK fun w3 he3 _ _=>?_;have he3:=he2.trans he3;refine jF (l:=.str) (fun c=>c.1) qI (h.ext he3) (fun _=>rfl) rfl (by omega) (by omega) ?_;refine jF (l:=.str) (fun c=>c.1) qI (h.ext he3) (fun _=>rfl) rfl (by omega) (by omega) ?_;rw[Int.toNat_natCast,Int.toNat_natCast,x6];refine zg (fun hd=>?_) (fun hd=>?_)
   ·have hd:=of_decide_eq_true hd;rw[hf,if_pos]
    ·exact⟨rfl,he3⟩
    ·refine .inr (.inr (List.any_eq_true.2 ⟨cs.getD k qI,?_,decide_eq_true hd⟩));rw[vp (show k<cs.length by omega)];exact mem_iff_getElem.2 ⟨k,by simp;omega,by simp⟩
   ·have hd:=of_decide_eq_false hd;rw[wrap_i64 (by omega) (by omega)];refine⟨⟨he3,k+1,by omega,rfl,fun j hj hjl=>?_⟩,by omega⟩
    by_cases hjk:j=k
    ·subst hjk;exact hd
    ·exact hall j (by omega) hjl
  ·obtain rfl:k=i:=by omega
   refine zd (decide_eq_false (by omega)) ?_;rw[wrap_i64 (by omega) (by omega)];rw[if_neg (by
    rintro(h3|h3|h3)
    ·exact hk h3
    ·exact hk2 h3
    ·rw[zfG hall]at h3;cases h3)]at hf
   exact⟨⟨he2,k+1,by omega,rfl,by rw[htake];exact hf⟩,by omega⟩
 ·obtain rfl:i=n:=by omega
  refine zd (decide_eq_false (by omega)) ?_;rw[drop_of_length_le (by omega)]at hf;exact⟨by rw[hf];rfl,he⟩
theorem znp {α:Type} {xs:List α} {i:Nat} {d:α} (h:i<xs.length):xs.getD i d∈xs:=by
 rw[vp h];exact getElem_mem h
end V
/- Contracts of the package shadowbookref24:Check. -/
namespace V
open Go Go.Proofs Go.RowKit Crc
variable {w w':World}
theorem ue {α:Type} {f:α->ByteArray} {d:α}:∀ {l:List α},yO f l=true↔∀ i,i+1<l.length->ltB (B (f (l.getD i d))) (B (f (l.getD (i+1) d)))=true
 |[]=>by simp[yO]
 |[_]=>by simp[yO]
 |x::y::r=>by
  have ih:=ue (f:=f) (d:=d) (l:=y::r);simp only [yO,Bool.and_eq_true];constructor
  ·rintro⟨h1,h2⟩ i hi;cases i with
   |zero=>exact h1
   |succ i=>exact ih.1 h2 i (by simpa using hi)
  ·intro h;exact⟨h 0 (by simp),ih.2 fun i hi=>h (i+1) (by simpa using hi)⟩
def zkn (c:Cat) (i:Nat):Prop:=yz (B (c.1.getD i zI).1)=0/\(i=0\/ltB (B (c.1.getD (i-1) zI).1) (B (c.1.getD i zI).1)=true)/\jA (c.1.getD i zI)=true
def zko (c:Cat) (i:Nat):Prop:=yz (B (c.2.getD i zL).1)=0/\(i=0\/ltB (B (c.2.getD (i-1) zL).1) (B (c.2.getD i zL).1)=true)
theorem zek {α:Type} {l:List α} {d x:α} (h:x∈l):∃ i,i<l.length/\l.getD i d=x:=by
 obtain⟨i,hi,e⟩:=mem_iff_getElem.1 h;exact⟨i,hi,by rw[getD_eq_getElem?_getD,List.getElem?_eq_getElem hi];exact e⟩
theorem zcW {α:Type} {l:List α} {d:α} {i:Nat} (h:i<l.length):l.getD i d∈l:=by rw[getD_eq_getElem?_getD,List.getElem?_eq_getElem h];exact getElem_mem _
theorem zbb {c:Cat}:qp c=true↔(c.1.length<=16/\c.2.length<=16)/\(∀ i,i<c.1.length->zkn c i)/\∀ i,i<c.2.length->zko c i:=by
 unfold qp yv zdX;simp only [Bool.and_eq_true,decide_eq_true_iff,all_eq_true];constructor
 ·rintro⟨h0,⟨h1,h2⟩,⟨h3,h4⟩,h5⟩;refine⟨h0,fun i hi=>⟨h1 _ (zcW hi),?_,h5 _ (zcW hi)⟩,fun i hi=>⟨h3 _ (zcW hi),?_⟩⟩
  ·cases i with
   |zero=>exact .inl rfl
   |succ i=>exact .inr ((ue (d:=zI)).1 h2 i hi)
  ·cases i with
   |zero=>exact .inl rfl
   |succ i=>exact .inr ((ue (d:=zL)).1 h4 i hi)
 ·rintro⟨h0,h1,h2⟩;refine⟨h0,⟨fun e he=>?_,(ue (d:=zI)).2 fun i hi=>?_⟩,⟨fun e he=>?_,(ue (d:=zL)).2 fun i hi=>?_⟩,fun e he=>?_⟩
  ·obtain⟨i,hi,rfl⟩:=zek (d:=zI) he;exact(h1 i hi).1
  ·exact((h1 (i+1) hi).2.1).resolve_left (by omega)
  ·obtain⟨i,hi,rfl⟩:=zek (d:=zL) he;exact(h2 i hi).1
  ·exact((h2 (i+1) hi).2).resolve_left (by omega)
  ·obtain⟨i,hi,rfl⟩:=zek (d:=zI) he;exact(h1 i hi).2.2
theorem zpJ {c:Cat} (h:¬qp c=true):(if qp c=true then (0:Int) else 240)=240:=if_neg h
theorem vI {x y:SLC} {c:Cat} (h:qj w x y c):
  Calls prog 20 #[.agg (zN x y).toArray] w (Ret fun v w'=>v=.int .i64 (if qp c then 0 else 240)/\Ext w w'):=by
 obtain⟨⟨raws,hT⟩,hs,hcx,hcy⟩:=h;have hl:=hT.len;have hxl:=hT.sl.len;have hyl:=hs.len;apply zn9;unfold S20;refine zs fun r1 w1 hb1 he1 hr1 hz1=>?_;have hb1:Blk w1 r1 (zN x y) 25:=hb1;have no:∀ {w2:World},Ext w1 w2->¬qp c=true->(fun v w'=>v=Value.int .i64 (if qp c then 0 else 240)/\Ext w w') (.int .i64 240) w2:=fun he hc=>⟨by rw[zpJ hc],he1.trans he⟩;refine zC x hb1 (by rfl) ?_;refine zg (fun hq=>no (Ext.refl _) (fun hc=>?_)) (fun hq1=>?_)
 ·have:=(zbb.1 hc).1.1;have:=of_decide_eq_true hq;omega
 have hq1:=of_decide_eq_false hq1;refine zk 1 y hb1 (by rfl) ?_;refine zg (fun hq=>no (Ext.refl _) (fun hc=>?_)) (fun hq2=>?_)
 ·have:=(zbb.1 hc).1.2;have:=of_decide_eq_true hq;omega
 have hq2:=of_decide_eq_false hq2;refine zu (fun q w'=>∃ i:Nat,i<=c.1.length/\q=((i:Int),())/\Ext w1 w'/\∀ j,j<i->zkn c j) (fun q=>(c.1.length-q.1).toNat) ⟨0,by omega,rfl,Ext.refl _,fun j hj=>by omega⟩ ?_;rintro _ w2 ⟨i,hi,rfl,he2,hok⟩;dsimp only;have hb2:=hb1.ext he2;refine zC x hb2 (by rfl) ?_
 by_cases hlt:i<c.1.length
 ·refine zf (decide_eq_true (by omega)) (zC x hb2 (by rfl) ?_);have hE:=(hT.at_ i hlt).ext (he1.trans he2);have eg:raws[i]?=some (raws.getD i yl):=by rw[getD_eq_getElem?_getD,List.getElem?_eq_getElem (by omega)];rfl
  have hok_:zkn c i↔yz (B (c.1.getD i zI).1)=0/\(i=0\/ltB (B (c.1.getD (i-1) zI).1) (B (c.1.getD i zI).1)=true)/\jA (c.1.getD i zI)=true:=Iff.rfl;generalize c.1.getD i zI=e at *;generalize raws.getD i yl=p at *;refine xY (hT.sl.ext (he1.trans he2)) (by omega) (x:=p) (by rw[Int.toNat_natCast];exact eg) rfl ?_;intro pa hpa hca;refine qC (ls:=zbz) (x:=uj p) hca ?_;refine yt (vs:=zX.f p) (by rfl) (zX.one _) (fun r10 w3 hb3 he3 hr3=>?_) (by rfl);have hw:wrap .i64 ((i:Int)+1)=((i+1:Nat):Int):=by rw[wrap_i64 (by omega) (by omega)];rfl
  rw[hw];refine yi (fun q w'=>∃ bad:Bool,q=(bad,())/\Ext w3 w'/\(bad=true↔¬zkn c i)) ?_ (fun J hJ=>?_)
  ·rintro _ w4 ⟨bad,rfl,he4,hbad⟩;have he24:=he2.trans (he3.trans he4);dsimp only;cases bad with
   |true=>exact zf rfl (no he24 (fun hc=>hbad.1 rfl ((zbb.1 hc).2.1 i hlt)))
   |false=>
    refine zd rfl ⟨⟨i+1,by omega,rfl,he24,fun j hj=>?_⟩,by omega⟩
    by_cases hji:j=i
    ·rw[hji];apply Classical.byContradiction;intro hn;have:=hbad.2 hn;cases this
    ·exact hok j (by omega)
  ·refine zK fun w4 he4 hz4 hh4=>?_;have hb4:Blk w4 r10 (zX.f p) 44:=hb3.ext he4;have e1:p.1=e.1:=hE.name;refine zC p.1 hb4 (by rfl) ?_;rw[e1];refine zb (zaD w4 e.1) ?_;rintro _ w5 ⟨rfl,he5⟩;refine⟨_,rfl,?_⟩;have he35:=he4.trans he5;have hb5:=hb4.ext he5;refine zg (fun hq=>?_) (fun hq=>?_)
   ·have hq:=bne_iff_ne.1 hq;exact hJ _ _ ⟨true,rfl,he35,by simp;exact fun hh=>hq (hok_.1 hh).1⟩
   have hn0:yz (B e.1)=0:=bne_eq_false_iff_eq.1 hq;have hcols:=hE.cols.ext (he3.trans he35);have rest:∀ {w6:World},Ext w5 w6->(i=0\/ltB (B (c.1.getD (i-1) zI).1) (B e.1)=true)->
     (ldW .slc ((aD r10).add 1) fun(u26:SLC)=>
      ze prog 64 [(.slice u26.1 u26.2.1 u26.2.2)] (.one (.one (.int .i64))) fun(u27:Int)=>
      za (u27 !=(0:Int)) (J (true,()))<|
      ldW (.int .i64) ((aD r10).add 4) fun(u28:Int)=>
      za (decide (u28<(0:Int))) (J (true,()))<|
      ldW (.int .i64) ((aD r10).add 4) fun(u29:Int)=>
      za (decide (u29>(4096:Int))) (J (true,()))<|
      ldW (.int .u32) ((aD r10).add 2) fun(u30:Int)=>
      ldW (.int .i64) ((aD r10).add 4) fun(u31:Int)=>
      za (!((u30==(0:Int))==(u31==(0:Int)))) (J (true,()))<|
      ldW (.int .u64) ((aD r10).add 3) fun(u32:Int)=>J ((decide (u32>=(1099511627776:Int))),())) w6:=by
    intro w6 he6 hlt2;have hb6:=hb5.ext he6;have e2:p.2.2=e.2.2:=hE.rest;have eOK:jA e=true↔yL e.2.1=0/\(0<=p.2.2.2.2/\p.2.2.2.2<=4096)/\(p.2.2.1=0↔p.2.2.2.2=0)/\p.2.2.2.1<1099511627776:=by
     unfold jA;rw[e2];simp only [Bool.and_eq_true,decide_eq_true_iff]
    refine zk 1 p.2.1 hb6 (by rfl) ?_;refine zb (um (hcols.ext he6)) ?_;rintro _ w7 ⟨rfl,he7⟩;refine⟨_,rfl,?_⟩;have hb7:=hb6.ext he7;have he37:=(he35.trans he6).trans he7;have bad:¬jA e=true->J (true,()) w7:=fun hne=>hJ _ _ ⟨true,rfl,he37,by simp;exact fun hh=>hne (hok_.1 hh).2.2⟩;refine zg (fun hq=>bad fun hh=>bne_iff_ne.1 hq (eOK.1 hh).1) (fun hq3=>?_);refine zk 4 p.2.2.2.2 hb7 (by rfl) ?_;refine zg (fun hq=>bad fun hh=>by have:=(eOK.1 hh).2.1;have:=of_decide_eq_true hq;omega) (fun hq4=>?_);refine zk 4 p.2.2.2.2 hb7 (by rfl) ?_;refine zg (fun hq=>bad fun hh=>by have:=(eOK.1 hh).2.1;have:=of_decide_eq_true hq;omega) (fun hq5=>?_);refine zk 2 ((p.2.2.1:Nat):Int) hb7 (by rfl) (zk 4 p.2.2.2.2 hb7 (by rfl) ?_);have hiff:(((p.2.2.1:Int)==(0:Int))==(p.2.2.2.2==(0:Int)))=true↔(p.2.2.1=0↔p.2.2.2.2=0):=by
     rw[beq_iff_eq,Bool.eq_iff_iff,beq_iff_eq,beq_iff_eq];constructor
     ·intro hh;exact⟨fun e=>hh.1 (by omega),fun e=>by have:=hh.2 e;omega⟩
     ·intro hh;exact⟨fun e=>hh.1 (by omega),fun e=>by have:=hh.2 e;omega⟩
    refine zg (fun hq=>bad fun hh=>?_) (fun hq6=>?_)
    ·rw[hiff.2 (eOK.1 hh).2.2.1]at hq;cases hq
    have h6:(p.2.2.1=0↔p.2.2.2.2=0):=hiff.1 (by simpa using hq6);refine zk 3 ((p.2.2.2.1:Nat):Int) hb7 (by rfl) ?_;refine hJ _ _ ⟨_,rfl,he37,?_⟩;rw[decide_eq_true_iff,hok_,eOK];have h3:=bne_eq_false_iff_eq.1 hq3;have h4:=of_decide_eq_false hq4;have h5:=of_decide_eq_false hq5;constructor
    ·rintro h7 ⟨_,_,_,_,_,h8⟩;omega
    ·intro h7;apply Classical.byContradiction;intro h8;exact h7 ⟨hn0,hlt2,h3,by omega,h6,by omega⟩
   by_cases h0:i=0
   ·refine zd (decide_eq_false (by omega)) ?_;exact rest (Ext.refl _) (.inl h0)
   ·refine zf (decide_eq_true (by omega)) (zC x ((hb2.ext he3).ext he35) (by rfl) ?_);rw[show wrap .i64 ((i:Int)-1)=((i-1:Nat):Int) by rw[wrap_i64 (by omega) (by omega)];omega];refine jF (E:=zX) (fun e:Raw=>e.1) yl (hT.sl.ext ((he1.trans he2).trans (he3.trans he35))) (fun _=>rfl) rfl (by omega) (by omega) ?_;rw[Int.toNat_natCast,(hT.at_ (i-1) (by omega)).name];refine zC p.1 hb5 (by rfl) ?_;rw[e1,zbA];refine zg (fun hq=>?_) (fun hq=>?_)
    ·have hq:ltB (B (c.1.getD (i-1) zI).1) (B e.1)=false:=by simpa using hq
     refine hJ _ _ ⟨true,rfl,he35,?_⟩;simp;intro hh;rcases (hok_.1 hh).2.1 with h|h
     ·exact h0 h
     ·rw[hq]at h;cases h
    ·exact rest (Ext.refl _) (.inr (by simpa using hq))
 obtain rfl:i=c.1.length:=by omega
 refine zd (decide_eq_false (by omega)) ?_;refine zu (fun q w'=>∃ i:Nat,i<=c.2.length/\q=((i:Int),())/\Ext w1 w'/\∀ j,j<i->zko c j) (fun q=>(c.2.length-q.1).toNat) ⟨0,by omega,rfl,he2,fun j hj=>by omega⟩ ?_;rintro _ w3 ⟨i,hi,rfl,he3,hok2⟩;dsimp only;have hb3:=hb1.ext he3;refine zk 1 y hb3 (by rfl) ?_
 by_cases hlt:i<c.2.length
 ·refine zf (decide_eq_true (by omega)) ?_;refine zK fun w4 he4 hz4 hh4=>?_;have hb4:=hb3.ext he4;have he14:=he3.trans he4;refine zk 1 y hb4 (by rfl) ?_;refine jF (E:=yM) (fun e:Snp=>e.1) zL (hs.ext (he1.trans he14)) (fun _=>rfl) rfl (by omega) (by omega) ?_;rw[Int.toNat_natCast];refine zb (zaD w4 _) ?_;rintro _ w5 ⟨rfl,he5⟩;refine⟨_,rfl,?_⟩;have he15:=he14.trans he5;have hb5:=hb4.ext he5;have hw:wrap .i64 ((i:Int)+1)=((i+1:Nat):Int):=by rw[wrap_i64 (by omega) (by omega)];rfl
  rw[hw];refine zg (fun hq=>no he15 (fun hc=>bne_iff_ne.1 hq ((zbb.1 hc).2.2 i hlt).1)) (fun hq=>?_);have hn0:=bne_eq_false_iff_eq.1 hq;have fin:zko c i->∀ j,j<i+1->zko c j:=fun hh j hj=>by
   by_cases e:j=i
   ·rw[e];exact hh
   ·exact hok2 j (by omega)
  by_cases h0:i=0
  ·refine zd (decide_eq_false (by omega)) ?_;exact⟨⟨i+1,by omega,rfl,he15,fin ⟨hn0,.inl h0⟩⟩,by omega⟩
  ·refine zf (decide_eq_true (by omega)) (zk 1 y hb5 (by rfl) ?_);rw[show wrap .i64 ((i:Int)-1)=((i-1:Nat):Int) by rw[wrap_i64 (by omega) (by omega)];omega];refine jF (E:=yM) (fun e:Snp=>e.1) zL (hs.ext (he1.trans he15)) (fun _=>rfl) rfl (by omega) (by omega) ?_;refine zk 1 y hb5 (by rfl) ?_;refine jF (E:=yM) (fun e:Snp=>e.1) zL (hs.ext (he1.trans he15)) (fun _=>rfl) rfl (by omega) (by omega) ?_;rw[Int.toNat_natCast,Int.toNat_natCast,zbA];refine zg (fun hq=>no he15 (fun hc=>?_)) (fun hq=>?_)
   ·have hq:ltB (B (c.2.getD (i-1) zL).1) (B (c.2.getD i zL).1)=false:=by simpa using hq
    rcases ((zbb.1 hc).2.2 i hlt).2 with h|h
    ·exact h0 h
    ·rw[hq]at h;cases h
   ·exact⟨⟨i+1,by omega,rfl,he15,fin ⟨hn0,.inr (by simpa using hq)⟩⟩,by omega⟩
 obtain rfl:i=c.2.length:=by omega
 refine zd (decide_eq_false (by omega)) ⟨?_,he1.trans he3⟩;rw[if_pos (zbb.2 ⟨⟨by omega,by omega⟩,hok,hok2⟩)]
end V
/- Contracts of the document's answer for catalogs:Find,Bytes. -/
namespace V
open Go Go.Proofs Go.RowKit Crc
variable {w:World}
theorem zgu {x y:SLC} {c:Cat} (h:qj w x y c) (s:ByteArray):
  Calls prog 18 #[.agg (zN x y).toArray,.string s] w (Ret fun v w'=>v=.tuple #[.int .i64 (vo c s).1,.int .i64 (vo c s).2]/\Ext w w'):=by
 obtain⟨⟨raws,hT⟩,hs,hcx,hcy⟩:=h;have hl:=hT.len;have hxl:=hT.sl.len;have hle:=hT.sl.le;apply zn7;unfold S18;refine zs fun r1 w1 hb1 he1 hr1 hz1=>?_;have hb1:Blk w1 r1 (zN x y) 25:=hb1;refine zu (fun q w'=>∃ i:Nat,i<=raws.length/\q=((i:Int),())/\w'=w1/\∀ j,j<i->B (c.1.getD j zI).1≠B s) (fun q=>(raws.length-q.1).toNat) ⟨0,by omega,rfl,rfl,fun j hj=>by omega⟩ ?_;rintro _ w2 ⟨i,hi,rfl,rfl,hq⟩;dsimp only;refine zC x hb1 (by rfl) ?_
 by_cases hlt:i<raws.length
 ·refine zf (decide_eq_true (by omega)) (zC x hb1 (by rfl) ?_);refine jF (E:=zX) (fun e:Raw=>e.1) yl (hT.sl.ext he1) (fun _=>rfl) rfl (by omega) (by omega) ?_;rw[Int.toNat_natCast,(hT.at_ i (by omega)).name,x6];have hw:wrap .i64 ((i:Int)+1)=((i+1:Nat):Int):=by rw[wrap_i64 (by omega) (by omega)];rfl
  rw[hw];refine zg (fun he=>?_) (fun hne=>?_)
  ·have he:=of_decide_eq_true he;have hf:vV c s=i:=by
    unfold vV;have h1:xe (fun j=>decide (B (c.1.getD j zI).1=B s)) c.1.length<=i:=by
     rcases Nat.lt_or_ge i (xe (fun j=>decide (B (c.1.getD j zI).1=B s)) c.1.length) with h2|h2
     ·have:=zbJ h2;rw[he]at this;simp at this
     ·exact h2
    have h2:xe (fun j=>decide (B (c.1.getD j zI).1=B s)) c.1.length<c.1.length:=by omega
    have h3:=of_decide_eq_true (zau h2);rcases Nat.lt_or_ge (xe (fun j=>decide (B (c.1.getD j zI).1=B s)) c.1.length) i with h4|h4
    ·exact absurd h3 (hq _ h4)
    ·omega
   unfold vo;rw[hf,if_pos (by omega)];exact⟨rfl,he1⟩
  ·have hne:=of_decide_eq_false hne;refine⟨⟨i+1,by omega,rfl,rfl,fun j hj=>?_⟩,by omega⟩
   by_cases e:j=i
   ·rw[e];exact hne
   ·exact hq j (by omega)
 obtain rfl:i=raws.length:=by omega
 refine zd (decide_eq_false (by omega)) ?_;have hf:¬vV c s<c.1.length:=fun hlt=>by
  have h3:=of_decide_eq_true (zau (show xe (fun j=>decide (B (c.1.getD j zI).1=B s)) c.1.length<c.1.length from hlt));exact hq _ (by have:vV c s<c.1.length:=hlt;unfold vV at this;omega) h3
 unfold vo;rw[if_neg hf];exact⟨rfl,he1⟩
theorem zb5 {B:Nat} {A:Option Addr} {n c:Nat} {bs:List UInt8} {s:ByteArray} (h:Own 5 w B A n c (bV bs)) (hB:B<=w.heap.size) (hn:n<=1000000) (hs:s.size<=1000000):
  Calls prog 49 #[.slice A n c,.string s] w (Ret fun r w'=>∃ x:SLC,r=.slice x.1 x.2.1 x.2.2/\Own 5 w' B x.1 x.2.1 x.2.2 (bV (bs++nmB s))/\Grew w w' (orow A) (orow x.1)):=by
 apply zos;unfold S49;rw[yN];refine zcP (UInt8.ofNat s.size) h hB rfl (by omega) ?_;intro A1 c1 w1 h1 g1;have hs1:=g1.grown.size;dsimp only;refine ka xE (by kernel_rfl) h1 (by omega) (by omega) ?_;intro A2 c2 w2 h2 g2;refine⟨(A2,_,c2),rfl,?_,g1.step g2⟩;have:bs++nmB s=bs++[UInt8.ofNat s.size]++V.B s:=by simp[nmB]
 rw[this];exact h2
theorem zbc {B:Nat} {A:Option Addr} {n c:Nat} {bs:List UInt8} {k:Nat} (h:Own 5 w B A n c (bV bs)) (hB:B<=w.heap.size) (hn:n<=1000000):
  Calls prog 50 #[.slice A n c,.int .u32 (k:Int)] w (Ret fun r w'=>∃ x:SLC,r=.slice x.1 x.2.1 x.2.2/\Own 5 w' B x.1 x.2.1 x.2.2 (bV (bs++[jq k]))/\Grew w w' (orow A) (orow x.1)):=by
 apply zot;unfold S50;have e:jq k=if k=0 then 0 else 1:=by
  unfold jq
  by_cases hk:k=0
  ·subst hk;rfl
  ·rw[if_neg hk,show min k 1=1 by omega];rfl
 by_cases hk:k=0
 ·refine zd (bne_eq_false_iff_eq.2 (by omega)) ?_;refine zcP (jq k) h hB (by rw[e,if_pos hk];rfl) (by omega) ?_;intro A1 c1 w1 h1 g1;exact⟨(A1,_,c1),rfl,h1,g1⟩
 ·refine zf (bne_iff_ne.2 (by omega)) ?_;refine zcP (jq k) h hB (by rw[e,if_neg hk];rfl) (by omega) ?_;intro A1 c1 w1 h1 g1;exact⟨(A1,_,c1),rfl,h1,g1⟩
theorem zcX {B:Nat} {A:Option Addr} {n c:Nat} {bs:List UInt8} {v k:Nat} (h:Own 5 w B A n c (bV bs)) (hB:B<=w.heap.size) (hn:n<=140737488355000) (hk:k<=8):
  Calls prog 51 #[.slice A n c,.int .u64 (v:Int),.int .i64 (k:Int)] w (Ret fun r w'=>∃ x:SLC,r=.slice x.1 x.2.1 x.2.2/\Own 5 w' B x.1 x.2.1 x.2.2 (bV (bs++le k v))/\Grew w w' (orow A) (orow x.1)):=by
 apply zou;unfold S51;refine zu (fun x w'=>∃ (A':Option Addr) (c' i:Nat),i<=k/\x=((A',n+i,c'),(i:Int),())/\Own 5 w' B A' (n+i) c' (bV (bs++le i v))/\Grew w w' (orow A) (orow A')) (fun x=>(k-x.2.1).toNat)
  ⟨A,c,0,by omega,rfl,by simpa [le] using h,Grew.refl _ _⟩ ?_
 rintro _ w' ⟨A',c',i,hi,rfl,ho,hg⟩;dsimp only;have hB':B<=w'.heap.size:=Nat.le_trans hB hg.grown.size
 by_cases hlt:i<k
 ·refine zf (decide_eq_true (by omega)) ?_;have e1:wrap .u64 (wrap .i64 ((8:Int)*(i:Int)))=((8*i:Nat):Int):=by
   rw[wrap_i64 (by omega) (by omega),show(8:Int)*(i:Int)=((8*i:Nat):Int) by omega,zz (by omega)]
  rw[e1];refine zE (by omega) ?_;rw[zdR .u64 v (8*i) (by simp[IntKind.bits];omega),yN,Nat.pow_mul,show(2:Nat) ^ 8=256 from rfl];refine zcP (UInt8.ofNat (v / 256 ^ i)) ho hB' rfl (by omega) ?_;intro A2 c2 w2 ho2 hg2;refine⟨⟨A2,c2,i+1,by omega,?_,?_,hg.step hg2⟩,?_⟩
  ·rw[wrap_i64 (by omega) (by omega)];rfl
  ·have:bs++le (i+1) v=bs++le i v++[UInt8.ofNat (v / 256 ^ i)]:=by rw[le_succ,append_assoc]
   rw[this];exact ho2
  ·rw[wrap_i64 (by omega) (by omega)];omega
 ·obtain rfl:i=k:=by omega
  refine zd (decide_eq_false (by omega)) ⟨(A',n+i,c'),rfl,ho,hg⟩
end V
/- Contracts of the document's answer (17):Bytes,Read;of kit.SameRows. -/
namespace V
open Go Go.Proofs Go.RowKit
theorem zh5 {w:World} {A:Option Addr} {n c:Nat} {cs:List Col} (h:Sli xr w A n cs):
  Calls prog 48 #[.slice A n c] w (Ret fun v w'=>v=.tuple #[.string ⟨(kA cs).1.toArray⟩,.int .i64 (kA cs).2]/\Ext w w'):=by
 apply zor;unfold S48;have hl:=h.len;refine zb (um h) ?_;rintro _ w1 ⟨rfl,he1⟩;refine⟨_,rfl,?_⟩;unfold kA;refine zg (fun hn=>?_) (fun hn=>?_)
 ·have hn:yL cs≠0:=by simpa using hn
  rw[if_neg hn];exact⟨rfl,he1⟩
 have hn:yL cs=0:=by simpa using hn
 rw[if_pos hn];obtain⟨hlen,_,hok⟩:=zao hn;apply yE;have e0:#[Value.int .u8 (wrap .u8 ((n:Nat):Int))]=(bV [UInt8.ofNat cs.length]).toArray:=by rw[yN,hl];rfl
 rw[e0];have ho0:Own 5 (w1.alloc (.cells (bV [UInt8.ofNat cs.length]).toArray 5)) w.heap.size (some ⟨w1.heap.size,0,none⟩) 1 1 (bV [UInt8.ofNat cs.length]):=Own.lit (cs:=(bV [UInt8.ofNat cs.length]).toArray) he1.size (by simp[bV]);have he2:=he1.alloc (.cells (bV [UInt8.ofNat cs.length]).toArray 5);generalize w1.alloc (.cells (bV [UInt8.ofNat cs.length]).toArray 5)=w2 at ho0 he2 ⊢;refine zu (fun x w'=>Ext w w'/\∃ (i:Nat) (A':Option Addr) (m c':Nat),i<=n/\x=((A',m,c'),(i:Int),())/\Own 5 w' w.heap.size A' m c' (bV (UInt8.ofNat cs.length::(cs.take i).flatMap qH))) (fun x=>(n-x.2.1).toNat) ⟨he2,0,_,1,1,by omega,rfl,ho0⟩ ?_;rintro _ w' ⟨he,i,A',m,c',hi,rfl,ho⟩;dsimp only;have hm:=ho.sl.blen;have hlb:(UInt8.ofNat cs.length::(cs.take i).flatMap qH).length<=600:=by
  have:=vO (cs:=cs.take i) (fun c hc=>hok c (List.mem_of_mem_take hc));have h2:(cs.take i).length<=16:=by simp;omega
  have:=Nat.mul_le_mul_right 34 h2;simp only [length_cons];omega
 by_cases hlt:i<n
 ·refine zf (decide_eq_true (by omega)) ?_;have hmem:cs.getD i qI∈cs:=znp (by omega);have htake:cs.take (i+1)=cs.take i++[cs.getD i qI]:=by rw[vp (show i<cs.length by omega)];exact take_succ_eq_append_getElem (by omega)
  have rd0:∀ {w':World} {K:ByteArray->WP},Ext w w'->K (cs.getD i qI).1 w'->(zc (0<=(i:Int)/\(i:Int)<((n:Nat):Int))<|zh A fun p=>ldW .str (p.add (Int.toNat (i:Int)*3)) K) w':=fun he hk=>jF (l:=.str) (fun c=>c.1) qI (h.ext he) (fun _=>rfl) rfl (by omega) (by omega) (by rw[Int.toNat_natCast];exact hk);refine vN (l:=.int .i64) 1 (fun c=>c.2.1) qI (h.ext he) (fun _=>rfl) rfl (by omega) (by omega) ?_;rw[Int.toNat_natCast];have rdn:∀ {K:Bool->WP},K (cs.getD i qI).2.2 w'->(zc (0<=(i:Int)/\(i:Int)<((n:Nat):Int))<|zh A fun p=>ldW .bool ((p.add (Int.toNat (i:Int)*3)).add 2) K) w':=fun hk=>vN (l:=.bool) 2 (fun c=>c.2.2) qI (h.ext he) (fun _=>rfl) rfl (by omega) (by omega) (by rw[Int.toNat_natCast];exact hk);generalize cs.getD i qI=col at *;obtain⟨hk0,hk1,hk2⟩:=hok col hmem;have hname:=qh hk0;have hns:=zP col.1;have hkn:wrap .u8 col.2.1=((col.2.1.toNat:Nat):Int):=by rw[wrap_u8];omega
  refine yi (fun(y:Int×Unit) w''=>y.1=((xc col).toNat:Int)/\w''=w') ?_ (fun J hJ=>?_)
  ·rintro⟨kb,_⟩ w3 ⟨hkb,hw3⟩;simp only at hkb;subst hkb hw3;refine rd0 he ?_;dsimp only;rw[yN];have e1:(#[.int .u8 ((xc col).toNat:Int),.int .u8 ((UInt8.ofNat col.1.size).toNat:Int)]:Array Value)=(bV [xc col,UInt8.ofNat (B col.1).length]).toArray:=by rw[hns];rfl
   rw[e1];refine zbm (ys:=bV [xc col,UInt8.ofNat (B col.1).length]) xE ho he.size (uR _) (by simp[bV];omega) (by omega) ?_;intro A6 c6 w6 ho6 hg6;rw[<- xi]at ho6;have he6:=he.grown hg6.grown ho.row';refine rd0 he6 ?_;dsimp only;have hm6:=ho6.sl.blen;have hm7:(bV [xc col,UInt8.ofNat (B col.1).length]).length=2:=rfl;rw[hm7]at ho6 hm6 ⊢;refine ka xE (by kernel_rfl) ho6 he6.size (by omega) ?_;intro A7 c7 w7 ho7 hg7;have he7:=he6.grown hg7.grown ho6.row';rw[wrap_i64 (by omega) (by omega)];refine⟨⟨he7,i+1,A7,_,c7,by omega,rfl,?_⟩,by omega⟩;have e2:UInt8.ofNat cs.length::(cs.take (i+1)).flatMap qH=(UInt8.ofNat cs.length::(cs.take i).flatMap qH++[xc col,UInt8.ofNat (B col.1).length])++B col.1:=by
    rw[htake];simp[qH]
   rw[e2];exact ho7
  refine rdn ?_;have hcases:col.2.1.toNat=1\/col.2.1.toNat=2\/col.2.1.toNat=3:=by omega
  refine zg (fun hnull=>?_) (fun hnull=>?_)
  ·refine hJ _ _ ⟨?_,rfl⟩;rw[hkn];unfold xc;rw[hnull,if_pos rfl];rcases hcases with h|h|h<;>rw[h]<;>rfl
  ·refine hJ _ _ ⟨?_,rfl⟩;rw[hkn];unfold xc;rw[hnull,if_neg (by simp)];rcases hcases with h|h|h<;>rw[h]<;>rfl
 ·obtain rfl:i=n:=by omega
  refine zd (decide_eq_false (by omega)) ?_;rw[take_of_length_le (by omega)]at ho;refine qa (e:=5) (by kernel_rfl) (by kernel_rfl) (by kernel_rfl) ho.sl ?_;exact⟨rfl,he⟩
theorem ziP {w:World} {s:ByteArray} (hsmall:s.size<=9223372036854775807):Calls prog 54 #[.string s] w (Ret fun v w'=>∃ x:RdT,v=Rs.val (.many [.one .slc,.one .str,.one (.int .i64)]) x/\zgz w (yf (B s)) x w'):=by
 apply zox;unfold S54;have hsz:=zP s;have none_:∀ {w'},yf (B s)=none->Ext w w'->∃ x:RdT,Value.tuple #[(.slice none 0 0),(.string (ByteArray.mk #[])),(.int .i64 (171:Int))]=Rs.val (.many [.one .slc,.one .str,.one (.int .i64)]) x/\zgz w (yf (B s)) x w':=fun {w'} h he=>⟨((none,0,0),⟨#[]⟩,171,()),rfl,by rw[h];exact⟨rfl,he⟩⟩;refine zg (fun h=>?_) (fun h=>?_)
 ·rw[x6]at h;have hB:B s=[]:=of_decide_eq_true h;exact none_ (by rw[hB];rfl) (Ext.refl w)
 rw[x6]at h;have hB:B s≠[]:=of_decide_eq_false h;obtain⟨b,r0,hs⟩:∃ b r0,B s=b::r0:=by
  cases hh:B s with
  |nil=>exact absurd hh hB
  |cons b r=>exact⟨b,r,rfl⟩
 have hl:(B s).length=r0.length+1:=by rw[hs];rfl
 refine⟨⟨by omega,by omega⟩,⟨by omega,by omega⟩,?_⟩;have hb0:bt s 0=(b.toNat:Int):=by rw[zan (by omega) (by omega),hs];rfl
 have hlt:=b.toNat_lt;rw[hb0,wrap_i64 (x:=(b.toNat:Int)) (by omega) (by omega)];have ex:s.extract (Int.toNat 1) s.size=⟨r0.toArray⟩:=by
  apply jy;rw[xT,hs];show _=r0;exact take_of_length_le (by simp;omega)
 rw[ex];refine zu (fun x w'=>Ext w w'/\∃ (i:Nat) (acc:List Col) (rest:ByteArray) (A:Option Addr) (m c:Nat),i<=b.toNat/\x=(rest,(A,m,c),(i:Int),())/\Owni xr 62 w' w.heap.size A m c acc/\acc.length=i/\rest.size<=9223372036854775807/\xo b.toNat r0=(xo (b.toNat-i) (B rest)).map fun p=>(acc++p.1,p.2))
  (fun x=>(b.toNat-x.2.2.1).toNat) ⟨Ext.refl w,0,[],⟨r0.toArray⟩,none,0,0,by omega,rfl,Owni.nil _ _ _,rfl,by rw[zP,qo];omega,by rw[qo,Nat.sub_zero];cases xo b.toNat r0<;>simp⟩ ?_
 rintro _ w' ⟨he,i,acc,rest,A,m,c,hi,rfl,ho,hacc,hrs,hrd⟩;dsimp only;have hm:=ho.len;have hrB:=zP rest
 by_cases hlt:i<b.toNat
 ·refine zf (decide_eq_true (by omega)) ?_;have bad:qZ (B rest)=none->yf (B s)=none:=fun hcol=>by rw[hs,yf,zeL hlt hcol hrd]
  refine zg (fun h2=>?_) (fun h2=>?_)
  ·have h2:=of_decide_eq_true h2;exact none_ (bad (by unfold qZ;rw[if_pos (.inl (by omega))])) he
  have h2:=of_decide_eq_false h2;refine zE ⟨by omega,by omega⟩ ?_;have hb1:bt rest 1=(((B rest).getD 1 0).toNat:Int):=zan (by omega) (by omega);have hb0':bt rest 0=(((B rest).getD 0 0).toNat:Int):=zan (by omega) (by omega);have hlt1:=((B rest).getD 1 0).toNat_lt;have hlt0:=((B rest).getD 0 0).toNat_lt;simp only [hb1,hb0'];rw[wrap_i64 (x:=(((B rest).getD 1 0).toNat:Int)) (by omega) (by omega),wrap_i64 (x:=(2:Int)+(((B rest).getD 1 0).toNat:Int)) (by omega) (by omega)];refine zg (fun h3=>?_) (fun h3=>?_)
  ·have h3:=of_decide_eq_true h3;exact none_ (bad (by unfold qZ;rw[if_pos (.inr (by omega))])) he
  have h3:=of_decide_eq_false h3;refine zK fun w1 he1 _ _=>?_;refine zE ⟨by omega,by omega⟩ (zE ⟨by omega,by omega,by omega⟩ (zE ⟨by omega,by omega⟩ (zE ⟨by omega,by omega⟩ ?_)));have hcol:qZ (B rest)=some ((⟨(((B rest).drop 2).take ((B rest).getD 1 0).toNat).toArray⟩,((((B rest).getD 0 0).toNat % 128:Nat):Int),decide (128<=((B rest).getD 0 0).toNat)),(B rest).drop (2+((B rest).getD 1 0).toNat)):=by
   unfold qZ;rw[if_neg (by omega)]
  obtain⟨col,hcd⟩:∃ col:Col,col=(⟨(((B rest).drop 2).take ((B rest).getD 1 0).toNat).toArray⟩,((((B rest).getD 0 0).toNat % 128:Nat):Int),decide (128<=((B rest).getD 0 0).toNat)):=⟨_,rfl⟩;rw[<- hcd]at hcol;have e1:rest.extract (Int.toNat 2) (Int.toNat (2+(((B rest).getD 1 0).toNat:Int)))=col.1:=by
   rw[hcd];apply jy;rw[xT,qo];congr 1;omega
  have e2:wrap .i64 (Int.tmod (((B rest).getD 0 0).toNat:Int) 128)=col.2.1:=by
   rw[hcd,show Int.tmod (((B rest).getD 0 0).toNat:Int) 128=((((B rest).getD 0 0).toNat % 128:Nat):Int) from rfl,wrap_i64 (by omega) (by omega)]
  have e3:decide ((((B rest).getD 0 0).toNat:Int)>=128)=col.2.2:=by
   rw[hcd];exact decide_eq_decide.2 (by omega)
  rw[e1,e2,e3];have he1:=he.trans he1;refine yG (E:=xr) (ys:=[col]) (by rfl) rfl zg7 (ho.ext (by assumption)) he1.size (by omega) (by omega) ?_;intro A3 c3 w3 ho3 hg3;refine zE ⟨by omega,by omega⟩ (zE ⟨by omega,by omega⟩ ?_);dsimp only;have e4:rest.extract (Int.toNat (2+(((B rest).getD 1 0).toNat:Int))) rest.size=⟨((B rest).drop (2+((B rest).getD 1 0).toNat)).toArray⟩:=by
   apply jy;rw[xT,show Int.toNat (2+(((B rest).getD 1 0).toNat:Int))=2+((B rest).getD 1 0).toNat by omega];show _=(B rest).drop (2+((B rest).getD 1 0).toNat);exact take_of_length_le (by simp;omega)
  rw[e4,wrap_i64 (by omega) (by omega)];refine⟨⟨he1.grown hg3.grown ho.row,i+1,acc++[col],_,A3,_,c3,by omega,rfl,ho3,by simp[hacc],?_,?_⟩,by omega⟩
  ·rw[zP,qo,length_drop];omega
  ·rw[qo];exact zeK hlt hcol hrd
 ·obtain rfl:i=b.toNat:=by omega
  refine zd (decide_eq_false (by omega)) ?_;rw[Nat.sub_self]at hrd;have hrd2:xo b.toNat r0=some (acc,B rest):=by rw[hrd];simp[xo]
  refine zb (um ho.sl) ?_;rintro _ w1 ⟨rfl,he1⟩;refine⟨_,rfl,?_⟩;refine zg (fun hck=>?_) (fun hck=>?_)
  ·have hck:yL acc≠0:=by simpa using hck
   refine none_ ?_ (he.trans he1);rw[hs,yf,hrd2];simp only;rw[if_neg hck]
  ·have hck:yL acc=0:=by simpa using hck
   have hres:yf (B s)=some (acc,B rest):=by
    rw[hs,yf,hrd2];simp only;rw[if_pos hck]
   refine⟨((A,m,c),rest,0,()),rfl,?_⟩;rw[hres];exact⟨⟨ho.ext he1,rfl,rfl⟩,he.trans he1⟩
end V
end Go.Proofs.YtplgodmmmppmeaaGreat
