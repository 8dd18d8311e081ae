/- Texts of mine, merged (wip/tool/mergep.py): KSchema3, KRChk, KShare, LRoot, LRoot2, KGet6, LSh, LSh2, LShares. -/
import Derived.Test.YtplgodmmmppmeaaGreatM3
import Derived.Test.YtplgodmmmppmeaaGreatM6
open Go.IntKind (wrap)
open Go.Proofs.Tryz (prog)
open List (mem_cons_self mem_cons_of_mem mem_cons length_cons map_map mem_append mem_append_left drop_drop mem_range mem_of_getElem? getElem_mem mem_iff_getElem map_cons mem_map append_assoc nodup_cons foldl_cons length_nil append_nil length_map length_set eq_nil_of_length_eq_zero range_succ map_congr_left length_append drop_of_length_le take_of_length_le getD_eq_getElem?_getD drop_eq_getElem_cons mem_singleton not_mem_nil take_succ_eq_append_getElem all_eq_true flatMap_cons length_take length_drop take_add_one length_replicate take_left' drop_left' length_singleton map_append length_range getElem_range flatMap_append count_cons count_eq_zero)
set_option linter.unusedVariables false
set_option linter.unusedSimpArgs false
namespace Go.Proofs.YtplgodmmmppmeaaGreat
/- Contracts of rows,of what is taken and picked (schema),and of the document's answer. -/
set_option maxRecDepth 100000
namespace V
open Go Go.Proofs Go.RowKit
def vt:Col:=(ByteArray.empty,0,false)
theorem zb7 {α:Type} {xs:List α} {i:Nat} {d:α} (h:i<xs.length):xs.getD i d=xs[i]:=by simp[h]
theorem zfK {cs:List Col} {i:Nat} {s:ByteArray} (h:∀ k,k<i->k<cs.length->B (cs.getD k vt).1≠B s):((cs.take i).any fun d=>decide (B d.1=B s))=false:=by
 rw[List.any_eq_false];intro d hd;obtain⟨k,hk,rfl⟩:=mem_iff_getElem.1 hd;rw[length_take]at hk;have:=h k (by omega) (by omega);rw[zb7 (by omega)]at this
 simpa using this
theorem zgC {w:World} {A:Option Addr} {n c:Nat} {cs:List Col} (h:Sli xx w A n cs):
  Calls prog 64 #[.slice A n c] w (Ret fun v w'=>v=.int .i64 (xd cs)/\Ext w w'):=by
 apply zo6;unfold S64 xd;have hl:=h.len;refine zg (fun h1=>?_) (fun h1=>?_)
 ·have h1:=of_decide_eq_true h1;rw[if_pos (by omega)];exact⟨rfl,Ext.refl w⟩
 refine zg (fun h2=>?_) (fun h2=>?_)
 ·have h2:=of_decide_eq_true h2;rw[if_pos (by omega)];exact⟨rfl,Ext.refl w⟩
 have h1:=of_decide_eq_false h1;have h2:=of_decide_eq_false h2;rw[if_neg (by omega)];refine zw (fun x w'=>Ext w w'/\∃ i:Nat,i<=n/\x=((i:Int),())/\qa [] cs=qa (cs.take i) (cs.drop i)) (fun x=>(n-x.1).toNat) ⟨Ext.refl w,0,by omega,rfl,rfl⟩ ?_;rintro _ w' ⟨he,i,hi,rfl,hf⟩;dsimp only
 by_cases hlt:i<n
 ·refine zf (decide_eq_true (by omega)) ?_;have hg:cs.getD i vt=cs[i]:=zb7 (by omega);have hdrop:cs.drop i=cs.getD i vt::cs.drop (i+1):=by rw[hg];exact drop_eq_getElem_cons (by omega)
  have htake:cs.take (i+1)=cs.take i++[cs.getD i vt]:=by rw[hg];exact take_succ_eq_append_getElem (by omega)
  rw[hdrop,qa]at hf;refine jw (l:=.str) (fun c=>c.1) vt (h.ext he) (fun _=>rfl) rfl (by omega) (by omega) ?_;rw[Int.toNat_natCast];refine zb (zaE w' _) ?_;rintro _ w1 ⟨rfl,he1⟩;refine⟨_,rfl,?_⟩;have he1:=he.trans he1;refine zg (fun hn=>?_) (fun hn=>?_)
  ·have hn:yC (B (cs.getD i vt).1)≠0:=by simpa using hn
   rw[hf,if_pos hn];exact⟨rfl,he1⟩
  have hn:yC (B (cs.getD i vt).1)=0:=by simpa using hn
  rw[if_neg (fun hh=>hh hn)]at hf;refine vP (l:=.int .i64) 1 (fun c=>c.2.1) vt (h.ext he1) (fun _=>rfl) rfl (by omega) (by omega) ?_;rw[Int.toNat_natCast];refine zg (fun hk=>?_) (fun hk=>?_)
  ·have hk:=of_decide_eq_true hk;rw[hf,if_pos (.inl hk)];exact⟨rfl,he1⟩
  have hk:=of_decide_eq_false hk;refine vP (l:=.int .i64) 1 (fun c=>c.2.1) vt (h.ext he1) (fun _=>rfl) rfl (by omega) (by omega) ?_;rw[Int.toNat_natCast];refine zg (fun hk2=>?_) (fun hk2=>?_)
  ·have hk2:=of_decide_eq_true hk2;rw[hf,if_pos (.inr (.inl hk2))];exact⟨rfl,he1⟩
  have hk2:=of_decide_eq_false hk2;refine zw (fun x w'=>Ext w w'/\∃ k:Nat,k<=i/\x=((k:Int),())/\∀ j,j<k->j<cs.length->B (cs.getD j vt).1≠B (cs.getD i vt).1) (fun x=>(i-x.1).toNat) ⟨he1,0,by omega,rfl,fun j hj=>by omega⟩ ?_;rintro _ w2 ⟨he2,k,hki,rfl,hall⟩;dsimp only
  by_cases hkl:k<i
  ·refine zf (decide_eq_true (by omega)) ?_;refine zK fun w3 he3 _ _=>?_;have he3:=he2.trans he3;refine jw (l:=.str) (fun c=>c.1) vt (h.ext he3) (fun _=>rfl) rfl (by omega) (by omega) ?_;refine jw (l:=.str) (fun c=>c.1) vt (h.ext he3) (fun _=>rfl) rfl (by omega) (by omega) ?_;rw[Int.toNat_natCast,Int.toNat_natCast,jA];refine zg (fun hd=>?_) (fun hd=>?_)
   ·have hd:=of_decide_eq_true hd;rw[hf,if_pos]
    ·exact⟨rfl,he3⟩
    ·refine .inr (.inr (List.any_eq_true.2 ⟨cs.getD k vt,?_,decide_eq_true hd⟩));rw[zb7 (show k<cs.length by omega)];exact mem_iff_getElem.2 ⟨k,by simp;omega,by simp⟩
   ·have hd:=of_decide_eq_false hd;rw[wrap_i64 (by omega) (by omega)];refine⟨⟨he3,k+1,by omega,rfl,fun j hj hjl=>?_⟩,by omega⟩
    by_cases hjk:j=k
    ·subst hjk;exact hd
    ·exact hall j (by omega) hjl
  ·obtain rfl:k=i:=by omega
   refine zd (decide_eq_false (by omega)) ?_;rw[wrap_i64 (by omega) (by omega)];rw[if_neg (by
    rintro(h3|h3|h3)
    ·exact hk h3
    ·exact hk2 h3
    ·rw[zfK hall]at h3;cases h3)]at hf
   exact⟨⟨he2,k+1,by omega,rfl,by rw[htake];exact hf⟩,by omega⟩
 ·obtain rfl:i=n:=by omega
  refine zd (decide_eq_false (by omega)) ?_;rw[drop_of_length_le (by omega)]at hf;exact⟨by rw[hf];rfl,he⟩
end V
/- Contracts of the package shadowbookref24:Check. -/
namespace V
open Go Go.Proofs Go.RowKit Crc
variable {w w':World}
theorem ue {α:Type} {f:α->ByteArray} {d:α}:∀ {l:List α},yL f l=true↔∀ i,i+1<l.length->ltB (B (f (l.getD i d))) (B (f (l.getD (i+1) d)))=true
 |[]=>by simp[yL]
 |[_]=>by simp[yL]
 |x::y::r=>by
  have ih:=ue (f:=f) (d:=d) (l:=y::r);simp only [yL,Bool.and_eq_true];constructor
  ·rintro⟨h1,h2⟩ i hi;cases i with
   |zero=>exact h1
   |succ i=>exact ih.1 h2 i (by simpa using hi)
  ·intro h;exact⟨h 0 (by simp),ih.2 fun i hi=>h (i+1) (by simpa using hi)⟩
def zkC (c:Cat) (i:Nat):Prop:=yC (B (c.1.getD i zM).1)=0/\(i=0\/ltB (B (c.1.getD (i-1) zM).1) (B (c.1.getD i zM).1)=true)/\jr (c.1.getD i zM)=true
def zkD (c:Cat) (i:Nat):Prop:=yC (B (c.2.getD i zT).1)=0/\(i=0\/ltB (B (c.2.getD (i-1) zT).1) (B (c.2.getD i zT).1)=true)
theorem zeo {α:Type} {l:List α} {d x:α} (h:x∈l):∃ i,i<l.length/\l.getD i d=x:=by
 obtain⟨i,hi,e⟩:=mem_iff_getElem.1 h;exact⟨i,hi,by rw[getD_eq_getElem?_getD,List.getElem?_eq_getElem hi];exact e⟩
theorem kX {α:Type} {l:List α} {d:α} {i:Nat} (h:i<l.length):l.getD i d∈l:=by rw[getD_eq_getElem?_getD,List.getElem?_eq_getElem h];exact getElem_mem _
theorem zbl {c:Cat}:qc c=true↔(c.1.length<=16/\c.2.length<=16)/\(∀ i,i<c.1.length->zkC c i)/\∀ i,i<c.2.length->zkD c i:=by
 unfold qc yA zd4;simp only [Bool.and_eq_true,decide_eq_true_iff,all_eq_true];constructor
 ·rintro⟨h0,⟨h1,h2⟩,⟨h3,h4⟩,h5⟩;refine⟨h0,fun i hi=>⟨h1 _ (kX hi),?_,h5 _ (kX hi)⟩,fun i hi=>⟨h3 _ (kX hi),?_⟩⟩
  ·cases i with
   |zero=>exact .inl rfl
   |succ i=>exact .inr ((ue (d:=zM)).1 h2 i hi)
  ·cases i with
   |zero=>exact .inl rfl
   |succ i=>exact .inr ((ue (d:=zT)).1 h4 i hi)
 ·rintro⟨h0,h1,h2⟩;refine⟨h0,⟨fun e he=>?_,(ue (d:=zM)).2 fun i hi=>?_⟩,⟨fun e he=>?_,(ue (d:=zT)).2 fun i hi=>?_⟩,fun e he=>?_⟩
  ·obtain⟨i,hi,rfl⟩:=zeo (d:=zM) he;exact(h1 i hi).1
  ·exact((h1 (i+1) hi).2.1).resolve_left (by omega)
  ·obtain⟨i,hi,rfl⟩:=zeo (d:=zT) he;exact(h2 i hi).1
  ·exact((h2 (i+1) hi).2).resolve_left (by omega)
  ·obtain⟨i,hi,rfl⟩:=zeo (d:=zM) he;exact(h1 i hi).2.2
theorem zqc {c:Cat} (h:¬qc c=true):(if qc c=true then (0:Int) else 240)=240:=if_neg h
theorem zfL {x y:SLC} {c:Cat} (h:xm w x y c):
  Calls prog 20 #[.agg (zP x y).toArray] w (Ret fun v w'=>v=.int .i64 (if qc c then 0 else 240)/\Ext w w'):=by
 obtain⟨⟨raws,hT⟩,hs,hcx,hcy⟩:=h;have hl:=hT.len;have hxl:=hT.sl.len;have hyl:=hs.len;apply zoE;unfold S20;refine zq fun r1 w1 hb1 he1 hr1 hz1=>?_;have hb1:Blk w1 r1 (zP x y) 25:=hb1;have no:∀ {w2:World},Ext w1 w2->¬qc c=true->(fun v w'=>v=Value.int .i64 (if qc c then 0 else 240)/\Ext w w') (.int .i64 240) w2:=fun he hc=>⟨by rw[zqc hc],he1.trans he⟩;refine zF x hb1 (by rfl) ?_;refine zg (fun hq=>no (Ext.refl _) (fun hc=>?_)) (fun hq1=>?_)
 ·have:=(zbl.1 hc).1.1;have:=of_decide_eq_true hq;omega
 have hq1:=of_decide_eq_false hq1;refine zm 1 y hb1 (by rfl) ?_;refine zg (fun hq=>no (Ext.refl _) (fun hc=>?_)) (fun hq2=>?_)
 ·have:=(zbl.1 hc).1.2;have:=of_decide_eq_true hq;omega
 have hq2:=of_decide_eq_false hq2;refine zw (fun q w'=>∃ i:Nat,i<=c.1.length/\q=((i:Int),())/\Ext w1 w'/\∀ j,j<i->zkC c j) (fun q=>(c.1.length-q.1).toNat) ⟨0,by omega,rfl,Ext.refl _,fun j hj=>by omega⟩ ?_;rintro _ w2 ⟨i,hi,rfl,he2,hok⟩;dsimp only;have hb2:=hb1.ext he2;refine zF x hb2 (by rfl) ?_
 by_cases hlt:i<c.1.length
 ·refine zf (decide_eq_true (by omega)) (zF x hb2 (by rfl) ?_);have hE:=(hT.at_ i hlt).ext (he1.trans he2);have eg:raws[i]?=some (raws.getD i zV):=by rw[getD_eq_getElem?_getD,List.getElem?_eq_getElem (by omega)];rfl
  have hok_:zkC c i↔yC (B (c.1.getD i zM).1)=0/\(i=0\/ltB (B (c.1.getD (i-1) zM).1) (B (c.1.getD i zM).1)=true)/\jr (c.1.getD i zM)=true:=Iff.rfl;generalize c.1.getD i zM=e at *;generalize raws.getD i zV=p at *;refine xK (hT.sl.ext (he1.trans he2)) (by omega) (x:=p) (by rw[Int.toNat_natCast];exact eg) rfl ?_;intro pa hpa hca;refine qj (ls:=zdd) (x:=zaI p) hca ?_;refine yz (vs:=yo.f p) (by rfl) (yo.one _) (fun r10 w3 hb3 he3 hr3=>?_) (by rfl);have hw:wrap .i64 ((i:Int)+1)=((i+1:Nat):Int):=by rw[wrap_i64 (by omega) (by omega)];rfl
  rw[hw];refine yu (fun q w'=>∃ bad:Bool,q=(bad,())/\Ext w3 w'/\(bad=true↔¬zkC c i)) ?_ (fun J hJ=>?_)
  ·rintro _ w4 ⟨bad,rfl,he4,hbad⟩;have he24:=he2.trans (he3.trans he4);dsimp only;cases bad with
   |true=>exact zf rfl (no he24 (fun hc=>hbad.1 rfl ((zbl.1 hc).2.1 i hlt)))
   |false=>
    refine zd rfl ⟨⟨i+1,by omega,rfl,he24,fun j hj=>?_⟩,by omega⟩
    by_cases hji:j=i
    ·rw[hji];apply Classical.byContradiction;intro hn;have:=hbad.2 hn;cases this
    ·exact hok j (by omega)
  ·refine zK fun w4 he4 hz4 hh4=>?_;have hb4:Blk w4 r10 (yo.f p) 44:=hb3.ext he4;have e1:p.1=e.1:=hE.name;refine zF p.1 hb4 (by rfl) ?_;rw[e1];refine zb (zaE w4 e.1) ?_;rintro _ w5 ⟨rfl,he5⟩;refine⟨_,rfl,?_⟩;have he35:=he4.trans he5;have hb5:=hb4.ext he5;refine zg (fun hq=>?_) (fun hq=>?_)
   ·have hq:=bne_iff_ne.1 hq;exact hJ _ _ ⟨true,rfl,he35,by simp;exact fun hh=>hq (hok_.1 hh).1⟩
   have hn0:yC (B e.1)=0:=bne_eq_false_iff_eq.1 hq;have hcols:=hE.cols.ext (he3.trans he35);have rest:∀ {w6:World},Ext w5 w6->(i=0\/ltB (B (c.1.getD (i-1) zM).1) (B e.1)=true)->
     (ldW .slc ((aD r10).add 1) fun(u26:SLC)=>
      ze prog 64 [(.slice u26.1 u26.2.1 u26.2.2)] (.one (.one (.int .i64))) fun(u27:Int)=>
      za (u27 !=(0:Int)) (J (true,()))<|
      ldW (.int .i64) ((aD r10).add 4) fun(u28:Int)=>
      za (decide (u28<(0:Int))) (J (true,()))<|
      ldW (.int .i64) ((aD r10).add 4) fun(u29:Int)=>
      za (decide (u29>(4096:Int))) (J (true,()))<|
      ldW (.int .u32) ((aD r10).add 2) fun(u30:Int)=>
      ldW (.int .i64) ((aD r10).add 4) fun(u31:Int)=>
      za (!((u30==(0:Int))==(u31==(0:Int)))) (J (true,()))<|
      ldW (.int .u64) ((aD r10).add 3) fun(u32:Int)=>J ((decide (u32>=(1099511627776:Int))),())) w6:=by
    intro w6 he6 hlt2;have hb6:=hb5.ext he6;have e2:p.2.2=e.2.2:=hE.rest;have eOK:jr e=true↔xd e.2.1=0/\(0<=p.2.2.2.2/\p.2.2.2.2<=4096)/\(p.2.2.1=0↔p.2.2.2.2=0)/\p.2.2.2.1<1099511627776:=by
     unfold jr;rw[e2];simp only [Bool.and_eq_true,decide_eq_true_iff]
    refine zm 1 p.2.1 hb6 (by rfl) ?_;refine zb (zgC (hcols.ext he6)) ?_;rintro _ w7 ⟨rfl,he7⟩;refine⟨_,rfl,?_⟩;have hb7:=hb6.ext he7;have he37:=(he35.trans he6).trans he7;have bad:¬jr e=true->J (true,()) w7:=fun hne=>hJ _ _ ⟨true,rfl,he37,by simp;exact fun hh=>hne (hok_.1 hh).2.2⟩;refine zg (fun hq=>bad fun hh=>bne_iff_ne.1 hq (eOK.1 hh).1) (fun hq3=>?_);refine zm 4 p.2.2.2.2 hb7 (by rfl) ?_;refine zg (fun hq=>bad fun hh=>by have:=(eOK.1 hh).2.1;have:=of_decide_eq_true hq;omega) (fun hq4=>?_);refine zm 4 p.2.2.2.2 hb7 (by rfl) ?_;refine zg (fun hq=>bad fun hh=>by have:=(eOK.1 hh).2.1;have:=of_decide_eq_true hq;omega) (fun hq5=>?_);refine zm 2 ((p.2.2.1:Nat):Int) hb7 (by rfl) (zm 4 p.2.2.2.2 hb7 (by rfl) ?_);have hiff:(((p.2.2.1:Int)==(0:Int))==(p.2.2.2.2==(0:Int)))=true↔(p.2.2.1=0↔p.2.2.2.2=0):=by
     rw[beq_iff_eq,Bool.eq_iff_iff,beq_iff_eq,beq_iff_eq];constructor
     ·intro hh;exact⟨fun e=>hh.1 (by omega),fun e=>by have:=hh.2 e;omega⟩
     ·intro hh;exact⟨fun e=>hh.1 (by omega),fun e=>by have:=hh.2 e;omega⟩
    refine zg (fun hq=>bad fun hh=>?_) (fun hq6=>?_)
    ·rw[hiff.2 (eOK.1 hh).2.2.1]at hq;cases hq
    have h6:(p.2.2.1=0↔p.2.2.2.2=0):=hiff.1 (by simpa using hq6);refine zm 3 ((p.2.2.2.1:Nat):Int) hb7 (by rfl) ?_;refine hJ _ _ ⟨_,rfl,he37,?_⟩;rw[decide_eq_true_iff,hok_,eOK];have h3:=bne_eq_false_iff_eq.1 hq3;have h4:=of_decide_eq_false hq4;have h5:=of_decide_eq_false hq5;constructor
    ·rintro h7 ⟨_,_,_,_,_,h8⟩;omega
    ·intro h7;apply Classical.byContradiction;intro h8;exact h7 ⟨hn0,hlt2,h3,by omega,h6,by omega⟩
   by_cases h0:i=0
   ·refine zd (decide_eq_false (by omega)) ?_;exact rest (Ext.refl _) (.inl h0)
   ·refine zf (decide_eq_true (by omega)) (zF x ((hb2.ext he3).ext he35) (by rfl) ?_);rw[show wrap .i64 ((i:Int)-1)=((i-1:Nat):Int) by rw[wrap_i64 (by omega) (by omega)];omega];refine jw (E:=yo) (fun e:Raw=>e.1) zV (hT.sl.ext ((he1.trans he2).trans (he3.trans he35))) (fun _=>rfl) rfl (by omega) (by omega) ?_;rw[Int.toNat_natCast,(hT.at_ (i-1) (by omega)).name];refine zF p.1 hb5 (by rfl) ?_;rw[e1,zbM];refine zg (fun hq=>?_) (fun hq=>?_)
    ·have hq:ltB (B (c.1.getD (i-1) zM).1) (B e.1)=false:=by simpa using hq
     refine hJ _ _ ⟨true,rfl,he35,?_⟩;simp;intro hh;rcases (hok_.1 hh).2.1 with h|h
     ·exact h0 h
     ·rw[hq]at h;cases h
    ·exact rest (Ext.refl _) (.inr (by simpa using hq))
 obtain rfl:i=c.1.length:=by omega
 refine zd (decide_eq_false (by omega)) ?_;refine zw (fun q w'=>∃ i:Nat,i<=c.2.length/\q=((i:Int),())/\Ext w1 w'/\∀ j,j<i->zkD c j) (fun q=>(c.2.length-q.1).toNat) ⟨0,by omega,rfl,he2,fun j hj=>by omega⟩ ?_;rintro _ w3 ⟨i,hi,rfl,he3,hok2⟩;dsimp only;have hb3:=hb1.ext he3;refine zm 1 y hb3 (by rfl) ?_
 by_cases hlt:i<c.2.length
 ·refine zf (decide_eq_true (by omega)) ?_;refine zK fun w4 he4 hz4 hh4=>?_;have hb4:=hb3.ext he4;have he14:=he3.trans he4;refine zm 1 y hb4 (by rfl) ?_;refine jw (E:=xi) (fun e:Snp=>e.1) zT (hs.ext (he1.trans he14)) (fun _=>rfl) rfl (by omega) (by omega) ?_;rw[Int.toNat_natCast];refine zb (zaE w4 _) ?_;rintro _ w5 ⟨rfl,he5⟩;refine⟨_,rfl,?_⟩;have he15:=he14.trans he5;have hb5:=hb4.ext he5;have hw:wrap .i64 ((i:Int)+1)=((i+1:Nat):Int):=by rw[wrap_i64 (by omega) (by omega)];rfl
  rw[hw];refine zg (fun hq=>no he15 (fun hc=>bne_iff_ne.1 hq ((zbl.1 hc).2.2 i hlt).1)) (fun hq=>?_);have hn0:=bne_eq_false_iff_eq.1 hq;have fin:zkD c i->∀ j,j<i+1->zkD c j:=fun hh j hj=>by
   by_cases e:j=i
   ·rw[e];exact hh
   ·exact hok2 j (by omega)
  by_cases h0:i=0
  ·refine zd (decide_eq_false (by omega)) ?_;exact⟨⟨i+1,by omega,rfl,he15,fin ⟨hn0,.inl h0⟩⟩,by omega⟩
  ·refine zf (decide_eq_true (by omega)) (zm 1 y hb5 (by rfl) ?_);rw[show wrap .i64 ((i:Int)-1)=((i-1:Nat):Int) by rw[wrap_i64 (by omega) (by omega)];omega];refine jw (E:=xi) (fun e:Snp=>e.1) zT (hs.ext (he1.trans he15)) (fun _=>rfl) rfl (by omega) (by omega) ?_;refine zm 1 y hb5 (by rfl) ?_;refine jw (E:=xi) (fun e:Snp=>e.1) zT (hs.ext (he1.trans he15)) (fun _=>rfl) rfl (by omega) (by omega) ?_;rw[Int.toNat_natCast,Int.toNat_natCast,zbM];refine zg (fun hq=>no he15 (fun hc=>?_)) (fun hq=>?_)
   ·have hq:ltB (B (c.2.getD (i-1) zT).1) (B (c.2.getD i zT).1)=false:=by simpa using hq
    rcases ((zbl.1 hc).2.2 i hlt).2 with h|h
    ·exact h0 h
    ·rw[hq]at h;cases h
   ·exact⟨⟨i+1,by omega,rfl,he15,fin ⟨hn0,.inr (by simpa using hq)⟩⟩,by omega⟩
 obtain rfl:i=c.2.length:=by omega
 refine zd (decide_eq_false (by omega)) ⟨?_,he1.trans he3⟩;rw[if_pos (zbl.2 ⟨⟨by omega,by omega⟩,hok,hok2⟩)]
end V
/- Contracts of the package catalog:Share. -/
namespace V
open Go Go.Proofs Go.RowKit Crc
variable {w w':World} {b db:Nat} {S:Spa} {F:Nat->Prop} {R H:List Nat} {M:Option (List Nat)}
theorem zdO (x y:SLC) (c:Cat):(zW x y c).map (fun p=>p.2.2)=zX c:=by
 have:=zb1 x y c;unfold zX;rw[<- this,map_map];rfl
theorem zlR {x y:SLC} {c:Cat} {Asp:Option Addr} {n k i:Nat} {B0:Nat} {K:Int->WP} (hC:xm w x y c) (hs:Owni spE 140 w B0 Asp n k ((zW x y c).map spP)) (hi:i<(zW x y c).length) (hn:n=(zW x y c).length)
  (hK:∀ w' (p:Spt),Ext w w'->(zW x y c)[i]?=some p->K (p.2.2:Int) w'):
  (zc (0<=(i:Int)/\(i:Int)<((n:Nat):Int))<|
   zh Asp fun(p5:Addr)=>
   zk [(.int .u64),.ptr] (p5.add (Int.toNat (i:Int)*2)) fun(u6:(Int×Option Addr×Unit))=>
   zi (.cells #[(.int .u64 (0:Int)),(.pointer none)] 140) fun(r7:Nat)=>
   zc ((#[(.int .u64 u6.1),(.pointer u6.2.1)]:Array Value).size=2)<|
   zu (aD r7) [(.int .u64 u6.1),(.pointer u6.2.1)]<|
   ldW .ptr ((aD r7).add 1) fun(u8:Option Addr)=>
   zh u8 fun(p9:Addr)=>ldW (.int .u32) p9 K) w:=by
 have eg:(zW x y c)[i]?=some ((zW x y c)[i]'hi):=List.getElem?_eq_getElem hi;have hmem:(zW x y c)[i]'hi∈zW x y c:=getElem_mem hi;generalize (zW x y c)[i]'hi=p at *;refine xK hs.sl (by omega) (x:=spP p) (by rw[Int.toNat_natCast,List.getElem?_map,eg];rfl) rfl ?_;intro pa hpa hca;refine qj (ls:=[.int .u64,.ptr]) (x:=((p.1:Int),some p.2.1,())) hca ?_;refine yz (vs:=[.int .u64 (p.1:Int),.pointer (some p.2.1)]) (by rfl) (by
  intro v hv
  simp only [mem_cons,not_mem_nil,or_false]at hv
  rcases hv with rfl|rfl<;>rfl) (fun r7 w1 hb1 he1 hr1=>?_) (by rfl)
 refine zm 1 (some p.2.1) hb1 (by rfl) (zr ?_);exact zaD (l:=.int .u32) (x:=((p.2.2:Nat):Int)) (he1.cell (zaV hC p hmem)) (hK w1 p he1 eg)
theorem zbm (h:yb w b db S F) {x y:SLC} {c:Cat} (hC:Safe F w fun w=>xm w x y c) (h1:c.1.length<=1000) (h2:c.2.length<=1000) (hg:Great S R H M) (hu:∀ v∈zX c,zE S.sup.pages S.now v=true) (h6:∀ v∈zX c,S.now.getD v 0+(zX c).length<65535):
  Calls prog 30 #[.pointer (some ⟨b,0,none⟩),.agg (zP x y).toArray] w (Ret fun v w'=>v=.int .i64 0/\∃ c':List Nat,Great { S with now:=c' } (zX c++R) H M/\yD w b db F { S with now:=c' } w'/\∀ k,c'.getD k 0=S.now.getD k 0+(zX c).count k):=by
 apply zoM;unfold S30;have hFlt:=h.lt;refine zq fun r1 w1 hb1 he1 hr1 hz1=>?_;have hb1:Blk w1 r1 (zP x y) 25:=hb1;refine zb (zaU hb1 (hC.now.ext he1) h1 h2) ?_;rintro _ w2 ⟨Asp,ksp,rfl,hsp,he2⟩;refine⟨(Asp,(zW x y c).length,ksp),rfl,?_⟩;have he02:=he1.trans he2;have hs1:=he1.size;have hrs:=zdO x y c;have hspl:=zav x y c;have hkv:=ze4 c;have hrl:(zX c).length=(zW x y c).length:=by rw[<- hrs,length_map]
 have hsafe:Safe F w2 (fun w=>xm w x y c/\Owni spE 140 w w1.heap.size Asp (zW x y c).length ksp ((zW x y c).map spP)):=fun w3 o=>⟨(hC.ext he02) w3 o,hsp.only o (fun j hj hf=>by have:=hsp.row j hj;have:=hFlt j hf;omega)⟩;refine zw (fun q w'=>∃ (i:Nat) (F':Nat->Prop) (c':List Nat),i<=(zW x y c).length/\q=((i:Int),())/\yb w' b db { S with now:=c' } F'/\(∀ k,F' k->F k\/w.heap.size<=k)/\Only F w w'/\Great { S with now:=c' } (((zX c).take i).reverse++R) H M/\(∀ k,c'.getD k 0=S.now.getD k 0+((zX c).take i).count k)/\Safe F' w' (fun w=>xm w x y c/\Owni spE 140 w w1.heap.size Asp (zW x y c).length ksp ((zW x y c).map spP))) (fun q=>((zW x y c).length-q.1).toNat)
  ⟨0,F,S.now,by omega,rfl,h.ext he02,fun k hk=>.inl hk,Only.zG he02,by exact hg,fun k=>by simp,hsafe⟩ ?_
 rintro _ w3 ⟨i,F',c',hi,rfl,g1,g2,g3,g4,g5,g6⟩;dsimp only
 by_cases hlt:i<(zW x y c).length
 ·refine zf (decide_eq_true (by omega)) ?_;refine zlR g6.now.1 g6.now.2 hlt rfl ?_;intro w4 p he4 hp;have hpr:(zX c)[i]?=some p.2.2:=by rw[<- hrs,List.getElem?_map,hp];rfl
  have hmem:=mem_of_getElem? hpr;have hcnt:((zX c).take i).count p.2.2<=(zX c).length:=by
   have:=List.count_le_length (a:=p.2.2) (l:=(zX c).take i);rw[length_take]at this;omega
  have h6':=h6 _ hmem;have huu:=hu _ hmem;have hu':zE S.sup.pages c' p.2.2=true:=by
   obtain⟨u1,u2,u3⟩:=zA.1 huu;exact zA.2 ⟨u1,u2,by rw[g5];omega⟩
  have h65:c'.getD p.2.2 0<65535:=by rw[g5];omega
  refine zb (zhJ (g1.ext he4) (n:=p.2.2) g4 (by exact hu') (by exact h65)) ?_;rintro _ w5 ⟨rfl,hG,F5,k1,k2,k3⟩;refine⟨_,rfl,zd (by rfl) ?_⟩;have hw:wrap .i64 ((i:Int)+1)=((i+1:Nat):Int):=by rw[wrap_i64 (by omega) (by omega)];rfl
  rw[hw];have o35:Only F' w3 w5:=Only.trans (Only.zG he4) k3 (fun j hj=>.inl hj);have hs4:=he4.size;have htk:(zX c).take (i+1)=(zX c).take i++[p.2.2]:=by
   have hlt':i<(zX c).length:=by omega
   rw[take_succ_eq_append_getElem hlt'];rw[List.getElem?_eq_getElem hlt']at hpr;injection hpr with hpr
   rw[hpr]
  have hnN:p.2.2<c'.length:=by
   have h1:=g4.good.well.lt hu';have h2:=g4.good.ok.now;have h3:({ S with now:=c' }:Spa).now.length=({ S with now:=c' }:Spa).N:=h2;have h4:p.2.2<({ S with now:=c' }:Spa).N:=h1;have h5:c'.length=({ S with now:=c' }:Spa).N:=h3;omega
  refine⟨⟨i+1,F5,_,by omega,rfl,k1,fun k hk=>?_,Only.trans g3 o35 (fun j hj=>by
   have:=g2 j hj
   exact this),by rw[htk,List.reverse_append];exact hG,fun k=>?_,g6.step o35 (fun k hk=>?_)⟩,by omega⟩
  ·rcases k2 k hk with e|e
   ·exact g2 k e
   ·have:=g3.2.2.2.1;exact .inr (by omega)
  ·rw[ym,htk,List.count_append,List.count_singleton]
   by_cases e:p.2.2=k
   ·subst e;rw[if_pos ⟨rfl,hnN⟩,g5];simp;omega
   ·rw[if_neg (fun e'=>e e'.1),g5];simp[e]
  ·rcases k2 k hk with e|e
   ·exact .inl e
   ·exact .inr (by omega)
 ·obtain rfl:i=(zW x y c).length:=by omega
  refine zd (decide_eq_false (by omega)) ?_;rw[take_of_length_le (by omega)]at g4 g5;exact⟨rfl,c',g4.perm (by exact(List.reverse_perm _).append_right R),⟨F',g1,g2,g3⟩,g5⟩
end V
/- Law 24:a catalog whose roots are pages of one's own. -/
namespace V
open Go Go.Proofs Go.RowKit Crc
variable {w0 w w':World} {b db:Nat} {S S':Spa} {F:Nat->Prop} {l:List Nat}
def zai (es:List Ent):List Nat:=es.filterMap fun e=>if e.2.2.1=0 then none else some e.2.2.1
def zbn (ss:List Snp):List Nat:=ss.filterMap fun s=>if s.2=0 then none else some s.2
theorem zaW (es:List Ent) (e:Ent):zai (es++[e])=zai es++(if e.2.2.1=0 then [] else [e.2.2.1]):=by
 unfold zai;rw[List.filterMap_append];congr 1;split
 ·rename_i h;simp[h]
 ·rename_i h;simp[h]
theorem zaX (ss:List Snp) (s:Snp):zbn (ss++[s])=zbn ss++(if s.2=0 then [] else [s.2]):=by
 unfold zbn;rw[List.filterMap_append];congr 1;split
 ·rename_i h;simp[h]
 ·rename_i h;simp[h]
theorem zgm (A:Option Addr) (es:List Ent):∀ i,i<=es.length->(spT A es i).map (fun p=>p.2.2)=zai (es.take i)
 |0,_=>rfl
 |i+1,h=>by
  rw[jt,map_append,zgm A es i (by omega),zbY (d:=zM) (by omega),zaW];congr 1;split<;>rfl
theorem zgn (A:Option Addr) (ss:List Snp):∀ i,i<=ss.length->(spS A ss i).map (fun p=>p.2.2)=zbn (ss.take i)
 |0,_=>rfl
 |i+1,h=>by
  rw[ju,map_append,zgn A ss i (by omega),zbY (d:=zT) (by omega),zaX];congr 1;split<;>rfl
theorem zlS (c:Cat):zX c=zai c.1++zbn c.2:=by
 rw[<- zdO (none,0,0) (none,0,0)];unfold zW;rw[map_append,zgm none c.1 _ (Nat.le_refl _),zgn none c.2 _ (Nat.le_refl _),take_of_length_le (Nat.le_refl _),take_of_length_le (Nat.le_refl _)]
structure kP (S:Spa) (l:List Nat):Prop where
 great:Great S l [] none
 mk_:Mk S0 S l
 one:∀ r∈l,S.now.getD r 0=1
theorem kP.init:kP S0 []:=⟨zb5,Mk.refl _,fun r h=>by cases h⟩
theorem kP.put {p:Page} {k:Nat} (h:kP S l) (hP:vn S S' p k) (hG:Great S' (k::l) [] none):kP S' (l++[k]):=by
 have hl:S.now.length=S.N:=h.great.good.ok.now;have hfr:=(zS.1 hP.free).1;refine⟨hG.perm (List.perm_append_singleton k l).symm,h.mk_.trans (hP.mk_ hl),fun r hr=>?_⟩;rw[hP.now,ym];rcases mem_append.1 hr with e|e
 ·have:=h.one r e;rw[if_neg (fun hh=>by rw[<- hh.1]at this;omega)];exact this
 ·rw[mem_singleton.1 e,if_pos ⟨rfl,by rw[hl];exact hP.lt⟩]
theorem kP.bound (h:kP S l):l.length<=251/\S.dev.pen.length<=251:=by
 have h1:=h.mk_.free;rw[zdj]at h1;have h4:=h.mk_.pen;rw[zid]at h4;have:([]:List (Int×ByteArray)).length=0:=rfl;refine⟨by omega,by omega⟩
def ze9 (x:SLC) (raws:List Raw) (k:Nat):Prop:=orow x.1=some k\/∃ i,i<raws.length/\orow (raws.getD i zV).2.1.1=some k
theorem yB.apart {G:Nat->Prop} {B0:Nat} {x:SLC} {raws:List Raw} {es:List Ent} (h:yB w B0 x raws es) (o:Only G w w') (hG:∀ k,ze9 x raws k->¬G k):yB w' B0 x raws es:=
 ⟨h.row.only o (fun j hj=>hG j (.inl hj)),h.len,fun i hi=>⟨(h.at_ i hi).name,(h.at_ i hi).rest,(h.at_ i hi).cols.only o (fun j hj=>hG j (.inr ⟨i,by rw[h.len];exact hi,hj⟩))⟩⟩
theorem yB.rows {B0:Nat} {x:SLC} {raws:List Raw} {es:List Ent} (h:yB w B0 x raws es) {k:Nat} (hk:ze9 x raws k):B0<=k/\k<w.heap.size:=by
 rcases hk with e|⟨i,hi,e⟩
 ·exact⟨h.row.row k e,h.row.ye k e⟩
 ·have hE:=h.at_ i (by rw[<- h.len];exact hi);exact⟨hE.cols.row k e,hE.cols.ye k e⟩
structure jY (w0 w:World) (b db r1 r2 B0:Nat) (S:Spa) (F:Nat->Prop) (x y:SLC) (raws:List Raw) (es:List Ent) (ss:List Snp):Prop where
 st:St w0 w b db S F
 b1:Blk w r1 (zP x y) 25
 b2:Blk w r2 (zP (none,0,0) (none,0,0)) 25
 tabs:yB w B0 x raws es
 snps:Owni xi 46 w B0 y.1 y.2.1 y.2.2 ss
 nF:∀ k,F k->k≠r1/\k≠r2/\¬ze9 x raws k/\orow y.1≠some k
variable {r1 r2 B0:Nat} {x y:SLC} {raws:List Raw} {es:List Ent} {ss:List Snp}
theorem jY.ext' (h:jY w0 w b db r1 r2 B0 S F x y raws es ss) (he:Ext w w'):jY w0 w' b db r1 r2 B0 S F x y raws es ss:=
 ⟨h.st.ext' he,h.b1.ext he,h.b2.ext he,h.tabs.ext he,h.snps.ext he,h.nF⟩
theorem jY.step (h:jY w0 w b db r1 r2 B0 S F x y raws es ss) (hst:yD w b db F S' w'):∃ F',jY w0 w' b db r1 r2 B0 S' F' x y raws es ss:=by
 obtain⟨F',g1,g2,g3⟩:=hst;have hlt:=h.st.sp.lt;refine⟨F',⟨g1,fun k hk=>?_,Only.ext h.st.ext g3 h.st.low⟩,h.b1.only g3 (fun hf=>(h.nF _ hf).1 rfl),h.b2.only g3 (fun hf=>(h.nF _ hf).2.1 rfl),h.tabs.apart g3 (fun k hk hf=>(h.nF k hf).2.2.1 hk),h.snps.only g3 (fun k hk hf=>(h.nF k hf).2.2.2 hk),fun k hk=>?_⟩
 ·rcases g2 k hk with e|e
  ·exact h.st.low k e
  ·exact Nat.le_trans h.st.ext.size e
 ·rcases g2 k hk with e|e
  ·exact h.nF k e
  ·have q1:=h.b1.lt;have q2:=h.b2.lt;refine⟨by omega,by omega,fun hr=>?_,fun hr=>?_⟩
   ·have:=(h.tabs.rows hr).2;omega
   ·have:=h.snps.ye k hr;omega
theorem zjq {nm:ByteArray} {K:Int×Int×Unit->WP} (h:jY w0 w b db r1 r2 B0 S F x y raws es ss) (hp:kP S l) (hn:nm.size<=60)
  (hbad:∀ w' k e,e≠0->(∃ S' F',jY w0 w' b db r1 r2 B0 S' F' x y raws es ss)->K (k,e,()) w')
  (hgood:∀ w' S' F' k,2<=k->jY w0 w' b db r1 r2 B0 S' F' x y raws es ss->kP S' (l++[k])->K (((k:Nat):Int),0,()) w'):
  ze prog 24 [(.pointer (some (aD b))),(.agg #[(.int .u8 (7:Int)),(.slice none 0 0),(.string nm)])] (.many [(.one (.int .u32)),(.one (.int .i64))]) K w:=by
 obtain⟨hb1,hb2⟩:=hp.bound;have hroom:S.room 0=(238:Nat):=by
  have h1:=(xQ hp.great.good.dims).1;have h2:=hp.mk_.r0;rw[zax]at h2;rw[h1,h2]
 have hput:=zly (p:=((7:UInt8),[],nm)) (A:=none) (n:=0) (c:=0) h.st.sp (by exact hp.great) (by omega) (Sli.nil _ _) (fun a ha=>by cases ha) (by show 3<=7;omega) (by rw[hroom];show(0:Int)<=_;decide) (by dsimp only;omega);refine zb hput ?_;rintro _ w2 ⟨S',k,e,rfl,hR,hst⟩;refine⟨((k:Int),e,()),rfl,?_⟩;obtain⟨F',hm⟩:=h.step hst
 by_cases he:e=0
 ·rcases hR with ⟨e1,_⟩|⟨e1,_⟩|⟨_,hP,hG,_,_⟩
  ·omega
  ·omega
  subst he;exact hgood w2 S' F' k hP.two hm (hp.put hP hG)
 ·exact hbad w2 _ e he ⟨S',F',hm⟩
theorem zn4 {i k:Nat} {K:WP} (h:jY w0 w b db r1 r2 B0 S F x y raws es ss) (hi:i<es.length) (h1:r1<B0) (h2:r2<B0) (h0:w0.heap.size<=B0)
  (hK:∀ w' raws',jY w0 w' b db r1 r2 B0 S F x y raws' (es.set i ((es.getD i zM).1,(es.getD i zM).2.1,k,(es.getD i zM).2.2.2)) ss->K w'):
  (zc (0<=(i:Int)/\(i:Int)<((x.2.1:Nat):Int))<|zh x.1 fun(p18:Addr)=>stW ((p18.add (Int.toNat (i:Int)*5)).add 2) (.int .u32 (k:Int)) K) w:=by
 have hl:=h.tabs.len;have hxl:=h.tabs.row.len;have hj:i<raws.length:=by omega
 have g:raws[i]?=some (raws.getD i zV):=by rw[getD_eq_getElem?_getD,List.getElem?_eq_getElem hj];rfl
 refine zL ⟨by omega,by omega⟩ ?_;obtain⟨a,ha,_⟩:=h.tabs.row.sl.at_ g;have hA:adr x.1=a:=by unfold adr;rw[ha];rfl
 rw[ha];refine zr ?_;rw[Int.toNat_natCast,<- hA];refine Owni.stF (x':=((raws.getD i zV).1,(raws.getD i zV).2.1,k,(raws.getD i zV).2.2.2)) h.tabs.row (k:=5) rfl g (by omega) (by rfl) ?_;intro w2 ho2 o2;have hE:=h.tabs.at_ i hi;have hrow:∀ q,orow x.1=some q->B0<=q:=h.tabs.row.row;have hnx:∀ q,F q->orow x.1≠some q:=fun q hq e=>(h.nF q hq).2.2.1 (.inl e);refine hK w2 (raws.set i ((raws.getD i zV).1,(raws.getD i zV).2.1,k,(raws.getD i zV).2.2.2)) ⟨⟨h.st.sp.only o2 (fun q hq e=>hnx q hq e),h.st.low,Only.ext h.st.ext o2 (fun q hq=>by have:=hrow q hq;omega)⟩,h.b1.only o2 (fun e=>by have:=hrow _ e;omega),h.b2.only o2 (fun e=>by have:=hrow _ e;omega),⟨ho2,by rw[length_set,length_set];exact hl,fun j hj2=>?_⟩,h.snps.only o2 (fun q hq e=>h.snps.ne h.tabs.row (by decide) q hq e),fun q hq=>⟨(h.nF q hq).1,(h.nF q hq).2.1,?_,(h.nF q hq).2.2.2⟩⟩
 ·rw[length_set]at hj2;rw[xS hj,xS hi];have hc:∀ {r:Raw} {e:Ent},xF w B0 r e->xF w2 B0 r e:=fun hE=>⟨hE.name,hE.rest,hE.cols.only o2 (fun q hq e=>hE.cols.ne h.tabs.row (by decide) q hq e)⟩
  by_cases e:i=j
  ·rw[if_pos e,if_pos e];have hE2:=hc hE;refine⟨hE2.name,?_,hE2.cols⟩;have:=hE2.rest;dsimp only;rw[this]
  ·rw[if_neg e,if_neg e];exact hc (h.tabs.at_ j hj2)
 ·rintro(e|⟨j,hj2,e⟩)
  ·exact hnx q hq e
  ·rw[length_set]at hj2;rw[xS hj]at e;refine(h.nF q hq).2.2.1 (.inr ?_)
   by_cases e2:i=j
   ·rw[if_pos e2]at e;exact⟨i,hj,e⟩
   ·rw[if_neg e2]at e;exact⟨j,hj2,e⟩
theorem zn5 {i k:Nat} {K:WP} (h:jY w0 w b db r1 r2 B0 S F x y raws es ss) (hi:i<ss.length) (h1:r1<B0) (h2:r2<B0) (h0:w0.heap.size<=B0)
  (hK:∀ w',jY w0 w' b db r1 r2 B0 S F x y raws es (ss.set i ((ss.getD i zT).1,k))->K w'):
  (zc (0<=(i:Int)/\(i:Int)<((y.2.1:Nat):Int))<|zh y.1 fun(p18:Addr)=>stW ((p18.add (Int.toNat (i:Int)*2)).add 1) (.int .u32 (k:Int)) K) w:=by
 have hyl:=h.snps.len;have g:ss[i]?=some (ss.getD i zT):=by rw[getD_eq_getElem?_getD,List.getElem?_eq_getElem hi];rfl
 refine zL ⟨by omega,by omega⟩ ?_;obtain⟨a,ha,_⟩:=h.snps.sl.at_ g;have hA:adr y.1=a:=by unfold adr;rw[ha];rfl
 rw[ha];refine zr ?_;rw[Int.toNat_natCast,<- hA];refine Owni.stF (x':=((ss.getD i zT).1,k)) h.snps (k:=2) rfl g (by omega) (by rfl) ?_;intro w2 ho2 o2;have hrow:∀ q,orow y.1=some q->B0<=q:=h.snps.row;exact hK w2 ⟨⟨h.st.sp.only o2 (fun q hq e=>(h.nF q hq).2.2.2 e),h.st.low,Only.ext h.st.ext o2 (fun q hq=>by have:=hrow q hq;omega)⟩,h.b1.only o2 (fun e=>by have:=hrow _ e;omega),h.b2.only o2 (fun e=>by have:=hrow _ e;omega),⟨h.tabs.row.only o2 (fun q hq e=>h.tabs.row.ne h.snps (by decide) q hq e),h.tabs.len,fun j hj=>⟨(h.tabs.at_ j hj).name,(h.tabs.at_ j hj).rest,(h.tabs.at_ j hj).cols.only o2 (fun q hq e=>(h.tabs.at_ j hj).cols.ne h.snps (by decide) q hq e)⟩⟩,ho2,h.nF⟩
end V
/- Law 24:a catalog whose roots are pages of one's own;the walk. -/
namespace V
open Go Go.Proofs Go.RowKit Crc
variable {w0 w w':World} {b db:Nat} {S S':Spa} {F:Nat->Prop} {l:List Nat}
variable {r1 r2 B0:Nat} {x y:SLC} {raws:List Raw} {es:List Ent} {ss:List Snp}
theorem zjr {w:World} {b n:Nat} {cs vs:List Value} {t:TypeId} {us:Array Value} {K:WP} (h:Blk w b cs t) (hl:vs.length=cs.length) (hv:∀ v∈vs,v.oneCell'=true) (hu:us.size=n)
  (hK:∀ w',Blk w' b vs t->Only (fun k=>k=b) w w'->K w'):(zc (us.size=n)<|zu (aD b) vs K) w:=by
 obtain⟨hst,hbl,hg⟩:=zfp h (o:=0) (vs:=vs) (by omega) hv;refine⟨hu,hst,hK _ ?_ (Only.z7 hg (fun j hj=>.inl (by injection hj with hj;exact hj.symm)))⟩;rw[List.take_zero,List.nil_append,Nat.zero_add,List.drop_eq_nil_of_le (by omega),append_nil]at hbl;exact hbl
def zlT (w0:World) (b db:Nat) (v:Value) (w':World):Prop:=
 ∃ (x y:SLC) (ok:Bool),v=.tuple #[.agg (zP x y).toArray,.bool ok]/\Ext w0 w'/\
  (ok=true->∃ S F c,St w0 w' b db S F/\kP S (zX c)/\qc c=true/\Safe F w' (fun w=>yy w 0 x y c))
theorem zfM {ok:Bool} (h:jY w0 w b db r1 r2 B0 S F x y raws es ss) (h2:w0.heap.size<=r2) (hB:r2<B0) (hok:ok=true->kP S (zX (es,ss))/\qc (es,ss)=true):
  (zc ((#[(.slice x.1 x.2.1 x.2.2),(.slice y.1 y.2.1 y.2.2)]:Array Value).size=2)<|
   zu (aD r2) [(.slice x.1 x.2.1 x.2.2),(.slice y.1 y.2.1 y.2.2)]<|
   zk [.slc,.slc] (aD r2) fun(u17:(SLC×SLC×Unit))=>zlT w0 b db (.tuple #[(.agg #[(.slice u17.1.1 u17.1.2.1 u17.1.2.2),(.slice u17.2.1.1 u17.2.1.2.1 u17.2.1.2.2)]),(.bool ok)])) w:=by
 refine zjr (vs:=zP x y) h.b2 (by rfl) (xk _ _) (by rfl) ?_;intro w2 hb2 o2;refine zZ (ls:=xc) (yZ x y) hb2 (by rfl) ?_;have e2:Ext w0 w2:=Only.ext h.st.ext o2 (fun j hj=>by have:j=r2:=hj;omega);refine⟨x,y,ok,rfl,e2,fun hh=>?_⟩;obtain⟨hp,hc⟩:=hok hh;have hsp:yb w2 b db S F:=h.st.sp.only o2 (fun k hk e=>(h.nF k hk).2.1 e);have ht:=h.tabs.apart o2 (fun k hk e=>by have:=(h.tabs.rows hk).1;have:k=r2:=e;omega);have hs:=h.snps.only o2 (fun k hk e=>by have:=h.snps.row k hk;have:k=r2:=e;omega);refine⟨S,F,(es,ss),⟨hsp,h.st.low,e2⟩,hp,hc,fun w3 o3=>⟨⟨raws,?_⟩,?_⟩⟩
 ·exact(ht.apart o3 (fun k hk hf=>(h.nF k hf).2.2.1 hk)).lower (Nat.zero_le _)
 ·exact(hs.only o3 (fun k hk hf=>(h.nF k hf).2.2.2 hk)).lower (Nat.zero_le _)
theorem zif {α:Type} {l:List α} {i:Nat} {a:α} (d:α) (h:i<l.length):(l.set i a).take (i+1)=l.take i++[a]:=by
 rw[zbY (d:=d) (by rw[length_set];exact h),List.take_set_of_le (Nat.le_refl _),xS h,if_pos rfl]
theorem zig {x0 y0:SLC} {c0:Cat} (h:St w0 w b db S0 F) (hc:xm w x0 y0 c0) (hlc:zbk c0):
  Calls prog 31 #[.pointer (some ⟨b,0,none⟩),.agg (zP x0 y0).toArray] w (Ret (zlT w0 b db)):=by
 have hlt0:=h.sp.lt;have hs0:=h.ext.size;apply zoN;unfold S31;refine zq fun r1 w1 hb1 he1 hr1 hz1=>?_;have hb1:Blk w1 r1 (zP x0 y0) 25:=hb1;refine zq fun r2 w2 hb2 he2 hr2 hz2=>?_;have hb2:Blk w2 r2 (zP (none,0,0) (none,0,0)) 25:=hb2;have he02:=he1.trans he2;have hl1:=hb1.lt;have hl2:=hb2.lt;refine zZ (ls:=xc) (yZ x0 y0) (hb1.ext he2) (by rfl) ?_;refine zb (zgB (hc.ext he02) hlc.lt) ?_;rintro _ w3 ⟨⟨x,y,rfl,hown⟩,he3⟩;refine⟨yZ x y,rfl,?_⟩;obtain⟨⟨raws,ht⟩,hsn⟩:=hown;refine zjr (vs:=zP x y) ((hb1.ext he2).ext he3) (by rfl) (xk _ _) (by rfl) ?_;intro w4 hb4 o4;have hz4:w1.heap.size<=w2.heap.size:=he2.size;have hrx:∀ k,ze9 x raws k->¬k=r1:=fun k hk e=>by have:=(ht.rows hk).1;omega
 have hM4:jY w0 w4 b db r1 r2 w2.heap.size S0 F x y raws c0.1 c0.2:=
  ⟨⟨(h.sp.ext (he02.trans he3)).only o4 (fun k hk e=>by have:=hlt0 k hk;have:k=r1:=e;omega),h.low,Only.ext (h.ext.trans (he02.trans he3)) o4 (fun k hk=>by have:k=r1:=hk;omega)⟩,hb4,(hb2.ext he3).only o4 (fun e=>by have:r2=r1:=e;omega),ht.apart o4 (fun k hk e=>hrx k hk e),hsn.only o4 (fun k hk e=>by have:=hsn.row k hk;have:k=r1:=e;omega),fun k hk=>by
   have hk:=hlt0 k hk
   refine⟨by omega,by omega,fun hr=>?_,fun hr=>?_⟩
   ·have:=(ht.rows hr).1;omega
   ·have:=hsn.row k hr;omega⟩
 have hB1:r1<w2.heap.size:=by omega
 have hB2:r2<w2.heap.size:=by omega
 have hB0:w0.heap.size<=w2.heap.size:=by omega
 have hr2:w0.heap.size<=r2:=by omega
 have t20:=hlc.tabs;have s20:=hlc.snaps;refine zw (fun q w'=>∃ (i:Nat) (S:Spa) (F:Nat->Prop) (raws:List Raw) (es:List Ent),i<=es.length/\es.length<=20/\q=((i:Int),())/\(∀ k,(es.getD k zM).1.size<=60)/\jY w0 w' b db r1 r2 w2.heap.size S F x y raws es c0.2/\kP S (zai (es.take i))) (fun q=>(20-q.1).toNat)
  ⟨0,_,_,raws,c0.1,by omega,t20,rfl,fun k=>?_,hM4,kP.init⟩ ?_
 ·by_cases hk:k<c0.1.length
  ·exact(hlc.ents _ (kX hk)).1
  ·rw[getD_eq_getElem?_getD,List.getElem?_eq_none (by omega)];show ByteArray.empty.size<=60
   decide
 rintro _ w5 ⟨i,S,F,raws,es,hi,he20,rfl,hnm,hM,hP⟩;dsimp only;have hxl:=hM.tabs.row.len;have hle:=hM.tabs.len;have hw:wrap .i64 ((i:Int)+1)=((i+1:Nat):Int):=by rw[wrap_i64 (by omega) (by omega)];rfl
 rw[hw];refine zF x hM.b1 (by rfl) ?_
 by_cases hlt:i<es.length
 ·refine zf (decide_eq_true (by omega)) (zF x hM.b1 (by rfl) ?_);refine vP (E:=yo) 2 (fun e:Raw=>((e.2.2.1:Nat):Int)) zV hM.tabs.row.sl (fun _=>rfl) rfl (by omega) (by omega) ?_;rw[Int.toNat_natCast,show(raws.getD i zV).2.2.1=(es.getD i zM).2.2.1 by rw[(hM.tabs.at_ i hlt).rest]]
  by_cases h0:(es.getD i zM).2.2.1=0
  ·refine zd (bne_eq_false_iff_eq.2 (by omega)) ⟨⟨i+1,S,F,raws,es,by omega,he20,rfl,hnm,hM,?_⟩,by omega⟩;rw[zbY (d:=zM) hlt,zaW,if_pos h0,append_nil];exact hP
  ·refine zf (bne_iff_ne.2 (by omega)) (zF x hM.b1 (by rfl) ?_);refine jw (E:=yo) (fun e:Raw=>e.1) zV hM.tabs.row.sl (fun _=>rfl) rfl (by omega) (by omega) ?_;rw[Int.toNat_natCast,(hM.tabs.at_ i hlt).name];refine zjq hM hP (hnm i) ?_ ?_
   ·rintro w6 k e he ⟨S',F',hM'⟩;refine zf (bne_iff_ne.2 he) (zZ (ls:=xc) (yZ x y) hM'.b1 (by rfl) ?_);exact zfM (ok:=false) hM' hr2 hB2 (fun e=>by cases e)
   ·intro w6 S' F' k hk2 hM' hP';refine zd (by rfl) (zF x hM'.b1 (by rfl) ?_);refine zn4 hM' hlt hB1 hB2 hB0 ?_;intro w7 raws' hM7;refine⟨⟨i+1,S',F',raws',_,by rw[length_set];omega,by rw[length_set];exact he20,rfl,fun j=>?_,hM7,?_⟩,by omega⟩
    ·rw[xS hlt];split
     ·exact hnm i
     ·exact hnm j
    ·rw[zif zM hlt,zaW,if_neg (by dsimp only;omega)];exact hP'
 obtain rfl:i=es.length:=by omega
 refine zd (decide_eq_false (by omega)) ?_;rw[take_of_length_le (Nat.le_refl _)]at hP;refine zw (fun q w'=>∃ (i:Nat) (S:Spa) (F:Nat->Prop) (ss:List Snp),i<=ss.length/\ss.length<=20/\q=((i:Int),())/\(∀ k,(ss.getD k zT).1.size<=60)/\jY w0 w' b db r1 r2 w2.heap.size S F x y raws es ss/\kP S (zai es++zbn (ss.take i))) (fun q=>(20-q.1).toNat)
  ⟨0,S,F,c0.2,by omega,s20,rfl,fun k=>?_,hM,by rw[List.take_zero];show kP S (_++[]);rw[append_nil];exact hP⟩ ?_
 ·by_cases hk:k<c0.2.length
  ·exact hlc.snps _ (kX hk)
  ·rw[getD_eq_getElem?_getD,List.getElem?_eq_none (by omega)];show ByteArray.empty.size<=60
   decide
 rintro _ w6 ⟨i,S,F,ss,hi,hs20,rfl,hsm,hM,hP⟩;dsimp only;have hyl:=hM.snps.len;have hw:wrap .i64 ((i:Int)+1)=((i+1:Nat):Int):=by rw[wrap_i64 (by omega) (by omega)];rfl
 rw[hw];refine zm 1 y hM.b1 (by rfl) ?_
 by_cases hlt:i<ss.length
 ·refine zf (decide_eq_true (by omega)) (zm 1 y hM.b1 (by rfl) ?_);refine vP (E:=xi) 1 (fun e:Snp=>((e.2:Nat):Int)) zT hM.snps.sl (fun _=>rfl) rfl (by omega) (by omega) ?_;rw[Int.toNat_natCast]
  by_cases h0:(ss.getD i zT).2=0
  ·refine zd (bne_eq_false_iff_eq.2 (by omega)) ⟨⟨i+1,S,F,ss,by omega,hs20,rfl,hsm,hM,?_⟩,by omega⟩;rw[zbY (d:=zT) hlt,zaX,if_pos h0,append_nil];exact hP
  ·refine zf (bne_iff_ne.2 (by omega)) (zm 1 y hM.b1 (by rfl) ?_);refine jw (E:=xi) (fun e:Snp=>e.1) zT hM.snps.sl (fun _=>rfl) rfl (by omega) (by omega) ?_;rw[Int.toNat_natCast];refine zjq hM hP (hsm i) ?_ ?_
   ·rintro w7 k e he ⟨S',F',hM'⟩;refine zf (bne_iff_ne.2 he) (zZ (ls:=xc) (yZ x y) hM'.b1 (by rfl) ?_);exact zfM (ok:=false) hM' hr2 hB2 (fun e=>by cases e)
   ·intro w7 S' F' k hk2 hM' hP';refine zd (by rfl) (zm 1 y hM'.b1 (by rfl) ?_);refine zn5 hM' hlt hB1 hB2 hB0 ?_;intro w8 hM8;refine⟨⟨i+1,S',F',_,by rw[length_set];omega,by rw[length_set];exact hs20,rfl,fun j=>?_,hM8,?_⟩,by omega⟩
    ·rw[xS hlt];split
     ·exact hsm i
     ·exact hsm j
    ·rw[zif zT hlt,zaX,if_neg (by dsimp only;omega),<- append_assoc];exact hP'
 obtain rfl:i=ss.length:=by omega
 refine zd (decide_eq_false (by omega)) ?_;rw[take_of_length_le (Nat.le_refl _)]at hP;refine zK fun w7 he7 hz7 hh7=>?_;have hM7:=hM.ext' he7;refine zZ (ls:=xc) (yZ x y) hM7.b1 (by rfl) (zZ (ls:=xc) (yZ x y) hM7.b1 (by rfl) ?_);have hcat:xm w7 x y (es,ss):=yy.cat (B0:=w2.heap.size) ⟨⟨raws,hM7.tabs⟩,hM7.snps⟩;refine zb (zfL hcat) ?_;rintro _ w8 ⟨rfl,he8⟩;have hM8:=hM7.ext' he8;refine⟨_,rfl,xO (za9 hM8.b1) ?_⟩;refine zfM hM8 hr2 hB2 (fun e=>?_);rw[zlS];refine⟨hP,?_⟩
 by_cases hk:qc (es,ss)=true
 ·exact hk
 ·rw[if_neg hk]at e;cases e
end V
/- Contracts of the package catalog:Get of no page;of a page that can not be got. -/
namespace V
open Go Go.Proofs Go.RowKit Crc
variable {w w':World} {b db:Nat} {S:Spa} {F:Nat->Prop} {R:List Nat}
theorem zgD (w:World) (p:Option Addr):Calls prog 25 #[.pointer p,.int .u32 0] w (Ret fun v w'=>v=.tuple #[.agg (zP (none,0,0) (none,0,0)).toArray,.int .i64 0]/\Ext w w'):=by
 apply zi5;unfold S25;refine zq fun r1 w1 hb1 he1 hr1 hz1=>?_;refine zf (by rfl) ?_;refine refill (vs:=zP (none,0,0) (none,0,0)) hb1 (by rfl) (xk _ _) (by rfl) ?_;intro w2 hb2 hx2 hk2 hz2;refine zZ (ls:=xc) (yZ (none,0,0) (none,0,0)) hb2 (by rfl) ⟨rfl,hx2 w he1 (by omega)⟩
end V
/- Law 24:CatalogShares;what was put twice,and then dropped once. -/
namespace V
open Go Go.Proofs Go.RowKit Crc
variable {w0 w w':World} {b db:Nat} {S S':Spa} {F:Nat->Prop} {R H l:List Nat} {M:Option (List Nat)}
theorem zfa {S:Spa} {c1 l:List Nat} (hu:∀ v∈l,zE S.sup.pages S.now v=true) (hc:∀ k,c1.getD k 0=S.now.getD k 0+l.count k):({ S with now:=c1 }:Spa).zY=S.zY:=by
 have hf:∀ n,({ S with now:=c1 }:Spa).yv n=S.yv n:=by
  intro n;rw[Bool.eq_iff_iff,zS,zS];show c1.getD n 0=0/\_↔_;rw[hc];constructor
  ·rintro⟨h1,h2⟩;exact⟨by omega,h2⟩
  ·rintro⟨h1,h2⟩;refine⟨?_,h2⟩;have:l.count n=0:=by
    apply count_eq_zero.2;intro hm;have:=(zA.1 (hu n hm)).2.2;omega
   omega
 exact Nat.le_antisymm (ux rfl fun n hn=>by rw[<- hf];exact hn) (ux rfl fun n hn=>by rw[hf];exact hn)
theorem zkE {len:Nat} (h:len<=11000):nparts 238 len<=47:=by
 rcases Nat.lt_or_ge 47 (nparts 238 len) with h1|h1
 ·have:=(zat (r:=238) (len:=len) (i:=47) (by omega)).1 h1;omega
 ·exact h1
theorem zlU (c:Cat):(zX c).length<=c.1.length+c.2.length:=by
 unfold zX;rw[length_map];exact ze4 c
theorem zlV {n:Nat} {ks vs:List Nat} (hg:Good S R) (hT:qi S n ks vs) (hu:zE S.sup.pages S.now n=true):∀ v∈vs,zE S.sup.pages S.now v=true:=by
 cases hT with
 |one hA=>exact fun v hv=>(hg.well.good n hu).2 v (by unfold zU;rw[hA.1];exact hv)
 |two m a c' h1 h2 h3 h4 h5 h6 h7 h8=>
  have hkid:zU S.page n=[a,c']:=by unfold zU;rw[h6]
  have hua:=((hg.well.good n hu).2 a (by rw[hkid];simp));have huc:=((hg.well.good n hu).2 c' (by rw[hkid];simp));intro v hv;rw[<- List.take_append_drop m vs]at hv;rcases mem_append.1 hv with e|e
  ·exact(hg.well.good a hua).2 v (by unfold zU;rw[h7.1];exact e)
  ·exact(hg.well.good c' huc).2 v (by unfold zU;rw[h8.1];exact e)
theorem kI.mk_ {n:Nat} {c:Cat} {ls:List Nat} (h:kI S n c) (hm:Mk S S' ls) (hg:Good S R) (hu:zE S.sup.pages S.now n=true):kI S' n c:=by
 obtain⟨h1,bn,bks,hT,hB⟩:=h;have hub:=zlV hg hT hu bn mem_cons_self;refine⟨h1,bn,bks,hT.mk_ hm hg hu,hB.keep hm.r0 (fun k hk=>?_)⟩;rcases hk with rfl|hk
 ·exact(hm.used hg hub).1
 ·exact(hm.used hg ((hg.well.good bn hub).2 k (by unfold zU;rw[hB.idx];exact hk))).1
theorem kI.now {n:Nat} {c:Cat} {c':List Nat} (h:kI S n c):kI { S with now:=c' } n c:=by
 obtain⟨h1,bn,bks,hT,hB⟩:=h;exact⟨h1,bn,bks,hT.keep (fun k _=>rfl),hB.keep rfl (fun k _=>rfl)⟩
def zkF (S:Spa) (n:Nat) (c:Cat):Prop:=(n=0/\c=uZ/\Great S [] [] none)\/(n≠0/\kI S n c/\Great S [n] [] none)
theorem zlW (h:yb w b db S F) {n:Nat} {c:Cat} (hc:zkF S n c):
  Calls prog 25 #[.pointer (some ⟨b,0,none⟩),.int .u32 (n:Int)] w (Ret fun v w'=>(∃ x y,v=.tuple #[.agg (zP x y).toArray,.int .i64 0]/\yy w' w.heap.size x y c)/\Ext w w'):=by
 rcases hc with ⟨rfl,rfl,hg⟩|⟨hn,hp,hg⟩
 ·refine(zgD w _).mono (Ret.mono ?_);rintro _ w1 ⟨rfl,he⟩;exact⟨⟨_,_,rfl,zbX _ _⟩,he⟩
 ·exact zc4 h hg.good hp (hg.good.well.root n (by simp))
theorem zjs (h:yb w b db S F) (hg:Good S []) {A:Option Addr} {k c:Nat} {zs:List Nat} (hz:∀ z∈zs,z=0) (hs:Sli (zv .u32) w A k zs) (hx:∀ a,A=some a->a.block<w.heap.size):
  Calls prog 32 #[.pointer (some ⟨b,0,none⟩),.slice A k c] w (Ret fun v w'=>v=.int .i64 0/\Ext w w'):=by
 have hfit:=zlx h;obtain⟨Fd,x,hb,hr,nb,nr,m,h'⟩:=h;obtain⟨d,ys,s',v1,v2,v3,v4⟩:=zeW hg hfit;have v0:Vis S.get d (List.replicate S.N false) zs ys s' 0:=by
  clear hs
  induction zs with
  |nil=>exact v1
  |cons z zs ih=>
   rw[hz z mem_cons_self];exact .zero (ih (fun z hz'=>hz z (mem_cons_of_mem _ hz')))
 refine(zdG h' (x0:=(A,k,c)) hs (fun k hk=>by rw[hz k hk];omega) hx (fun p hp=>(hg.well.pgs p hp).2.1) v2 v3 v0).mono (Ret.mono ?_);rintro v w' ⟨rfl,he⟩;refine⟨?_,he⟩;rw[if_neg (by simp),if_pos v4]
theorem zn6 (h:yb w b db S F) {n r:Nat} {c:Cat} (hc:zkF S n c) (hb:Blk w r [.int .u32 (n:Int)] 41):
  Calls prog 32 #[.pointer (some ⟨b,0,none⟩),.slice (some ⟨r,0,none⟩) 1 1] w (Ret fun v w'=>v=.int .i64 0/\Ext w w'):=by
 have hs:Sli (zv .u32) w (some ⟨r,0,none⟩) 1 [n]:=Sli.xC hb rfl (by omega);have hx:∀ a,some (aD r)=some a->a.block<w.heap.size:=fun a ha=>by injection ha with ha;rw[<- ha];exact hb.lt
 rcases hc with ⟨rfl,rfl,hg⟩|⟨hn,hp,hg⟩
 ·exact zjs h hg.good (fun z hz=>mem_singleton.1 hz) hs hx
 ·exact zhI (x0:=(some ⟨r,0,none⟩,1,1)) h hg.good hs hx
theorem Owni.some_ {α:Type} {E:Enc α} {e:TypeId} {B0:Nat} {A:Option Addr} {n c:Nat} {xs:List α} (h:Owni E e w B0 A n c xs) (hn:0<n):∃ g,A=some ⟨g,0,none⟩:=by
 rcases h.2 with ⟨hv,h2⟩|⟨g,cap,cur,hv,_⟩
 ·have:n=0:=h2;omega
 ·injection hv with hv
  exact⟨g,hv⟩
structure Loose (w:World) (B0:Nat) (x:SLC) (raws:List Raw):Prop where
 row:Owni yo 44 w B0 x.1 x.2.1 x.2.2 raws
 cols:∀ j,j<raws.length->∃ cs,0<(raws.getD j zV).2.1.2.1/\Owni xx 62 w B0 (raws.getD j zV).2.1.1 (raws.getD j zV).2.1.2.1 (raws.getD j zV).2.1.2.2 cs
theorem zkG {B0 i:Nat} {x:SLC} {raws:List Raw} {s:ByteArray} {K:WP} (h:Loose w B0 x raws) (hi:i<raws.length)
  (hK:∀ w',Loose w' B0 x raws->Only (fun k=>orow (raws.getD i zV).2.1.1=some k) w w'->K w'):stW ((((adr (raws.getD i zV).2.1.1).add (0*3)).add 0)) (.string s) K w:=by
 have st:∀ {j:Nat} {cs:List Col},0<(raws.getD j zV).2.1.2.1->∀ (h:Owni xx 62 w B0 (raws.getD j zV).2.1.1 (raws.getD j zV).2.1.2.1 (raws.getD j zV).2.1.2.2 cs),stW (((adr (raws.getD j zV).2.1.1).add (0*3)).add 0) (.string s) (fun w'=>(∃ cs,Owni xx 62 w' B0 (raws.getD j zV).2.1.1 (raws.getD j zV).2.1.2.1 (raws.getD j zV).2.1.2.2 cs)/\Only (fun k=>orow (raws.getD j zV).2.1.1=some k) w w') w:=by
  intro j cs h0 ho;have hl:=ho.len
  match cs,hl,ho with
  |c::cs,hl,ho=>
   exact Owni.stF (x':=(s,c.2)) ho (k:=3) rfl (i:=0) (by rfl) (by omega) (by rfl) (fun w' ho' o'=>⟨⟨_,ho'⟩,o'⟩)
  |[],hl,ho=>rw[<- hl]at h0;exact absurd h0 (by simp)
 obtain⟨cs,h0,ho⟩:=h.cols i hi;obtain⟨s1,s2,⟨cs',s3⟩,s4⟩:=st h0 ho;refine⟨s1,s2,hK _ ⟨h.row.only s4 (fun q hq e=>h.row.ne ho (by decide) q hq e),fun j hj=>?_⟩ s4⟩;obtain⟨ds,d0,hd⟩:=h.cols j hj;obtain⟨g,hg⟩:=ho.some_ h0;obtain⟨g2,hg2⟩:=hd.some_ d0
 by_cases e:g=g2
 ·subst e;obtain⟨_,_,⟨ds',t3⟩,_⟩:=st d0 hd;rw[hg2]at t3 ⊢;rw[hg];exact⟨ds',d0,t3⟩
 ·refine⟨ds,d0,hd.only s4 (fun q hq e2=>?_)⟩;rw[hg2]at hq;rw[hg]at e2;have hq:some g2=some q:=hq;have e2:some g=some q:=e2;rw[<- e2]at hq;injection hq with hq
  exact e hq.symm
theorem zn7 {B0:Nat} {x y:SLC} {c:Cat} (h:yy w B0 x y c) (hc:jJ c):∃ raws,raws.length=x.2.1/\raws.length<=16/\Loose w B0 x raws:=by
 obtain⟨⟨raws,h1⟩,_⟩:=h;have hl:=h1.len;have:=hc.tabs;refine⟨raws,h1.row.len,by omega,h1.row,fun j hj=>?_⟩;have hE:=h1.at_ j (by omega);refine⟨_,?_,hE.cols⟩;rw[<- hE.cols.len];have:=(hc.ents _ (kX (d:=zM) (i:=j) (by omega))).2.1;exact(zao this).1.1
end V
/- Law 24:CatalogShares. -/
namespace V
open Go Go.Proofs Go.RowKit Crc
variable {w0 w w':World} {b db:Nat} {S S':Spa} {F:Nat->Prop} {R H l:List Nat} {M:Option (List Nat)}
theorem Loose.ext {B0:Nat} {x:SLC} {raws:List Raw} (h:Loose w B0 x raws) (he:Ext w w'):Loose w' B0 x raws:=
 ⟨h.row.ext he,fun j hj=>by obtain⟨cs,h0,ho⟩:=h.cols j hj;exact⟨cs,h0,ho.ext he⟩⟩
theorem zdP {n m r15:Nat} {x y:SLC} {c:Cat} (st:St w0 w b db S F) (h:(c=uZ/\n=0/\m=0/\Great S [] [] none)\/(n≠0/\m≠0/\kI S n c/\Great S [n,m] [] none)) (hI:jJ c) (hs:Safe F w fun w=>xm w x y c/\Blk w r15 (zP x y) 25):
  (zi (.cells #[(.int .u32 (n:Int)),(.int .u32 (m:Int))] 41) fun(r22:Nat)=>
   ze prog 32 [(.pointer (some (aD b))),(.slice (some (aD r22)) 2 2)] (.one (.one (.int .i64))) fun(u23:Int)=>
   za (u23 !=(0:Int)) ((fun w'=>Value.bool false=.bool true/\Ext w0 w'))<|
   yQ (Unit) (fun(J24:(Unit)->WP)=>
   za ((m:Int) !=(0:Int)) (ze prog 28 [(.pointer (some (aD b))),(.int .u32 (m:Int))] (.one (.one (.int .i64))) fun(u26:Int)=>
   za (u26 !=(0:Int)) ((fun w'=>Value.bool false=.bool true/\Ext w0 w'))<|J24 ())<|J24 ()) fun(y25:Unit)=>
   ze prog 25 [(.pointer (some (aD b))),(.int .u32 (n:Int))] (.many [(.agg [.slc,.slc]),(.one (.int .i64))]) fun(u27:(SLC×SLC×Unit)×Int×Unit)=>
   zi (.cells #[(.slice none 0 0),(.slice none 0 0)] 25) fun(r28:Nat)=>
   zc ((#[(.slice u27.1.1.1 u27.1.1.2.1 u27.1.1.2.2),(.slice u27.1.2.1.1 u27.1.2.1.2.1 u27.1.2.1.2.2)]:Array Value).size=2)<|
   zu (aD r28) [(.slice u27.1.1.1 u27.1.1.2.1 u27.1.1.2.2),(.slice u27.1.2.1.1 u27.1.2.1.2.1 u27.1.2.1.2.2)]<|
   zz (Int×Unit) ((0:Int),()) fun(y30:Int×Unit) (I29:(Int×Unit)->WP)=>
   ldW .slc (aD r28) fun(u31:SLC)=>
   za (decide (y30.1<((u31.2.1:Nat):Int))) (ldW .slc (aD r28) fun(u32:SLC)=>
   zc (0<=y30.1/\y30.1<((u32.2.1:Nat):Int))<|
   zh u32.1 fun(p33:Addr)=>
   ldW .slc ((p33.add (Int.toNat y30.1*5)).add 1) fun(u34:SLC)=>
   zc (0<=(0:Int)/\(0:Int)<((u34.2.1:Nat):Int))<|
   zh u34.1 fun(p35:Addr)=>
   stW (p35.add (Int.toNat (0:Int)*3)) (.string (ByteArray.mk #[111,116,104,101,114]))<|I29 ((wrap .i64 (y30.1+(1:Int))),()))<|
   ze prog 25 [(.pointer (some (aD b))),(.int .u32 (n:Int))] (.many [(.agg [.slc,.slc]),(.one (.int .i64))]) fun(u36:(SLC×SLC×Unit)×Int×Unit)=>
   zi (.cells #[(.slice none 0 0),(.slice none 0 0)] 25) fun(r37:Nat)=>
   zc ((#[(.slice u36.1.1.1 u36.1.1.2.1 u36.1.1.2.2),(.slice u36.1.2.1.1 u36.1.2.1.2.1 u36.1.2.1.2.2)]:Array Value).size=2)<|
   zu (aD r37) [(.slice u36.1.1.1 u36.1.1.2.1 u36.1.1.2.2),(.slice u36.1.2.1.1 u36.1.2.1.2.1 u36.1.2.1.2.2)]<|
   za (u27.2.1==(0:Int)) (za (u36.2.1==(0:Int)) (zk [.slc,.slc] (aD r37) fun(u38:(SLC×SLC×Unit))=>
   zk [.slc,.slc] (aD r15) fun(u39:(SLC×SLC×Unit))=>
   ze prog 13 [(.agg #[(.slice u38.1.1 u38.1.2.1 u38.1.2.2),(.slice u38.2.1.1 u38.2.1.2.1 u38.2.1.2.2)]),(.agg #[(.slice u39.1.1 u39.1.2.1 u39.1.2.2),(.slice u39.2.1.1 u39.2.1.2.1 u39.2.1.2.2)])] (.one (.one .bool)) fun(u40:Bool)=>
   za u40 (zi (.cells #[(.int .u32 (n:Int))] 41) fun(r41:Nat)=>
   ze prog 32 [(.pointer (some (aD b))),(.slice (some (aD r41)) 1 1)] (.one (.one (.int .i64))) fun(u42:Int)=>(fun w'=>Value.bool (u42==(0:Int))=.bool true/\Ext w0 w'))<|(fun w'=>Value.bool false=.bool true/\Ext w0 w'))<|(fun w'=>Value.bool false=.bool true/\Ext w0 w'))<|(fun w'=>Value.bool false=.bool true/\Ext w0 w')) w:=by
 refine zq fun r22 w1 hb1 he1 hr1 hz1=>?_;have st1:=st.ext' he1;have hs22:Sli (zv .u32) w1 (some ⟨r22,0,none⟩) 2 [n,m]:=Sli.xC (E:=zv .u32) (xs:=[n,m]) (by exact hb1) rfl (by omega);have hx:∀ a,some (aD r22)=some a->a.block<w1.heap.size:=fun a ha=>by injection ha with ha;rw[<- ha];exact hb1.lt
 have haud:Calls prog 32 #[.pointer (some ⟨b,0,none⟩),.slice (some ⟨r22,0,none⟩) 2 2] w1 (Ret fun v w'=>v=.int .i64 0/\Ext w1 w'):=by
  rcases h with ⟨_,rfl,rfl,hg⟩|⟨_,_,_,hg⟩
  ·exact zjs st1.sp hg.good (fun z hz=>by simp at hz;exact hz) hs22 hx
  ·exact zhI (x0:=(some ⟨r22,0,none⟩,2,2)) st1.sp hg.good hs22 hx
 refine zb haud ?_;rintro _ w2 ⟨rfl,he2⟩;refine⟨_,rfl,zd (by rfl) ?_⟩;have st2:=st1.ext' he2;have hs2:=(hs.ext he1).ext he2;refine yu (fun _ w'=>∃ S' F',St w0 w' b db S' F'/\zkF S' n c/\Safe F' w' fun w=>xm w x y c/\Blk w r15 (zP x y) 25) ?_ (fun J hJ=>?_);rotate_left
 ·rcases h with ⟨hc,hn,rfl,hg⟩|⟨hn,hm,hp,hg⟩
  ·exact zd (by rfl) (hJ () w2 ⟨S,F,st2,.inl ⟨hn,hc,hg⟩,hs2⟩)
  ·refine zf (bne_iff_ne.2 (by omega)) ?_;refine zb (zjk (R:=[n]) st2.sp (hg.perm (List.Perm.swap m n []))) ?_;rintro _ w3 ⟨rfl,c',hG,hst,_,_⟩;obtain⟨F',st3,keep⟩:=st2.step hst;exact⟨_,rfl,zd (by rfl) (hJ () w3 ⟨_,F',st3,.inr ⟨hn,hp.now,hG⟩,keep _ hs2⟩)⟩
 rintro _ w3 ⟨S',F',st3,hno,hs3⟩;refine zb (zlW st3.sp hno) ?_;rintro _ w4 ⟨⟨X,Y,rfl,hown⟩,he4⟩;refine⟨(yZ X Y,0,()),rfl,?_⟩;refine yz (vs:=zP X Y) (by rfl) (xk _ _) (fun r28 w5 hb5 he5 hr5=>?_) (by rfl);obtain⟨raws,hl,hl16,hL⟩:=zn7 hown hI;refine zw (fun q w'=>∃ i:Nat,i<=raws.length/\q=((i:Int),())/\Loose w' w3.heap.size X raws/\Blk w' r28 (zP X Y) 25/\Ext w3 w') (fun q=>(raws.length-q.1).toNat)
  ⟨0,by omega,rfl,hL.ext he5,hb5,he4.trans he5⟩ ?_
 rintro _ w6 ⟨i,hi,rfl,hL6,hb6,hx6⟩;dsimp only;refine zF X hb6 (by rfl) ?_
 by_cases hlt:i<raws.length
 ·refine zf (decide_eq_true (by omega)) (zF X hb6 (by rfl) ?_);obtain⟨cs,h0,ho⟩:=hL6.cols i hlt;refine vP (E:=yo) 1 (fun e:Raw=>e.2.1) zV hL6.row.sl (fun _=>rfl) rfl (by omega) (by omega) ?_;rw[Int.toNat_natCast];have hw:wrap .i64 ((i:Int)+1)=((i+1:Nat):Int):=by rw[wrap_i64 (by omega) (by omega)];rfl
  rw[hw];refine zL ⟨by omega,by omega⟩ ?_;obtain⟨g,hg⟩:=ho.some_ h0;have hadr:adr (raws.getD i zV).2.1.1=(aD g):=by rw[hg];rfl
  refine⟨⟨g,0,none⟩,hg,?_⟩;have key:=zkG (s:=ByteArray.mk #[111,116,104,101,114]) (K:=fun w'=>Loose w' w3.heap.size X raws/\Blk w' r28 (zP X Y) 25/\Ext w3 w') hL6 hlt (fun w' hL' o'=>⟨hL',hb6.only o' (fun e=>Owni.neB ho hb6 (by decide) _ e rfl),Only.ext hx6 o' (fun k hk=>ho.row k hk)⟩);rw[hadr,add_zero]at key;obtain⟨k1,k2,k3,k4,k5⟩:=key;exact⟨k1,k2,⟨i+1,by omega,rfl,k3,k4,k5⟩,by omega⟩
 obtain rfl:i=raws.length:=by omega
 refine zd (decide_eq_false (by omega)) ?_;have st6:=st3.ext' hx6;have hs6:=hs3.ext hx6;refine zb (zlW st6.sp hno) ?_;rintro _ w7 ⟨⟨X2,Y2,rfl,hown2⟩,he7⟩;refine⟨(yZ X2 Y2,0,()),rfl,?_⟩;refine yz (vs:=zP X2 Y2) (by rfl) (xk _ _) (fun r37 w8 hb8 he8 hr8=>?_) (by rfl);refine zf (by rfl) (zf (by rfl) ?_);have st8:=(st6.ext' he7).ext' he8;have hs8:=((hs6.ext he7).ext he8).now;refine zZ (ls:=xc) (yZ X2 Y2) hb8 (by rfl) (zZ (ls:=xc) (yZ x y) hs8.2 (by rfl) ?_);refine zb (ze3 (hown2.ext he8).cat hs8.1) ?_;rintro _ w9 ⟨⟨vb,rfl,hvb⟩,he9⟩;refine⟨_,rfl,zf (hvb.2 rfl) ?_⟩;refine zq fun r41 w10 hb10 he10 hr10 hz10=>?_;have st10:=(st8.ext' he9).ext' he10;refine zb (zn6 st10.sp hno (by exact hb10)) ?_;rintro _ w11 ⟨rfl,he11⟩;exact⟨_,rfl,rfl,st10.ext.trans he11⟩
end V
/- Law 24:CatalogShares,whole. -/
namespace V
open Go Go.Proofs Go.RowKit Crc
section
variable {w0 w w':World} {b db:Nat} {S S':Spa} {F:Nat->Prop}
theorem Safe.and {P Q:World->Prop} (h:Safe F w P) (k:Safe F w Q):Safe F w (fun w=>P w/\Q w):=fun w' o=>⟨h w' o,k w' o⟩
theorem St.box {r:Nat} {cs:List Value} {t:TypeId} (h:yb w b db S F) (hb:Blk w' r cs t) (hr:w.heap.size<=r):Safe F w' (fun w=>Blk w r cs t):=fun w2 o=>hb.only o (fun hf=>by have:=h.lt _ hf;omega)
end
theorem zih (w:World) {x y:SLC} {c:Cat} (h:xm w x y c):
  Calls prog 7 #[.agg (zP x y).toArray] w (Ret fun v w'=>v=.bool true/\Ext w w'):=by
 obtain⟨⟨raws,hT⟩,hs⟩:=id h;have hl:=hT.len;have hxl:=hT.sl.len;apply zqh;unfold S7;refine zq fun r1 w1 hb1 he1 hr1 hz1=>?_;have hb1:Blk w1 r1 (zP x y) 25:=hb1;refine zb (ziV w1) ?_;rintro _ w2 ⟨rfl,he2⟩;refine⟨_,rfl,zd (by rfl) ?_⟩;refine zb (zdN w2) ?_;rintro _ w3 ⟨db,b,rfl,F,st3⟩;refine⟨(some ⟨db,0,none⟩,some ⟨b,0,none⟩,()),rfl,zd (by rfl) ?_⟩;have st3:=St.pre (he1.trans he2) st3;have he03:=st3.ext;have he13:=he2.trans (St.ext (St.pre (Ext.refl w2) (by exact ‹St w2 w3 b db S0 F›)));have hb3:=hb1.ext he13;refine zZ (ls:=xc) (yZ x y) hb3 (by rfl) ?_;refine zb (ziW (h.ext he03)) ?_;rintro _ w4 ⟨⟨lb,rfl,hlb⟩,he4⟩;refine⟨_,rfl,?_⟩;have st4:=st3.ext' he4;have hb4:=hb3.ext he4;refine zg (fun _=>⟨rfl,st4.ext⟩) (fun hq=>?_);have hL:zbk c:=hlb (by simpa using hq);refine zF x hb4 (by rfl) (zg (fun _=>⟨rfl,st4.ext⟩) (fun h6=>?_));have h6:=of_decide_eq_false h6;refine zw (fun q w'=>∃ i:Nat,i<=raws.length/\q=((i:Int),())/\w'=w4) (fun q=>(raws.length-q.1).toNat) ⟨0,by omega,rfl,rfl⟩ ?_;rintro _ w5 ⟨i,hi,rfl,rfl⟩;dsimp only;refine zF x hb4 (by rfl) ?_
 by_cases hlt:i<raws.length
 ·refine zf (decide_eq_true (by omega)) (zF x hb4 (by rfl) ?_);refine vP (E:=yo) 1 (fun e:Raw=>e.2.1) zV (hT.sl.ext st4.ext) (fun _=>rfl) rfl (by omega) (by omega) ?_;refine zg (fun _=>⟨rfl,st4.ext⟩) (fun _=>?_);have hw:wrap .i64 ((i:Int)+1)=((i+1:Nat):Int):=by rw[wrap_i64 (by omega) (by omega)];rfl
  rw[hw];exact⟨⟨i+1,by omega,rfl,rfl⟩,by omega⟩
 refine zd (decide_eq_false (by omega)) ?_;refine zZ (ls:=xc) (yZ x y) hb4 (by rfl) ?_;refine zb (zig st4 (h.ext st4.ext) hL) ?_;rintro _ w6 ⟨X,Y,ok,rfl,he6,hok⟩;refine⟨(yZ X Y,ok,()),rfl,?_⟩;refine yz (vs:=zP X Y) (by rfl) (xk _ _) (fun r15 w7 hb7 he7 hr7=>?_) (by rfl);cases ok with
 |false=>exact zf (by rfl) ⟨rfl,he6.trans he7⟩
 |true=>
 refine zd (by rfl) ?_;obtain⟨S1,F1,c1,st6,hP,hcat,hC6⟩:=hok rfl;have hI:=vX.1 hcat;have st7:=st6.ext' he7;have hs7:Safe F1 w7 fun w=>xm w X Y c1/\Blk w r15 (zP X Y) 25:=((hC6.mono fun _ h=>h.cat).ext he7).and (St.box st6.sp hb7 hr7)
 -- what there is room for
 obtain⟨p1,p2⟩:=hP.bound;have hrl:=zlU c1;have ht16:=hI.tabs;have hs16:=hI.snaps;have hlen:=hI.len;have hnp:=zkE hlen;have hfr:=hP.mk_.free;rw[zdj]at hfr;have hr0:S1.r0=238:=hP.mk_.r0.trans zax;have hsup:S1.sup.pages.length=3:=by rw[hP.mk_.sup];exact zb6
 have hG1:Great S1 (zX c1++[]) [] none:=by rw[append_nil];exact hP.great
 refine zZ (ls:=xc) (yZ X Y) hs7.now.2 (by rfl) ?_;refine zb (jX (R:=[]) (H:=[]) (M:=none) st7.sp (hs7.mono fun _ h=>h.1) hcat hG1 (by omega) (by omega) (by rw[hr0,ze8];omega) (by rw[hsup,hr0];omega) (fun v hv=>by rw[hP.one v hv];omega)) ?_;rintro _ w8 (⟨hc0,rfl,hst⟩|⟨hne,S2,n,ls,rfl,hO,hst⟩)
 ·-- no catalog at all
  obtain⟨F2,st8,keep8⟩:=st7.step hst;have hs8:=keep8 _ hs7;refine⟨(0,0,()),rfl,?_⟩;have hr:zX c1=[]:=by rw[hc0];rfl
  have hG1:Great S1 [] [] none:=by
   have:=hP.great;rw[hr]at this;exact this
  refine zZ (ls:=xc) (yZ X Y) hs8.now.2 (by rfl) ?_;refine zb (zbm (R:=[]) (H:=[]) (M:=none) st8.sp (hs8.mono fun _ h=>h.1) (by omega) (by omega) hG1 (fun v hv=>by rw[hr]at hv;cases hv) (fun v hv=>by rw[hr]at hv;cases hv)) ?_;rintro _ w9 ⟨rfl,c',hG,hst9,hcn⟩;obtain⟨F3,st9,keep9⟩:=st8.step hst9;have hs9:=keep9 _ hs8;refine⟨_,rfl,?_⟩;refine zZ (ls:=xc) (yZ X Y) hs9.now.2 (by rfl) ?_;have hfr3:({ S1 with now:=c' }:Spa).zY=S1.zY:=zfa (l:=zX c1) (fun v hv=>by rw[hr]at hv;cases hv) hcn;refine zb (jX (R:=[]) (H:=[]) (M:=none) st9.sp (hs9.mono fun _ h=>h.1) hcat hG (by show S1.dev.pen.length<=_;omega) (by show 204<=S1.r0;omega) (by show _<=qm S1.r0;rw[hr0,ze8];omega) (by rw[hfr3];show S1.sup.pages.length+nparts S1.r0 _+4<=_;rw[hsup,hr0];omega) (fun v hv=>by rw[hr]at hv;cases hv)) ?_;rintro _ w10 (⟨_,rfl,hst10⟩|⟨hne,_⟩);rotate_left
  ·exact absurd hc0 hne
  obtain⟨F4,st10,keep10⟩:=st9.step hst10;refine⟨(0,0,()),rfl,zd (by rfl) (zd (by rfl) (zd (by rfl) ?_))⟩;have hG0:Great { S1 with now:=c' } [] [] none:=by
   rw[hr]at hG;exact hG
  exact zdP (n:=0) (m:=0) st10 (.inl ⟨hc0,rfl,rfl,hG0⟩) hI (keep10 _ hs9)
 ·obtain⟨F2,st8,keep8⟩:=st7.step hst;have hs8:=keep8 _ hs7;refine⟨((n:Int),0,()),rfl,?_⟩;have hmk:=hO.made;have hfew:=hO.few;rw[hr0]at hfew;have hone:∀ v∈zX c1,S2.now.getD v 0=1:=fun v hv=>by
   rw[hmk.now];split
   ·rfl
   ·exact hP.one v hv
  have hu1:∀ v∈zX c1,zE S2.sup.pages S2.now v=true:=fun v hv=>by
   obtain⟨a1,a2,a3⟩:=zA.1 (hP.great.good.well.root v hv);exact zA.2 ⟨a1,by rw[hmk.sup];exact a2,by rw[hone v hv];omega⟩
  have hun:=hO.great.good.well.root n mem_cons_self;have hn0:n≠0:=by have:=(zA.1 hun).1;omega
  refine zZ (ls:=xc) (yZ X Y) hs8.now.2 (by rfl) ?_;refine zb (zbm (R:=[n]) (H:=[]) (M:=none) st8.sp (hs8.mono fun _ h=>h.1) (by omega) (by omega) hO.great hu1 (fun v hv=>by rw[hone v hv];omega)) ?_;rintro _ w9 ⟨rfl,c',hG,hst9,hcn⟩;obtain⟨F3,st9,keep9⟩:=st8.step hst9;have hs9:=keep9 _ hs8;refine⟨_,rfl,?_⟩;refine zZ (ls:=xc) (yZ X Y) hs9.now.2 (by rfl) ?_;have hfr3:({ S2 with now:=c' }:Spa).zY=S2.zY:=zfa (l:=zX c1) hu1 hcn;have hfr2:=hmk.free;have hpen2:=hmk.pen;have hr2:S2.r0=238:=hmk.r0.trans hr0;have hsup2:S2.sup.pages.length=3:=by rw[hmk.sup];exact hsup
  refine zb (jX (R:=[n]) (H:=[]) (M:=none) st9.sp (hs9.mono fun _ h=>h.1) hcat hG (by show S2.dev.pen.length<=_;omega) (by show 204<=S2.r0;omega) (by show _<=qm S2.r0;rw[hr2,ze8];omega) (by rw[hfr3];show S2.sup.pages.length+nparts S2.r0 _+4<=_;rw[hsup2,hr2];omega) (fun v hv=>by
   have h1:c'.getD v 0=_:=hcn v
   have h2:=List.count_le_length (a:=v) (l:=zX c1)
   show c'.getD v 0<65535
   rw[h1,hone v hv]
   omega)) ?_
  rintro _ w10 (⟨hc0,_⟩|⟨_,S4,m,ls2,rfl,hO2,hst10⟩)
  ·exact absurd hc0 hne
  obtain⟨F4,st10,keep10⟩:=st9.step hst10;refine⟨((m:Int),0,()),rfl,zd (by rfl) (zd (by rfl) (zd (by rfl) ?_))⟩;have hm0:m≠0:=by have:=(zA.1 (hO2.great.good.well.root m mem_cons_self)).1;omega
  have hun3:zE ({ S2 with now:=c' }:Spa).sup.pages ({ S2 with now:=c' }:Spa).now n=true:=hG.good.well.root n (by simp);have hpn:kI S4 n c1:=kI.mk_ (hO.pg.now (c':=c')) hO2.made hG.good hun3;exact zdP (n:=n) (m:=m) st10 (.inr ⟨hn0,hm0,hpn,hO2.great.perm (List.Perm.swap n m [])⟩) hI (keep10 _ hs9)
end V
end Go.Proofs.YtplgodmmmppmeaaGreat
