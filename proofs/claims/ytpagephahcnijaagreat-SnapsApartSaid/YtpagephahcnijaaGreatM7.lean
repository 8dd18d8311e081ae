/- Texts of mine, merged (wip/tool/mergep.py): KShare, KGet6, CatN, KSnaps, KSnaps2, KSnaps3, KCell, KSchema3, KRChk, L, L2, L3, L4, LStay, LNone, LApart. -/
import Derived.Test.YtpagephahcnijaaGreatM6
import Derived.Test.YtpagephahcnijaaGreatM1
import Derived.Test.YtpagephahcnijaaGreatChecked
import Derived.Test.YtpagephahcnijaaGreatM3
import Derived.Test.YtpagephahcnijaaGreatM5
open Go.IntKind (wrap)
open Go.Proofs.Tryz (prog)
open List (mem_cons_self mem_cons_of_mem mem_cons length_cons map_map mem_append mem_append_left mem_append_right drop_drop mem_range mem_of_getElem? getElem_mem mem_iff_getElem map_cons mem_map append_assoc nodup_cons foldl_cons length_nil append_nil length_map nil_append length_set eq_nil_of_length_eq_zero range_succ map_congr_left length_append drop_of_length_le take_of_length_le getD_eq_getElem?_getD mem_singleton length_take drop_eq_getElem_cons length_drop take_succ_eq_append_getElem take_add_one not_mem_nil map_append take_left' length_replicate drop_left' flatMap_cons length_range getElem_range flatMap_append length_singleton count_cons count_eq_zero)
set_option linter.unusedVariables false
set_option linter.unusedSimpArgs false
namespace Go.Proofs.YtpagephahcnijaaGreat
/- Contracts of the package catalog:Share. -/
namespace V
open Go Go.Proofs Go.RowKit Crc
variable {w w':World} {b db:Nat} {S:Spa} {F:Nat->Prop} {R H:List Nat} {M:Option (List Nat)}
theorem zd7 (x y:SLC) (c:Cat):(z7 x y c).map (fun p=>p.2.2)=z8 c:=by
 have:=zcd x y c;unfold z8;rw[<- this,map_map];rfl
theorem zmh {x y:SLC} {c:Cat} {Asp:Option Addr} {n k i:Nat} {B0:Nat} {K:Int->WP} (hC:yK w x y c) (hs:Owni spE 135 w B0 Asp n k ((z7 x y c).map spP)) (hi:i<(z7 x y c).length) (hn:n=(z7 x y c).length)
  (hK:∀ w' (p:Spt),Ext w w'->(z7 x y c)[i]?=some p->K (p.2.2:Int) w'):
  (zc (0<=(i:Int)/\(i:Int)<((n:Nat):Int))<|
   zh Asp fun(p5:Addr)=>
   zl [(.int .u64),.ptr] (p5.add (Int.toNat (i:Int)*2)) fun(u6:(Int×Option Addr×Unit))=>
   zi (.cells #[(.int .u64 (0:Int)),(.pointer none)] 135) fun(r7:Nat)=>
   zc ((#[(.int .u64 u6.1),(.pointer u6.2.1)]:Array Value).size=2)<|
   zq (aD r7) [(.int .u64 u6.1),(.pointer u6.2.1)]<|
   ldW .ptr ((aD r7).add 1) fun(u8:Option Addr)=>
   zh u8 fun(p9:Addr)=>ldW (.int .u32) p9 K) w:=by
 have eg:(z7 x y c)[i]?=some ((z7 x y c)[i]'hi):=List.getElem?_eq_getElem hi;have hmem:(z7 x y c)[i]'hi∈z7 x y c:=getElem_mem hi;generalize (z7 x y c)[i]'hi=p at *;refine xQ hs.sl (by omega) (x:=spP p) (by rw[Int.toNat_natCast,List.getElem?_map,eg];rfl) rfl ?_;intro pa hpa hca;refine qn (ls:=[.int .u64,.ptr]) (x:=((p.1:Int),some p.2.1,())) hca ?_;refine yh (vs:=[.int .u64 (p.1:Int),.pointer (some p.2.1)]) (by rfl) (by
  intro v hv
  simp only [mem_cons,not_mem_nil,or_false]at hv
  rcases hv with rfl|rfl<;>rfl) (fun r7 w1 hb1 he1 hr1=>?_) (by rfl)
 refine zm 1 (some p.2.1) hb1 (by rfl) (zu ?_);exact zaW (l:=.int .u32) (x:=((p.2.2:Nat):Int)) (he1.cell (zbe hC p hmem)) (hK w1 p he1 eg)
theorem zf5 (h:z6 w b db S F) {x y:SLC} {c:Cat} (hC:Safe F w fun w=>yK w x y c) (h1:c.1.length<=1000) (h2:c.2.length<=1000) (hg:Great S R H M) (hu:∀ v∈z8 c,zE S.sup.pages S.now v=true) (h6:∀ v∈z8 c,S.now.getD v 0+(z8 c).length<65535):
  Calls prog 35 #[.pointer (some ⟨b,0,none⟩),.agg (zF x y).toArray] w (Ret fun v w'=>v=.int .i64 0/\∃ c':List Nat,Great { S with now:=c' } (z8 c++R) H M/\yO w b db F { S with now:=c' } w'/\∀ k,c'.getD k 0=S.now.getD k 0+(z8 c).count k):=by
 apply zpk;unfold S35;have hFlt:=h.lt;refine zp fun r1 w1 hb1 he1 hr1 hz1=>?_;have hb1:Blk w1 r1 (zF x y) 30:=hb1;refine zb (zbd hb1 (hC.now.ext he1) h1 h2) ?_;rintro _ w2 ⟨Asp,ksp,rfl,hsp,he2⟩;refine⟨(Asp,(z7 x y c).length,ksp),rfl,?_⟩;have he02:=he1.trans he2;have hs1:=he1.size;have hrs:=zd7 x y c;have hspl:=zaN x y c;have hkv:=zfo c;have hrl:(z8 c).length=(z7 x y c).length:=by rw[<- hrs,length_map]
 have hsafe:Safe F w2 (fun w=>yK w x y c/\Owni spE 135 w w1.heap.size Asp (z7 x y c).length ksp ((z7 x y c).map spP)):=fun w3 o=>⟨(hC.ext he02) w3 o,hsp.only o (fun j hj hf=>by have:=hsp.row j hj;have:=hFlt j hf;omega)⟩;refine zy (fun q w'=>∃ (i:Nat) (F':Nat->Prop) (c':List Nat),i<=(z7 x y c).length/\q=((i:Int),())/\z6 w' b db { S with now:=c' } F'/\(∀ k,F' k->F k\/w.heap.size<=k)/\Only F w w'/\Great { S with now:=c' } (((z8 c).take i).reverse++R) H M/\(∀ k,c'.getD k 0=S.now.getD k 0+((z8 c).take i).count k)/\Safe F' w' (fun w=>yK w x y c/\Owni spE 135 w w1.heap.size Asp (z7 x y c).length ksp ((z7 x y c).map spP))) (fun q=>((z7 x y c).length-q.1).toNat)
  ⟨0,F,S.now,by omega,rfl,h.ext he02,fun k hk=>.inl hk,Only.zz he02,by exact hg,fun k=>by simp,hsafe⟩ ?_
 rintro _ w3 ⟨i,F',c',hi,rfl,g1,g2,g3,g4,g5,g6⟩;dsimp only
 by_cases hlt:i<(z7 x y c).length
 ·refine zf (decide_eq_true (by omega)) ?_;refine zmh g6.now.1 g6.now.2 hlt rfl ?_;intro w4 p he4 hp;have hpr:(z8 c)[i]?=some p.2.2:=by rw[<- hrs,List.getElem?_map,hp];rfl
  have hmem:=mem_of_getElem? hpr;have hcnt:((z8 c).take i).count p.2.2<=(z8 c).length:=by
   have:=List.count_le_length (a:=p.2.2) (l:=(z8 c).take i);rw[length_take]at this;omega
  have h6':=h6 _ hmem;have huu:=hu _ hmem;have hu':zE S.sup.pages c' p.2.2=true:=by
   obtain⟨u1,u2,u3⟩:=zC.1 huu;exact zC.2 ⟨u1,u2,by rw[g5];omega⟩
  have h65:c'.getD p.2.2 0<65535:=by rw[g5];omega
  refine zb (zhX (g1.ext he4) (n:=p.2.2) g4 (by exact hu') (by exact h65)) ?_;rintro _ w5 ⟨rfl,hG,F5,k1,k2,k3⟩;refine⟨_,rfl,zd (by rfl) ?_⟩;have hw:wrap .i64 ((i:Int)+1)=((i+1:Nat):Int):=by rw[wrap_i64 (by omega) (by omega)];rfl
  rw[hw];have o35:Only F' w3 w5:=Only.trans (Only.zz he4) k3 (fun j hj=>.inl hj);have hs4:=he4.size;have htk:(z8 c).take (i+1)=(z8 c).take i++[p.2.2]:=by
   have hlt':i<(z8 c).length:=by omega
   rw[take_succ_eq_append_getElem hlt'];rw[List.getElem?_eq_getElem hlt']at hpr;injection hpr with hpr
   rw[hpr]
  have hnN:p.2.2<c'.length:=by
   have h1:=g4.good.well.lt hu';have h2:=g4.good.ok.now;have h3:({ S with now:=c' }:Spa).now.length=({ S with now:=c' }:Spa).N:=h2;have h4:p.2.2<({ S with now:=c' }:Spa).N:=h1;have h5:c'.length=({ S with now:=c' }:Spa).N:=h3;omega
  refine⟨⟨i+1,F5,_,by omega,rfl,k1,fun k hk=>?_,Only.trans g3 o35 (fun j hj=>by
   have:=g2 j hj
   exact this),by rw[htk,List.reverse_append];exact hG,fun k=>?_,g6.step o35 (fun k hk=>?_)⟩,by omega⟩
  ·rcases k2 k hk with e|e
   ·exact g2 k e
   ·have:=g3.2.2.2.1;exact .inr (by omega)
  ·rw[yn,htk,List.count_append,List.count_singleton]
   by_cases e:p.2.2=k
   ·subst e;rw[if_pos ⟨rfl,hnN⟩,g5];simp;omega
   ·rw[if_neg (fun e'=>e e'.1),g5];simp[e]
  ·rcases k2 k hk with e|e
   ·exact .inl e
   ·exact .inr (by omega)
 ·obtain rfl:i=(z7 x y c).length:=by omega
  refine zd (decide_eq_false (by omega)) ?_;rw[take_of_length_le (by omega)]at g4 g5;exact⟨rfl,c',g4.perm (by exact(List.reverse_perm _).append_right R),⟨F',g1,g2,g3⟩,g5⟩
end V
/- Contracts of the package catalog:Get of no page;of a page that can not be got. -/
namespace V
open Go Go.Proofs Go.RowKit Crc
variable {w w':World} {b db:Nat} {S:Spa} {F:Nat->Prop} {R:List Nat}
theorem zgU (w:World) (p:Option Addr):Calls prog 43 #[.pointer p,.int .u32 0] w (Ret fun v w'=>v=.tuple #[.agg (zF (none,0,0) (none,0,0)).toArray,.int .i64 0]/\Ext w w'):=by
 apply zfJ;unfold S43;refine zp fun r1 w1 hb1 he1 hr1 hz1=>?_;refine zf (by rfl) ?_;refine refill (vs:=zF (none,0,0) (none,0,0)) hb1 (by rfl) (yw _ _) (by rfl) ?_;intro w2 hb2 hx2 hk2 hz2;refine zS (ls:=yH) (yF (none,0,0) (none,0,0)) hb2 (by rfl) ⟨rfl,hx2 w he1 (by omega)⟩
theorem zor (h:z6 w b db S F) {n:Nat} (hn:n<4294967296) (he:(S.get n).2≠0):
  Calls prog 157 #[.pointer (some ⟨b,0,none⟩),.int .u32 (n:Int)] w (Ret fun v w'=>(∃ a1 a2 a3 a4:Value,v=.tuple #[.agg #[.int .u8 0,.slice none 0 0,.slice none 0 0,.slice none 0 0],.int .i64 (S.get n).2])/\Ext w w'):=by
 apply zhx;unfold S157;refine zp fun r1 w1 hb1 he1 hr1 hz1=>?_;refine zb (zfc (h.ext he1) hn) ?_;rintro _ w2 ⟨y,rfl,ho,he2⟩;refine⟨(pgT (S.get n).1 y,(S.get n).2,()),rfl,?_⟩;refine yh (vs:=pgV (S.get n).1 y) (by rfl) (jo _ _) (fun r2 w3 hb3 he3 hr3=>?_) (by rfl);refine zf (bne_iff_ne.2 he) ?_;refine refill (vs:=[.int .u8 0,.slice none 0 0,.slice none 0 0,.slice none 0 0]) ((hb1.ext he2).ext he3) (by rfl) (by
  intro v hv
  simp only [mem_cons,not_mem_nil,or_false]at hv
  rcases hv with rfl|rfl|rfl|rfl<;>rfl) (by rfl) ?_
 intro w4 hb4 hx4 hk4 hz4;exact zS (ls:=[.int .u8,.slc,.slc,.slc]) (0,(none,0,0),(none,0,0),(none,0,0),()) hb4 (by rfl) ⟨⟨.bool true,.bool true,.bool true,.bool true,rfl⟩,hx4 w ((he1.trans he2).trans he3) (by omega)⟩
theorem zos (h:z6 w b db S F) {n:Nat} (hn:n<4294967296) (he:(S.get n).2≠0):
  Calls prog 126 #[.pointer (some ⟨b,0,none⟩),.int .u32 (n:Int),.int .i64 1,.bool true] w (Ret fun v w'=>v=.tuple #[.agg #[.int .i64 0,.int .u64 0,.int .u64 0,.int .u8 0,.int .i64 0],.int .i64 (S.get n).2]/\Ext w w'):=by
 apply zeo;unfold S126;have one5:∀ v∈[Value.int .i64 0,.int .u64 0,.int .u64 0,.int .u8 0,.int .i64 0],v.oneCell'=true:=by
  intro v hv;simp only [mem_cons,not_mem_nil,or_false]at hv;rcases hv with rfl|rfl|rfl|rfl|rfl<;>rfl
 refine zp fun r1 w1 hb1 he1 hr1 hz1=>?_;refine zb (zor (h.ext he1) hn he) ?_;rintro _ w2 ⟨⟨_,_,_,_,rfl⟩,he2⟩;refine⟨((0,(none,0,0),(none,0,0),(none,0,0),()),(S.get n).2,()),rfl,?_⟩;refine yh (vs:=[.int .u8 0,.slice none 0 0,.slice none 0 0,.slice none 0 0]) (by rfl) (by
  intro v hv
  simp only [mem_cons,not_mem_nil,or_false]at hv
  rcases hv with rfl|rfl|rfl|rfl<;>rfl) (fun r3 w3 hb3 he3 hr3=>?_) (by rfl)
 refine zf (bne_iff_ne.2 he) ?_;have hb1':=(hb1.ext he2).ext he3;refine zS (ls:=[.int .i64,.int .u64,.int .u64,.int .u8,.int .i64]) (0,0,0,0,0,()) hb1' (by rfl) ?_;refine refill (vs:=[.int .i64 0,.int .u64 0,.int .u64 0,.int .u8 0,.int .i64 0]) hb1' (by rfl) one5 (by rfl) ?_;intro w4 hb4 hx4 hk4 hz4;exact zS (ls:=[.int .i64,.int .u64,.int .u64,.int .u8,.int .i64]) (0,0,0,0,0,()) hb4 (by rfl) ⟨rfl,hx4 w ((he1.trans he2).trans he3) (by omega)⟩
theorem zk2 (h:z6 w b db S F) {n:Nat} (hn:n<4294967296) (hn0:n≠0) (he:(S.get n).2≠0):
  Calls prog 85 #[.pointer (some ⟨b,0,none⟩),.int .u32 (n:Int)] w (Ret fun v w'=>v=.int .i64 (S.get n).2/\Ext w w'):=by
 apply zjw;unfold S85;refine zd (by rfl) (zd (beq_eq_false_iff_ne.2 (by omega)) ?_);refine zb (zos h hn he) ?_;rintro _ w1 ⟨rfl,he1⟩;refine⟨((0,0,0,0,0,()),(S.get n).2,()),rfl,?_⟩;refine yh (vs:=[.int .i64 0,.int .u64 0,.int .u64 0,.int .u8 0,.int .i64 0]) (by rfl) (by
  intro v hv
  simp only [mem_cons,not_mem_nil,or_false]at hv
  rcases hv with rfl|rfl|rfl|rfl|rfl<;>rfl) (fun r3 w3 hb3 he3 hr3=>?_) (by rfl)
 exact⟨rfl,he1.trans he3⟩
theorem zk3 (h:z6 w b db S F) {n:Nat} (hn:n<4294967296) (hn0:n≠0) (he:(S.get n).2≠0):
  Calls prog 43 #[.pointer (some ⟨b,0,none⟩),.int .u32 (n:Int)] w (Ret fun v w'=>v=.tuple #[.agg (zF (none,0,0) (none,0,0)).toArray,.int .i64 (S.get n).2]/\Ext w w'):=by
 apply zfJ;unfold S43;refine zp fun r1 w1 hb1 he1 hr1 hz1=>?_;refine zd (beq_eq_false_iff_ne.2 (by omega)) ?_;refine zb (zk2 (h.ext he1) hn hn0 he) ?_;rintro _ w2 ⟨rfl,he2⟩;refine⟨_,rfl,zf (bne_iff_ne.2 he) ?_⟩;refine refill (vs:=zF (none,0,0) (none,0,0)) (hb1.ext he2) (by rfl) (yw _ _) (by rfl) ?_;intro w3 hb3 hx3 hk3 hz3;refine zS (ls:=yH) (yF (none,0,0) (none,0,0)) hb3 (by rfl) ⟨rfl,hx3 w (he1.trans he2) (by omega)⟩
end V
/- Catalogs' names,in order:plain. -/
namespace V
open Go Go.Proofs Go.RowKit Crc
end V
/- Contracts of the package snaps:Find,Names,Tables. -/
namespace V
open Go Go.Proofs Go.RowKit Crc
variable {w w':World} {b db:Nat} {S:Spa} {F:Nat->Prop} {R H:List Nat} {M:Option (List Nat)}
def zrj (g:FuncId) (cap:Array Value) (q:Nat->Bool) (w:World) (l:List Snp):Prop:=∀ (w':World) i,Ext w w'->i<l.length->Calls prog g ([Value.agg (zI.f (l.getD i zL)).toArray]++cap.toList).toArray w' (Ret fun v w''=>v=.bool (q i)/\Ext w' w'')
theorem zdp {x:SLC} {l:List Snp} {g:FuncId} {cap:Array Value} {q:Nat->Bool} (hg:enterable prog g=true) (h:Sli zI w x.1 x.2.1 l) (ht:zrj g cap q w l):
  Calls prog 33 #[.slice x.1 x.2.1 x.2.2,.func (.func g) #[] cap] w (Ret fun v w'=>v=.int .i64 (if yE q l.length<l.length then (yE q l.length:Int) else -1)/\Ext w w'):=by
 have hl:=h.len;have hle:=h.le;apply zpi;unfold S33;refine zy (fun y w'=>∃ i:Nat,i<=l.length/\y=((i:Int),())/\Ext w w'/\i<=yE q l.length) (fun y=>(l.length-y.1).toNat) ⟨0,by omega,rfl,Ext.refl w,by omega⟩ ?_;rintro _ w1 ⟨i,hi,rfl,he1,hf⟩;dsimp only
 by_cases hlt:i<l.length
 ·refine zf (decide_eq_true (by omega)) ?_;refine vl (E:=zI) za6 zL (h.ext he1) (fun _=>rfl) rfl (by omega) (by omega) ?_;rw[Int.toNat_natCast];refine xm hg ?_;refine zb (ht w1 i he1 hlt) ?_;rintro _ w2 ⟨rfl,he2⟩;refine⟨_,rfl,?_⟩;refine zg (fun hd=>?_) (fun hd=>?_)
  ·have hfi:yE q l.length=i:=by
    rcases Nat.lt_or_ge i (yE q l.length) with h1|h1
    ·have:=zb8 h1;rw[hd]at this;cases this
    ·omega
   refine⟨?_,he1.trans he2⟩;rw[hfi,if_pos hlt]
  ·rw[wrap_i64 (by omega) (by omega)];refine⟨⟨i+1,by omega,rfl,he1.trans he2,?_⟩,by omega⟩;rcases Nat.lt_or_ge i (yE q l.length) with h1|h1
   ·omega
   ·have hfi:yE q l.length=i:=by omega
    have:=zaL (q:=q) (n:=l.length) (by omega);rw[hfi,hd]at this;cases this
 ·obtain rfl:i=l.length:=by omega
  refine zd (decide_eq_false (by omega)) ?_;exact⟨by rw[if_neg (by omega)],he1⟩
def yj (c:Cat) (s:ByteArray):Nat:=yE (fun j=>decide (B (c.2.getD j zL).1=B s)) c.2.length
def jz (c:Cat) (s:ByteArray):Int×Int:=if yj c s<c.2.length then ((yj c s:Int),0) else (0,211)
theorem ziC {r:Snp} {b:Nat} {s:ByteArray} {t:TypeId} (hb:Blk w b [.string s] t):Calls prog 52 #[.agg (zI.f r).toArray,.pointer (some ⟨b,0,none⟩)] w (Ret fun v w'=>v=.bool (decide (B r.1=B s))/\Ext w w'):=by
 apply zpz;unfold S52;refine zp fun r1 w1 hb1 he1 hr1 hz1=>?_;have hb1:Blk w1 r1 (zI.f r) 64:=hb1;refine zJ r.1 hb1 (by rfl) (zJ s (hb.ext he1) (by rfl) ?_);exact⟨by rw[qh],he1⟩
theorem zd8 {x y:SLC} {c:Cat} (h:yK w x y c) (s:ByteArray):
  Calls prog 23 #[.agg (zF x y).toArray,.string s] w (Ret fun v w'=>v=.tuple #[.int .i64 (jz c s).1,.int .i64 (jz c s).2]/\Ext w w'):=by
 obtain⟨⟨raws,hT⟩,hs,hcx,hcy⟩:=h;apply zo9;unfold S23;refine zp fun r1 w1 hb1 he1 hr1 hz1=>?_;have hb1:Blk w1 r1 (zF x y) 30:=hb1;refine zp fun r2 w2 hb2 he2 hr2 hz2=>?_;have he:=he1.trans he2;refine zm 1 y (hb1.ext he2) (by rfl) ?_;refine zb (zdp (q:=fun j=>decide (B (c.2.getD j zL).1=B s)) (by kernel_rfl) (hs.ext he) (fun w' i he' hi=>ziC (hb2.ext he'))) ?_;rintro _ w3 ⟨rfl,he3⟩;refine⟨_,rfl,?_⟩;have hq:yE (fun j=>decide (B (c.2.getD j zL).1=B s)) c.2.length=yj c s:=rfl;rw[hq];unfold jz
 by_cases hlt:yj c s<c.2.length
 ·rw[if_pos hlt,if_pos hlt];exact zd (decide_eq_false (by omega)) ⟨rfl,he.trans he3⟩
 ·rw[if_neg hlt,if_neg hlt];exact zf (by rfl) ⟨rfl,he.trans he3⟩
theorem ziD {r:Snp}:Calls prog 51 #[.agg (zI.f r).toArray] w (Ret fun v w'=>v=.string r.1/\Ext w w'):=by
 apply zpy;unfold S51;refine zp fun r1 w1 hb1 he1 hr1 hz1=>?_;exact zJ r.1 hb1 (by rfl) ⟨rfl,he1⟩
theorem zdq {x y:SLC} {c:Cat} (h:yK w x y c) (hn:c.2.length<=1000):
  Calls prog 22 #[.agg (zF x y).toArray] w (Ret fun v w'=>(∃ A k,v=.slice A c.2.length k/\Owni yI 9 w' w.heap.size A c.2.length k (c.2.map fun s=>s.1))/\Ext w w'):=by
 obtain⟨_,hs,hcx,hcy⟩:=h;have hyl:=hs.len;apply zo8;unfold S22;refine zp fun r1 w1 hb1 he1 hr1 hz1=>?_;have hb1:Blk w1 r1 (zF x y) 30:=hb1;refine zm 1 y hb1 (by rfl) ?_;refine zb (R:=fun v w'=>(∃ A k,v=.slice A c.2.length k/\Owni yI 9 w' w.heap.size A c.2.length k (c.2.map fun s=>s.1))/\Ext w w') ?_ ?_
 ·apply zpx;unfold S50;have hs1:=he1.size;refine zy (fun q w'=>∃ (i:Nat) (A:Option Addr) (k:Nat),i<=c.2.length/\q=((A,i,k),(i:Int),())/\Ext w w'/\Owni yI 9 w' w.heap.size A i k ((c.2.take i).map fun s=>s.1)) (fun q=>(c.2.length-q.2.1).toNat) ⟨0,none,0,by omega,rfl,he1,Owni.nil _ _ _⟩ ?_;rintro _ w2 ⟨i,A,k,hi,rfl,he2,ho⟩;dsimp only
  by_cases hlt:i<c.2.length
  ·refine zf (decide_eq_true (by omega)) ?_;refine vl (E:=zI) za6 zL (hs.ext he2) (fun _=>rfl) rfl (by omega) (by omega) ?_;rw[Int.toNat_natCast];refine yh (vs:=zI.f (c.2.getD i zL)) (by rfl) (zI.one _) (fun r5 w3 hb3 he3 hr3=>?_) (by rfl);refine zS (ls:=zfk) (za6 (c.2.getD i zL)) hb3 (by rfl) ?_;refine xm (by kernel_rfl) ?_;refine zb ziD ?_;rintro _ w4 ⟨rfl,he4⟩;refine⟨_,rfl,?_⟩;have he24:=he3.trans he4;have hw:wrap .i64 ((i:Int)+1)=((i+1:Nat):Int):=by rw[wrap_i64 (by omega) (by omega)];rfl
   rw[hw];refine yT (E:=yI) (ys:=[(c.2.getD i zL).1]) (by rfl) rfl zkd (ho.ext he24) (he2.trans he24).size (by omega) (by omega) ?_;intro A' k' w5 ho5 hg5;refine⟨⟨i+1,A',k',by omega,rfl,(he2.trans he24).grown hg5.grown ho.row,?_⟩,by omega⟩;rw[zg4 (d:=zL) hlt,map_append];exact ho5
  ·obtain rfl:i=c.2.length:=by omega
   refine zd (decide_eq_false (by omega)) ?_;rw[take_of_length_le (Nat.le_refl _)]at ho;exact⟨⟨A,k,rfl,ho⟩,he2⟩
 ·rintro _ w2 ⟨⟨A,k,rfl,ho⟩,he2⟩;exact⟨(A,c.2.length,k),rfl,⟨A,k,rfl,ho⟩,he2⟩
inductive zdr (S:Spa) (n:Nat):Cat->Int->Prop
 |none:n=0->zdr S n za5 0
 |cat {c:Cat} {R:List Nat}:zdE S n c->Good S R->zE S.sup.pages S.now n=true->zdr S n c 0
 |bad:n≠0->n<4294967296->(S.get n).2≠0->zdr S n za5 (S.get n).2
theorem zmi (h:z6 w b db S F) {n:Nat} {c:Cat} {e:Int} (hg:zdr S n c e):
  Calls prog 43 #[.pointer (some ⟨b,0,none⟩),.int .u32 (n:Int)] w (Ret fun v w'=>(∃ x y,v=.tuple #[.agg (zF x y).toArray,.int .i64 e]/\yx w' w.heap.size x y c)/\Ext w w'):=by
 cases hg with
 |none h0=>
  subst h0;refine(zgU w (some ⟨b,0,Option.none⟩)).mono (Ret.mono ?_);rintro v w' ⟨rfl,he⟩;exact⟨⟨_,_,rfl,zca _ _⟩,he⟩
 |cat hp hG hu=>exact ziv h hG hp hu
 |bad h0 h1 h2=>
  refine(zk3 h h1 h0 h2).mono (Ret.mono ?_);rintro v w' ⟨rfl,he⟩;exact⟨⟨_,_,rfl,zca _ _⟩,he⟩
theorem zcB (h:z6 w b db S F) {x y:SLC} {c:Cat} (hC:yK w x y c) {s:ByteArray} (hs:B s≠[]) {f:Cat} {e:Int} (hf:yj c s<c.2.length->zdr S (c.2.getD (yj c s) zL).2 f e):
  Calls prog 15 #[.pointer (some ⟨b,0,none⟩),.agg (zF x y).toArray,.string s] w (Ret fun v w'=>((yj c s<c.2.length/\e=0/\∃ X Y,v=.tuple #[.slice X.1 X.2.1 X.2.2,.int .i64 0]/\yx w' w.heap.size X Y f)\/(yj c s<c.2.length/\e≠0/\v=.tuple #[.slice none 0 0,.int .i64 e])\/(¬yj c s<c.2.length/\v=.tuple #[.slice none 0 0,.int .i64 211]))/\Ext w w'):=by
 have hyl:=hC.2.1.len;apply zo1;unfold S15;refine zp fun r1 w1 hb1 he1 hr1 hz1=>?_;have hb1:Blk w1 r1 (zF x y) 30:=hb1;refine zd (by rw[zgz,decide_eq_false hs]) ?_;refine zS (ls:=yH) (yF x y) hb1 (by rfl) ?_;refine zb (zd8 (hC.ext he1) s) ?_;rintro _ w2 ⟨rfl,he2⟩;refine⟨((jz c s).1,(jz c s).2,()),rfl,?_⟩;have he02:=he1.trans he2
 by_cases hlt:yj c s<c.2.length
 ·have e1:jz c s=((yj c s:Int),0):=by unfold jz;rw[if_pos hlt]
  rw[e1];refine zd (by rfl) (zm 1 y (hb1.ext he2) (by rfl) ?_);dsimp only;refine zaE (E:=zI) 1 (fun e:Snp=>((e.2:Nat):Int)) zL (hC.2.1.ext he02) (fun _=>rfl) rfl (by omega) (by omega) ?_;rw[Int.toNat_natCast];refine zb (zmi (h.ext he02) (hf hlt)) ?_;rintro _ w3 ⟨⟨X,Y,rfl,hO⟩,he3⟩;refine⟨(yF X Y,e,()),rfl,?_⟩;refine yh (vs:=zF X Y) (by rfl) (yw _ _) (fun r10 w4 hb4 he4 hr4=>?_) (by rfl);have he04:=(he02.trans he3).trans he4;refine zg (fun hq=>⟨.inr (.inl ⟨hlt,bne_iff_ne.1 hq,rfl⟩),he04⟩) (fun hq=>?_);refine zJ X hb4 (by rfl) ⟨.inl ⟨hlt,bne_eq_false_iff_eq.1 hq,X,Y,rfl,(hO.ext he4).lower he02.size⟩,he04⟩
 ·have e1:jz c s=(0,211):=by unfold jz;rw[if_neg hlt]
  rw[e1];exact zf (by rfl) ⟨.inr (.inr ⟨hlt,rfl⟩),he02⟩
end V
/- Contracts of the package snaps:Freeze,Leave. -/
namespace V
open Go Go.Proofs Go.RowKit Crc
variable {w w':World} {b db:Nat} {S:Spa} {F:Nat->Prop} {R H:List Nat} {M:Option (List Nat)}
theorem yx.box {B0 r:Nat} {X Y:SLC} {c:Cat} {cs:List Value} (h:yx w B0 X Y c) (hb:Blk w r cs 30) (o:Only (fun k=>k=r) w w'):yx w' B0 X Y c:=by
 obtain⟨⟨raws,hT⟩,hS⟩:=h;refine⟨⟨raws,hT.row.only o (fun j hj e=>Owni.neB hT.row hb (by decide) j hj e),hT.len,fun i hi=>?_⟩,hS.only o (fun j hj e=>Owni.neB hS hb (by decide) j hj e)⟩;have hE:=hT.at_ i hi;exact⟨hE.name,hE.rest,hE.cols.only o (fun j hj e=>Owni.neB hE.cols hb (by decide) j hj e)⟩
theorem yA.snap {B0 B1 n k:Nat} {X:SLC} {raws:List Raw} {es:List Ent} {A:Option Addr} {ss:List Snp} (h:yA w B0 X raws es) (hs:Owni zI 64 w B1 A n k ss) (o:Only (fun k=>orow A=some k) w w'):yA w' B0 X raws es:=
 ⟨h.row.only o (fun q hq e=>h.row.ne hs (by decide) q hq e),h.len,fun i hi=>⟨(h.at_ i hi).name,(h.at_ i hi).rest,(h.at_ i hi).cols.only o (fun q hq e=>(h.at_ i hi).cols.ne hs (by decide) q hq e)⟩⟩
def xj (c:Cat) (s:ByteArray):Nat:=yE (fun j=>!(ltB (B (c.2.getD j zL).1) (B s))) c.2.length
def vz (c:Cat) (s:ByteArray):Prop:=xj c s<c.2.length/\B (c.2.getD (xj c s) zL).1=B s
theorem zf6 {r:Snp} {b:Nat} {s:ByteArray} {t:TypeId} (hb:Blk w b [.string s] t):Calls prog 34 #[.agg (zI.f r).toArray,.pointer (some ⟨b,0,none⟩)] w (Ret fun v w'=>v=.bool (!(ltB (B r.1) (B s)))/\Ext w w'):=by
 apply zpj;unfold S34;refine zp fun r1 w1 hb1 he1 hr1 hz1=>?_;have hb1:Blk w1 r1 (zI.f r) 64:=hb1;refine zJ r.1 hb1 (by rfl) (zJ s (hb.ext he1) (by rfl) ?_);exact⟨by rw[zat],he1⟩
def alone (c:Cat):Cat:=(c.1,[])
structure zk4 (S:Spa) (c:Cat) (R H:List Nat) (M:Option (List Nat)):Prop where
 great:Great S R H M
 ok:x5 (alone c)=true
 used:∀ v∈z8 (alone c),zE S.sup.pages S.now v=true
 cnt:∀ v∈z8 (alone c),S.now.getD v 0+1000<65535
 pen:S.dev.pen.length<=500000
 r0:204<=S.r0
 most:(xU (alone c)).length<=qF S.r0
 free:S.sup.pages.length+nparts S.r0 (xU (alone c)).length+4<=S.zY
structure zg7 (S S':Spa) (c:Cat) (n:Nat) (R H:List Nat) (M:Option (List Nat)) (c1 ls:List Nat):Prop where
 cnt:∀ k,c1.getD k 0=S.now.getD k 0+(z8 (alone c)).count k
 made:Mk { S with now:=c1 } S' ls
 few:ls.length<=nparts S.r0 (xU (alone c)).length+4
 out:(c.1=[]/\n=0/\Great S' R H M)\/(c.1≠[]/\Great S' (n::R) H M/\zdE S' n (alone c))
theorem zfs {S:Spa} {c1 l:List Nat} {R H:List Nat} {M:Option (List Nat)} (hu:∀ v∈l,zE S.sup.pages S.now v=true) (hc:∀ k,c1.getD k 0=S.now.getD k 0+l.count k):({ S with now:=c1 }:Spa).zY=S.zY:=by
 have hf:∀ n,({ S with now:=c1 }:Spa).yG n=S.yG n:=by
  intro n;rw[Bool.eq_iff_iff,zU,zU];show c1.getD n 0=0/\_↔_;rw[hc];constructor
  ·rintro⟨h1,h2⟩;exact⟨by omega,h2⟩
  ·rintro⟨h1,h2⟩;refine⟨?_,h2⟩;have:l.count n=0:=by
    apply count_eq_zero.2;intro hm;have:=(zC.1 (hu n hm)).2.2;omega
   omega
 exact Nat.le_antisymm (uE rfl fun n hn=>by rw[<- hf];exact hn) (uE rfl fun n hn=>by rw[hf];exact hn)
def zrk (w:World) (b db:Nat) (S:Spa) (F:Nat->Prop) (c:Cat) (s:ByteArray) (R H:List Nat) (M:Option (List Nat)) (v:Value) (w':World):Prop:=
 (yi (B s)≠0/\v=.tuple #[.agg (zF (none,0,0) (none,0,0)).toArray,.int .i64 (yi (B s))]/\Ext w w')\/
 (yi (B s)=0/\vz c s/\v=.tuple #[.agg (zF (none,0,0) (none,0,0)).toArray,.int .i64 6]/\Ext w w')\/
 (yi (B s)=0/\¬vz c s/\16<=c.2.length/\v=.tuple #[.agg (zF (none,0,0) (none,0,0)).toArray,.int .i64 12]/\Ext w w')\/
 (yi (B s)=0/\¬vz c s/\c.2.length<16/\∃ X Y S' n c1 ls F',v=.tuple #[.agg (zF X Y).toArray,.int .i64 0]/\zg7 S S' c n R H M c1 ls/\z6 w' b db S' F'/\(∀ k,F' k->F k\/w.heap.size<=k)/\Only F w w'/\Safe F' w' (fun w=>yx w 0 X Y (c.1,c.2.insertIdx (xj c s) (s,n))))
theorem vR {w:World} {b n:Nat} {cs vs:List Value} {t:TypeId} {us:Array Value} {K:WP} (h:Blk w b cs t) (hl:vs.length=cs.length) (hv:∀ v∈vs,v.oneCell'=true) (hu:us.size=n)
  (hK:∀ w',Blk w' b vs t->Only (fun k=>k=b) w w'->K w'):(zc (us.size=n)<|zq (aD b) vs K) w:=by
 obtain⟨hst,hbl,hg⟩:=uQ h (o:=0) (vs:=vs) (by omega) hv;refine⟨hu,hst,hK _ ?_ (Only.zV hg (fun j hj=>.inl (by injection hj with hj;exact hj.symm)))⟩;rw[List.take_zero,nil_append,Nat.zero_add,List.drop_eq_nil_of_le (by omega),append_nil]at hbl;exact hbl
theorem zaw (h:z6 w b db S F) {x y:SLC} {c:Cat} {s:ByteArray} (hC:Safe F w fun w=>yK w x y c) (hlt:zaP c) (hH:yi (B s)=0->¬vz c s->c.2.length<16->zk4 S c R H M):
  Calls prog 13 #[.pointer (some ⟨b,0,none⟩),.agg (zF x y).toArray,.string s] w (Ret (zrk w b db S F c s R H M)):=by
 obtain⟨hl1,hl2,hl3⟩:=id hlt;have hC0:=hC.now;have hyl:=hC0.2.1.len;have hFlt:=h.lt;have one2:∀ v∈zF (none,0,0) (none,0,0),v.oneCell'=true:=yw _ _;apply zoZ;unfold S13;refine zp fun r1 w1 hb1 he1 hr1 hz1=>?_;have hb1:Blk w1 r1 (zF x y) 30:=hb1;refine zp fun r2 w2 hb2 he2 hr2 hz2=>?_;refine zp fun r3 w3 hb3 he3 hr3 hz3=>?_;have hb3:Blk w3 r3 (zF (none,0,0) (none,0,0)) 30:=hb3;have hb13:=(hb1.ext he2).ext he3;have hb23:=hb2.ext he3;have he03:=(he1.trans he2).trans he3;have hs03:=he03.size;have err:∀ {w4:World} {e:Int} {K:Value->WP},Ext w3 w4->(∀ w',Ext w w'->K (.tuple #[.agg (zF (none,0,0) (none,0,0)).toArray,.int .i64 e]) w')->
   (zc ((#[(.slice none 0 0),(.slice none 0 0)]:Array Value).size=2)<|
    zq (aD r3) [(.slice none 0 0),(.slice none 0 0)]<|
    zl [.slc,.slc] (aD r3) fun(u6:(SLC×SLC×Unit))=>K (.tuple #[(.agg #[(.slice u6.1.1 u6.1.2.1 u6.1.2.2),(.slice u6.2.1.1 u6.2.1.2.1 u6.2.1.2.2)]),(.int .i64 e)])) w4:=by
  intro w4 e K he hK;refine refill (vs:=zF (none,0,0) (none,0,0)) (hb3.ext he) (by rfl) one2 (by rfl) ?_;intro w5 hb5 hx5 hk5 hz5;exact zS (ls:=yH) (yF (none,0,0) (none,0,0)) hb5 (by rfl) (hK w5 (hx5 w (he03.trans he) (by omega)))
 refine zJ s hb23 (by rfl) ?_;refine zb (uI w3 s) ?_;rintro _ w4 ⟨rfl,he4⟩;refine⟨_,rfl,?_⟩;refine zg (fun hq=>err he4 fun w' he=>.inl ⟨bne_iff_ne.1 hq,rfl,he⟩) (fun hq=>?_);have hn0:yi (B s)=0:=bne_eq_false_iff_eq.1 hq;have he04:=he03.trans he4;refine zm 1 y (hb13.ext he4) (by rfl) ?_;refine zb (zdp (q:=fun j=>!(ltB (B (c.2.getD j zL).1) (B s))) (by kernel_rfl) (hC0.2.1.ext he04) (fun w' i he' hi=>zf6 ((hb23.ext he4).ext he'))) ?_;rintro _ w5 ⟨rfl,he5⟩;refine⟨_,rfl,?_⟩;have hpl:yE (fun j=>!(ltB (B (c.2.getD j zL).1) (B s))) c.2.length=xj c s:=rfl;rw[hpl];have hple:xj c s<=c.2.length:=zdl;have he35:=he4.trans he5;have hb15:=hb13.ext he35;have hb25:=hb23.ext he35;refine yq (fun q w'=>q=((xj c s:Int),())/\w'=w5) ?_ (fun J hJ=>?_);rotate_left
 ·by_cases hlt:xj c s<c.2.length
  ·rw[if_pos hlt];exact zd (decide_eq_false (by omega)) (hJ _ _ ⟨rfl,rfl⟩)
  ·rw[if_neg hlt];refine zf (by rfl) (zm 1 y hb15 (by rfl) (hJ _ _ ⟨?_,rfl⟩));rw[show y.2.1=xj c s by omega]
 rintro _ w5' ⟨rfl,hw5⟩;rw[hw5];dsimp only
 -- what is refused
 refine yq (fun _ w'=>Ext w5 w'/\¬vz c s/\c.2.length<16) ?_ (fun J12 hJ12=>?_);rotate_left
 ·refine yq (fun q w'=>∃ t:Bool,q=(t,())/\Ext w5 w'/\(t=true↔vz c s)) ?_ (fun J14 hJ14=>?_)
  ·rintro _ w6 ⟨t,rfl,he6,ht⟩;dsimp only;cases t with
   |true=>exact zf rfl (err (he35.trans he6) fun w' he=>.inr (.inl ⟨hn0,ht.1 rfl,rfl,he⟩))
   |false=>
    have hnt:¬vz c s:=fun hh=>by have:=ht.2 hh;cases this
    refine zd rfl (zm 1 y (hb15.ext he6) (by rfl) ?_);refine zg (fun hq=>err (he35.trans he6) fun w' he=>.inr (.inr (.inl ⟨hn0,hnt,by have:=of_decide_eq_true hq;omega,rfl,he⟩))) (fun hq=>?_);have:=of_decide_eq_false hq;exact hJ12 _ _ ⟨he6,hnt,by omega⟩
  ·refine zN fun w6 he6 hz6 hh6=>?_;refine zm 1 y (hb15.ext he6) (by rfl) ?_
   by_cases hlt:xj c s<c.2.length
   ·refine zf (decide_eq_true (by omega)) (zm 1 y (hb15.ext he6) (by rfl) ?_);refine vm (E:=zI) (fun e:Snp=>e.1) zL (hC0.2.1.ext ((he03.trans he35).trans he6)) (fun _=>rfl) rfl (by omega) (by omega) ?_;rw[Int.toNat_natCast];refine zJ s (hb25.ext he6) (by rfl) ?_;rw[qh];refine hJ14 _ _ ⟨_,rfl,he6,?_⟩;rw[decide_eq_true_iff];exact⟨fun e=>⟨hlt,e⟩,fun e=>e.2⟩
   ·refine zd (decide_eq_false (by omega)) (hJ14 _ _ ⟨false,rfl,he6,?_⟩);constructor
    ·intro e;cases e
    ·rintro⟨e,_⟩;exact absurd e hlt
 rintro _ w6 ⟨he6,hnt,hl16⟩;obtain⟨f1,f2,f3,f4,f5,f6,f7,f8⟩:=hH hn0 hnt hl16;have he36:=he35.trans he6;have he06:=he03.trans he36;have hb16:=hb15.ext he6;have hb26:=hb25.ext he6;refine zJ x hb16 (by rfl) ?_;refine yh (vs:=zF x (none,0,0)) (by rfl) (yw _ _) (fun r25 w7 hb7 he7 hr7=>?_) (by rfl);have he07:=he06.trans he7;have hCa:Safe F w7 (fun w=>yK w x (none,0,0) (alone c)):=(hC.ext he07).mono fun w3 hc=>⟨hc.1,Sli.nil _ _,hc.2.2.1,Nat.le_refl _⟩;refine zS (ls:=yH) (yF x (none,0,0)) hb7 (by rfl) ?_;have hrl:(z8 (alone c)).length<=16:=by
  have h1:=zfo (alone c);have h2:=(qU.1 f2).tabs;have h3:(z8 (alone c)).length=(kvC (alone c)).length:=by unfold z8;rw[length_map]
  have h4:(alone c).2.length=0:=rfl;omega
 refine zb (zf5 (c:=alone c) (h.ext he07) hCa (by show c.1.length<=1000;omega) (by show 0<=1000;omega) f1 f3 (fun v hv=>by have:=f4 v hv;omega)) ?_;rintro _ w8 ⟨rfl,c1,hG1,hst8,hc1⟩;refine⟨_,rfl,zd (by rfl) ?_⟩;obtain⟨F8,h8,hF8,o8⟩:=hst8;have hr1F:∀ {k:Nat},w.heap.size<=k->k<w7.heap.size->¬F8 k:=fun hk hk2 hf=>by
  rcases hF8 _ hf with e|e
  ·have:=hFlt _ e;omega
  ·omega
 have hs36:=he36.size;have hs7:=he7.size;have hb18:=(hb16.ext he7).only o8 (fun hf=>by have:=hFlt _ hf;omega);have hb28:=(hb26.ext he7).only o8 (fun hf=>by have:=hFlt _ hf;omega);have hb38:=((hb3.ext he36).ext he7).only o8 (fun hf=>by have:=hFlt _ hf;omega);have hb78:=hb7.only o8 (fun hf=>by have:=hFlt _ hf;omega);have hC8:=(hC.ext he07).step o8 hF8;have hCa8:Safe F8 w8 (fun w=>yK w x (none,0,0) (alone c)):=hCa.step o8 hF8;refine zS (ls:=yH) (yF x (none,0,0)) hb78 (by rfl) ?_;have hfn:({ S with now:=c1 }:Spa).zY=S.zY:=zfs (R:=R) (H:=H) (M:=M) f3 hc1;have hr0:({ S with now:=c1 }:Spa).r0=S.r0:=rfl;refine zb (zii (c:=alone c) h8 hCa8 f2 hG1 f5 f6 f7 (by rw[hfn];exact f8) (fun v hv=>by
  show c1.getD v 0<65535
  rw[hc1]
  have:=f4 v hv
  have:=List.count_le_length (a:=v) (l:=z8 (alone c))
  omega)) ?_
 intro v9 w9 hput;obtain⟨S',n,ls,rfl,hOk,hst9⟩:∃ (S':Spa) (n:Nat) (ls:List Nat),v9=.tuple #[.int .u32 (n:Int),.int .i64 0]/\zg7 S S' c n R H M c1 ls/\yO w8 b db F8 S' w9:=by
  rcases hput with ⟨h0,rfl,hst⟩|⟨h0,S',n,ls,rfl,hP,hst⟩
  ·have hc0:c.1=[]:=congrArg Prod.fst h0;refine⟨{ S with now:=c1 },0,[],rfl,⟨hc1,Mk.refl _,Nat.zero_le _,.inl ⟨hc0,rfl,?_⟩⟩,hst⟩;rw[h0]at hG1;exact hG1
  ·refine⟨S',n,ls,rfl,⟨hc1,hP.made,hP.few,.inr ⟨fun e=>h0 (Prod.ext e rfl),hP.great,hP.pg⟩⟩,hst⟩
 clear hput;refine⟨((n:Int),0,()),rfl,zd (by rfl) ?_⟩;obtain⟨F9,h9,hF9,o9⟩:=hst9;have hs8:=o8.2.2.2.1;have hnF8:∀ {k:Nat},w.heap.size<=k->k<w7.heap.size->¬F8 k:=hr1F;have hb19:=hb18.only o9 (hnF8 (by omega) (by omega));have hb29:=hb28.only o9 (hnF8 (by omega) (by omega));have hb39:=hb38.only o9 (hnF8 (by omega) (by omega));have hC9:=hC8.step o9 hF9;have hF9lt:=h9.lt;have hFF:∀ k,F9 k->F k\/w.heap.size<=k:=fun k hk=>by
  rcases hF9 k hk with e|e
  ·rcases hF8 k e with e|e
   ·exact .inl e
   ·exact .inr (by omega)
  ·exact .inr (by omega)
 have hOnly9:Only F w w9:=Only.trans (Only.trans (Only.zz he07) o8 (fun j hj=>.inl hj)) o9 (fun k hk=>by
  rcases hF8 k hk with e|e
  ·exact .inl e
  ·exact .inr (by omega))
 have hs9:=o9.2.2.2.1;refine zS (ls:=yH) (yF x y) hb19 (by rfl) ?_;refine zb (zcA hC9.now hlt) ?_;rintro _ w10 ⟨⟨X,Y,rfl,hO10⟩,he10⟩;refine⟨yF X Y,rfl,?_⟩;refine yh (vs:=zF X Y) (by rfl) (yw _ _) (fun r34 w11 hb11 he11 hr11=>?_) (by rfl);have hO11:=hO10.ext he11;have he911:=he10.trans he11;refine zm 1 Y hb11 (by rfl) (zJ s (hb29.ext he911) (by rfl) ?_);refine zp fun r37 w12 hb12 he12 hr12 hz12=>?_;have hO12:=hO11.ext he12;have he912:=he911.trans he12;have hs912:=he912.size;obtain⟨⟨raws,hT12⟩,hS12⟩:=hO12;have hYl:c.2.length=Y.2.1:=hS12.len;refine zb (zgT (x:=(s,n)) (i:=xj c s) hS12 (by omega) (by omega) (by omega) hb12 (fun e=>by have:=(hO11.2).ye _ e;omega)) ?_;rintro _ w13 ⟨A',k',rfl,ho13,o13⟩;refine⟨(A',Y.2.1+1,k'),rfl,?_⟩;have hT13:=hT12.snap hS12 o13;have hb3413:=(hb11.ext he12).only o13 (fun e=>Owni.neB hS12 (hb11.ext he12) (by decide) _ e rfl);have hrow:=hS12.row;have hb313:=(hb39.ext he912).only o13 (fun e=>Owni.neB hS12 (hb39.ext he912) (by decide) _ e rfl);show stW ((aD r34).add 1) _ _ w13;rw[zx];refine stE (o:=1) hb3413 rfl (by show 1<2;omega) ?_;intro w14 hb14 o14;have hb14:Blk w14 r34 (zF X (A',Y.2.1+1,k')) 30:=hb14;have hO13:yx w13 w9.heap.size X (A',Y.2.1+1,k') (c.1,c.2.insertIdx (xj c s) (s,n)):=⟨⟨raws,hT13⟩,ho13⟩;have hO14:=hO13.box hb3413 o14;refine zS (ls:=yH) (yF X (A',Y.2.1+1,k')) hb14 (by rfl) ?_;have h39:r3<w9.heap.size:=hb39.lt;have hb314:=hb313.only o14 (fun e=>by have:r3=r34:=e;have:=he10.size;omega);refine vR (vs:=zF X (A',Y.2.1+1,k')) hb314 (by rfl) (yw _ _) (by rfl) ?_;intro w15 hb15' hOx;have hlt3:r3<w14.heap.size:=hb314.lt;have hF9w:∀ {k:Nat},F9 k->k<w9.heap.size:=fun hf=>hF9lt _ hf;have o1214:Only (fun k=>w9.heap.size<=k) w9 w14:=by
  refine Only.trans (Only.trans (Only.zz he912) o13 (fun j hj=>.inl (hrow j hj))) o14 (fun j hj=>.inl ?_);have:j=r34:=hj;have:=he10.size;omega
 have hO15:=hO14.only hOx (fun k hk=>by have:k=r3:=hk;omega);have h915:Only (fun k=>w9.heap.size<=k\/k=r3) w9 w15:=Only.trans (o1214.mono fun k hk=>.inl hk) hOx (fun j hj=>.inl (.inr hj));refine zS (ls:=yH) (yF X (A',Y.2.1+1,k')) hb15' (by rfl) ?_;refine .inr (.inr (.inr ⟨hn0,hnt,hl16,X,(A',Y.2.1+1,k'),S',n,c1,ls,F9,rfl,hOk,h9.only h915 (fun k hk e=>?_),hFF,Only.trans hOnly9 h915 (fun k hk=>?_),fun w16 o16=>(hO15.only o16 (fun k hk=>hF9w hk)).lower (Nat.zero_le _)⟩))
 ·have:=hF9w hk;rcases e with e|e
  ·omega
  ·subst e;rcases hFF _ hk with e|e
   ·have:=hFlt _ e;omega
   ·rcases hF9 _ hk with e2|e2
    ·exact hnF8 (by omega) (by omega) e2
    ·omega
 ·rcases hk with e|e
  ·exact .inr (by have:=hOnly9.2.2.2.1;omega)
  ·exact .inr (by omega)
end V
/- Contracts of the package snaps:Leave. -/
namespace V
open Go Go.Proofs Go.RowKit Crc
variable {w w':World} {b db:Nat} {S:Spa} {F:Nat->Prop} {R H:List Nat} {M:Option (List Nat)}
def zrC (w:World) (b db:Nat) (S:Spa) (F:Nat->Prop) (c:Cat) (s:ByteArray) (R H:List Nat) (M:Option (List Nat)) (v:Value) (w':World):Prop:=
 (¬yj c s<c.2.length/\v=.tuple #[.agg (zF (none,0,0) (none,0,0)).toArray,.int .i64 211]/\Ext w w')\/
 (yj c s<c.2.length/\∃ X Y c' F',v=.tuple #[.agg (zF X Y).toArray,.int .i64 0]/\Great { S with now:=c' } R H M/\(∀ k,c'.getD k 0<=S.now.getD k 0)/\((c.2.getD (yj c s) zL).2≠0->Drp S.asked S.page S.now [(c.2.getD (yj c s) zL).2] c' 0)/\z6 w' b db { S with now:=c' } F'/\(∀ k,F' k->F k\/w.heap.size<=k)/\Only F w w'/\Safe F' w' (fun w=>yx w 0 X Y (c.1,c.2.eraseIdx (yj c s))))
theorem zd9 (h:z6 w b db S F) {x y:SLC} {c:Cat} {s:ByteArray} (hC:Safe F w fun w=>yK w x y c) (hlt:zaP c) (hH:yj c s<c.2.length->((c.2.getD (yj c s) zL).2=0/\Great S R H M)\/((c.2.getD (yj c s) zL).2≠0/\Great S ((c.2.getD (yj c s) zL).2::R) H M)):
  Calls prog 19 #[.pointer (some ⟨b,0,none⟩),.agg (zF x y).toArray,.string s] w (Ret (zrC w b db S F c s R H M)):=by
 obtain⟨hl1,hl2,hl3⟩:=id hlt;have hC0:=hC.now;have hyl:=hC0.2.1.len;have hFlt:=h.lt;apply zo5;unfold S19;refine zp fun r1 w1 hb1 he1 hr1 hz1=>?_;have hb1:Blk w1 r1 (zF x y) 30:=hb1;refine zp fun r2 w2 hb2 he2 hr2 hz2=>?_;have hb2:Blk w2 r2 (zF (none,0,0) (none,0,0)) 30:=hb2;have hb12:=hb1.ext he2;have he02:=he1.trans he2;have hs02:=he02.size;refine zS (ls:=yH) (yF x y) hb12 (by rfl) ?_;refine zb (zd8 (hC0.ext he02) s) ?_;rintro _ w3 ⟨rfl,he3⟩;refine⟨((jz c s).1,(jz c s).2,()),rfl,?_⟩;have he03:=he02.trans he3
 by_cases hf:yj c s<c.2.length
 rotate_left
 ·have e1:jz c s=(0,211):=by unfold jz;rw[if_neg hf]
  rw[e1];refine zf (by rfl) ?_;refine vR (vs:=zF (none,0,0) (none,0,0)) (hb2.ext he3) (by rfl) (yw _ _) (by rfl) ?_;intro w4 hb4 o4;exact zS (ls:=yH) (yF (none,0,0) (none,0,0)) hb4 (by rfl) (.inl ⟨hf,rfl,Only.ext he03 o4 (fun j hj=>by have:j=r2:=hj;omega)⟩)
 have e1:jz c s=((yj c s:Int),0):=by unfold jz;rw[if_pos hf]
 rw[e1];refine zd (by rfl) ?_;dsimp only;have hb13:=hb12.ext he3;have hb23:=hb2.ext he3;have hH:=hH hf;have hmem:c.2.getD (yj c s) zL∈c.2:=by rw[getD_eq_getElem?_getD,List.getElem?_eq_getElem hf];exact getElem_mem _
 generalize hn:(c.2.getD (yj c s) zL).2=n at *;have hs3:=he3.size;refine yq (fun _ w'=>∃ c' F',Great { S with now:=c' } R H M/\(∀ k,c'.getD k 0<=S.now.getD k 0)/\(n≠0->Drp S.asked S.page S.now [n] c' 0)/\z6 w' b db { S with now:=c' } F'/\(∀ k,F' k->F k\/w3.heap.size<=k)/\Only F w3 w') ?_ (fun J hJ=>?_);rotate_left
 ·refine zm 1 y hb13 (by rfl) ?_;refine zaE (E:=zI) 1 (fun e:Snp=>((e.2:Nat):Int)) zL (hC0.2.1.ext he03) (fun _=>rfl) rfl (by omega) (by omega) ?_;rw[Int.toNat_natCast,hn];rcases hH with ⟨h0,hG⟩|⟨h0,hG⟩
  ·refine zd (bne_eq_false_iff_eq.2 (by omega)) (hJ _ _ ⟨S.now,F,hG,fun k=>Nat.le_refl _,fun e=>absurd h0 e,h.ext he03,fun k hk=>.inl hk,Only.refl F _⟩)
  ·refine zf (bne_iff_ne.2 (by omega)) ?_;refine zb (zfS (h.ext he03) hG) ?_;rintro _ w4 ⟨rfl,c',hG',⟨F',k1,k2,k3⟩,hD,hle⟩;exact⟨_,rfl,zd (by rfl) (hJ _ _ ⟨c',F',hG',hle,fun _=>hD,k1,k2,k3⟩)⟩
 rintro _ w4 ⟨c',F',hG',hle,hD,h4,hF4,o4⟩;have hF4w:∀ k,F' k->F k\/w.heap.size<=k:=fun k hk=>by
  rcases hF4 k hk with e|e
  ·exact .inl e
  ·exact .inr (by omega)
 have nF:∀ {k:Nat},w.heap.size<=k->¬F k:=fun hk hf=>by have:=hFlt _ hf;omega
 have hO04:Only F w w4:=Only.trans (Only.zz he03) o4 (fun j hj=>.inl hj);have hC4:=(hC.ext he03).step o4 hF4;have hs4:=o4.2.2.2.1;have hb14:=hb13.only o4 (nF (by omega));have hb24:=hb23.only o4 (nF (by omega));have hF4lt:=h4.lt;refine zS (ls:=yH) (yF x y) hb14 (by rfl) ?_;refine zb (zcA hC4.now hlt) ?_;rintro _ w5 ⟨⟨X,Y,rfl,hO5⟩,he5⟩;refine⟨yF X Y,rfl,?_⟩;refine yh (vs:=zF X Y) (by rfl) (yw _ _) (fun r15 w6 hb6 he6 hr6=>?_) (by rfl);have hO6:=hO5.ext he6;have he46:=he5.trans he6;have hs46:=he46.size;refine zm 1 Y hb6 (by rfl) ?_;obtain⟨⟨raws,hT6⟩,hS6⟩:=hO6;have hYl:c.2.length=Y.2.1:=hS6.len;have hw1:wrap .i64 (((yj c s:Nat):Int)+1)=((yj c s+1:Nat):Int):=by rw[wrap_i64 (by omega) (by omega)];rfl
 rw[hw1];refine zb (zgS (i:=yj c s) hS6 (by omega) (by omega)) ?_;rintro _ w7 ⟨rfl,ho7,o7⟩;refine⟨(Y.1,Y.2.1-1,Y.2.2),rfl,?_⟩;have hT7:=hT6.snap hS6 o7;have hrow:=hS6.row;have hb67:=hb6.only o7 (fun e=>Owni.neB hS6 hb6 (by decide) _ e rfl);have hb26:=hb24.ext he46;have hb27:=hb26.only o7 (fun e=>Owni.neB hS6 hb26 (by decide) _ e rfl);show stW ((aD r15).add 1) _ _ w7;rw[zx];refine stE (o:=1) hb67 rfl (by show 1<2;omega) ?_;intro w8 hb8 o8;have hb8:Blk w8 r15 (zF X (Y.1,Y.2.1-1,Y.2.2)) 30:=hb8;have hO7:yx w7 w4.heap.size X (Y.1,Y.2.1-1,Y.2.2) (c.1,c.2.eraseIdx (yj c s)):=⟨⟨raws,hT7⟩,ho7⟩;have hO8:=hO7.box hb67 o8;refine zS (ls:=yH) (yF X (Y.1,Y.2.1-1,Y.2.2)) hb8 (by rfl) ?_;have h24:r2<w4.heap.size:=hb24.lt;have hb28:=hb27.only o8 (fun e=>by have:r2=r15:=e;have:=he5.size;omega);refine vR (vs:=zF X (Y.1,Y.2.1-1,Y.2.2)) hb28 (by rfl) (yw _ _) (by rfl) ?_;intro w9 hb9 o9;have o48:Only (fun k=>w4.heap.size<=k) w4 w8:=by
  refine Only.trans (Only.trans (Only.zz he46) o7 (fun j hj=>.inl (hrow j hj))) o8 (fun j hj=>.inl ?_);have:j=r15:=hj;have:=he5.size;omega
 have hO9:=hO8.only o9 (fun k hk=>by have:k=r2:=hk;omega);have h49:Only (fun k=>w4.heap.size<=k\/k=r2) w4 w9:=Only.trans (o48.mono fun k hk=>.inl hk) o9 (fun j hj=>.inl (.inr hj));refine zS (ls:=yH) (yF X (Y.1,Y.2.1-1,Y.2.2)) hb9 (by rfl) ?_;refine .inr ⟨hf,X,(Y.1,Y.2.1-1,Y.2.2),c',F',rfl,hG',hle,by rw[hn];exact hD,h4.only h49 (fun k hk e=>?_),hF4w,Only.trans hO04 h49 (fun k hk=>?_),fun w16 o16=>(hO9.only o16 (fun k hk=>hF4lt k hk)).lower (Nat.zero_le _)⟩
 ·have:=hF4lt k hk;rcases e with e|e
  ·omega
  ·subst e;rcases hF4 _ hk with e|e
   ·exact nF (by omega) e
   ·have:=hb23.lt;omega
 ·rcases hk with e|e
  ·exact .inr (by have:=hO04.2.2.2.1;omega)
  ·exact .inr (by omega)
end V
/- Cells,and whether they may be:contracts of value.Check and of the document's answer. -/
namespace V
open Go Go.Proofs Go.RowKit
end V
/- Contracts of rows,of what is taken and picked (schema),and of the document's answer. -/
set_option maxRecDepth 100000
namespace V
open Go Go.Proofs Go.RowKit
def vA:Col:=(ByteArray.empty,0,false)
theorem zcj {α:Type} {xs:List α} {i:Nat} {d:α} (h:i<xs.length):xs.getD i d=xs[i]:=by simp[h]
theorem zf7 {cs:List Col} {i:Nat} {s:ByteArray} (h:∀ k,k<i->k<cs.length->B (cs.getD k vA).1≠B s):((cs.take i).any fun d=>decide (B d.1=B s))=false:=by
 rw[List.any_eq_false];intro d hd;obtain⟨k,hk,rfl⟩:=mem_iff_getElem.1 hd;rw[length_take]at hk;have:=h k (by omega) (by omega);rw[zcj (by omega)]at this
 simpa using this
theorem zgV {w:World} {A:Option Addr} {n c:Nat} {cs:List Col} (h:Sli qe w A n cs):
  Calls prog 72 #[.slice A n c] w (Ret fun v w'=>v=.int .i64 (xo cs)/\Ext w w'):=by
 apply zpQ;unfold S72 xo;have hl:=h.len;refine zg (fun h1=>?_) (fun h1=>?_)
 ·have h1:=of_decide_eq_true h1;rw[if_pos (by omega)];exact⟨rfl,Ext.refl w⟩
 refine zg (fun h2=>?_) (fun h2=>?_)
 ·have h2:=of_decide_eq_true h2;rw[if_pos (by omega)];exact⟨rfl,Ext.refl w⟩
 have h1:=of_decide_eq_false h1;have h2:=of_decide_eq_false h2;rw[if_neg (by omega)];refine zy (fun x w'=>Ext w w'/\∃ i:Nat,i<=n/\x=((i:Int),())/\qf [] cs=qf (cs.take i) (cs.drop i)) (fun x=>(n-x.1).toNat) ⟨Ext.refl w,0,by omega,rfl,rfl⟩ ?_;rintro _ w' ⟨he,i,hi,rfl,hf⟩;dsimp only
 by_cases hlt:i<n
 ·refine zf (decide_eq_true (by omega)) ?_;have hg:cs.getD i vA=cs[i]:=zcj (by omega);have hdrop:cs.drop i=cs.getD i vA::cs.drop (i+1):=by rw[hg];exact drop_eq_getElem_cons (by omega)
  have htake:cs.take (i+1)=cs.take i++[cs.getD i vA]:=by rw[hg];exact take_succ_eq_append_getElem (by omega)
  rw[hdrop,qf]at hf;refine vm (l:=.str) (fun c=>c.1) vA (h.ext he) (fun _=>rfl) rfl (by omega) (by omega) ?_;rw[Int.toNat_natCast];refine zb (kG w' _) ?_;rintro _ w1 ⟨rfl,he1⟩;refine⟨_,rfl,?_⟩;have he1:=he.trans he1;refine zg (fun hn=>?_) (fun hn=>?_)
  ·have hn:yi (B (cs.getD i vA).1)≠0:=by simpa using hn
   rw[hf,if_pos hn];exact⟨rfl,he1⟩
  have hn:yi (B (cs.getD i vA).1)=0:=by simpa using hn
  rw[if_neg (fun hh=>hh hn)]at hf;refine zaE (l:=.int .i64) 1 (fun c=>c.2.1) vA (h.ext he1) (fun _=>rfl) rfl (by omega) (by omega) ?_;rw[Int.toNat_natCast];refine zg (fun hk=>?_) (fun hk=>?_)
  ·have hk:=of_decide_eq_true hk;rw[hf,if_pos (.inl hk)];exact⟨rfl,he1⟩
  have hk:=of_decide_eq_false hk;refine zaE (l:=.int .i64) 1 (fun c=>c.2.1) vA (h.ext he1) (fun _=>rfl) rfl (by omega) (by omega) ?_;rw[Int.toNat_natCast];refine zg (fun hk2=>?_) (fun hk2=>?_)
  ·have hk2:=of_decide_eq_true hk2;rw[hf,if_pos (.inr (.inl hk2))];exact⟨rfl,he1⟩
  have hk2:=of_decide_eq_false hk2;refine zy (fun x w'=>Ext w w'/\∃ k:Nat,k<=i/\x=((k:Int),())/\∀ j,j<k->j<cs.length->B (cs.getD j vA).1≠B (cs.getD i vA).1) (fun x=>(i-x.1).toNat) ⟨he1,0,by omega,rfl,fun j hj=>by omega⟩ ?_;rintro _ w2 ⟨he2,k,hki,rfl,hall⟩;dsimp only
  by_cases hkl:k<i
  ·refine zf (decide_eq_true (by omega)) ?_;refine zN fun w3 he3 _ _=>?_;have he3:=he2.trans he3;refine vm (l:=.str) (fun c=>c.1) vA (h.ext he3) (fun _=>rfl) rfl (by omega) (by omega) ?_;refine vm (l:=.str) (fun c=>c.1) vA (h.ext he3) (fun _=>rfl) rfl (by omega) (by omega) ?_;rw[Int.toNat_natCast,Int.toNat_natCast,qh];refine zg (fun hd=>?_) (fun hd=>?_)
   ·have hd:=of_decide_eq_true hd;rw[hf,if_pos]
    ·exact⟨rfl,he3⟩
    ·refine .inr (.inr (List.any_eq_true.2 ⟨cs.getD k vA,?_,decide_eq_true hd⟩));rw[zcj (show k<cs.length by omega)];exact mem_iff_getElem.2 ⟨k,by simp;omega,by simp⟩
   ·have hd:=of_decide_eq_false hd;rw[wrap_i64 (by omega) (by omega)];refine⟨⟨he3,k+1,by omega,rfl,fun j hj hjl=>?_⟩,by omega⟩
    by_cases hjk:j=k
    ·subst hjk;exact hd
    ·exact hall j (by omega) hjl
  ·obtain rfl:k=i:=by omega
   refine zd (decide_eq_false (by omega)) ?_;rw[wrap_i64 (by omega) (by omega)];rw[if_neg (by
    rintro(h3|h3|h3)
    ·exact hk h3
    ·exact hk2 h3
    ·rw[zf7 hall]at h3;cases h3)]at hf
   exact⟨⟨he2,k+1,by omega,rfl,by rw[htake];exact hf⟩,by omega⟩
 ·obtain rfl:i=n:=by omega
  refine zd (decide_eq_false (by omega)) ?_;rw[drop_of_length_le (by omega)]at hf;exact⟨by rw[hf];rfl,he⟩
end V
/- Contracts of the package shadowbookref24:Check. -/
namespace V
open Go Go.Proofs Go.RowKit Crc
variable {w w':World}
theorem uq {α:Type} {f:α->ByteArray} {d:α}:∀ {l:List α},yX f l=true↔∀ i,i+1<l.length->ltB (B (f (l.getD i d))) (B (f (l.getD (i+1) d)))=true
 |[]=>by simp[yX]
 |[_]=>by simp[yX]
 |x::y::r=>by
  have ih:=uq (f:=f) (d:=d) (l:=y::r);simp only [yX,Bool.and_eq_true];constructor
  ·rintro⟨h1,h2⟩ i hi;cases i with
   |zero=>exact h1
   |succ i=>exact ih.1 h2 i (by simpa using hi)
  ·intro h;exact⟨h 0 (by simp),ih.2 fun i hi=>h (i+1) (by simpa using hi)⟩
def zk5 (c:Cat) (i:Nat):Prop:=yi (B (c.1.getD i zQ).1)=0/\(i=0\/ltB (B (c.1.getD (i-1) zQ).1) (B (c.1.getD i zQ).1)=true)/\jw (c.1.getD i zQ)=true
def zk6 (c:Cat) (i:Nat):Prop:=yi (B (c.2.getD i zL).1)=0/\(i=0\/ltB (B (c.2.getD (i-1) zL).1) (B (c.2.getD i zL).1)=true)
theorem zck {α:Type} {l:List α} {d x:α} (h:x∈l):∃ i,i<l.length/\l.getD i d=x:=by
 obtain⟨i,hi,e⟩:=mem_iff_getElem.1 h;exact⟨i,hi,by rw[getD_eq_getElem?_getD,List.getElem?_eq_getElem hi];exact e⟩
theorem zaQ {α:Type} {l:List α} {d:α} {i:Nat} (h:i<l.length):l.getD i d∈l:=by rw[getD_eq_getElem?_getD,List.getElem?_eq_getElem h];exact getElem_mem _
theorem zbB {c:Cat}:x5 c=true↔(c.1.length<=16/\c.2.length<=16)/\(∀ i,i<c.1.length->zk5 c i)/\∀ i,i<c.2.length->zk6 c i:=by
 unfold x5 yL zez;simp only [Bool.and_eq_true,decide_eq_true_iff,List.all_eq_true];constructor
 ·rintro⟨h0,⟨h1,h2⟩,⟨h3,h4⟩,h5⟩;refine⟨h0,fun i hi=>⟨h1 _ (zaQ hi),?_,h5 _ (zaQ hi)⟩,fun i hi=>⟨h3 _ (zaQ hi),?_⟩⟩
  ·cases i with
   |zero=>exact .inl rfl
   |succ i=>exact .inr ((uq (d:=zQ)).1 h2 i hi)
  ·cases i with
   |zero=>exact .inl rfl
   |succ i=>exact .inr ((uq (d:=zL)).1 h4 i hi)
 ·rintro⟨h0,h1,h2⟩;refine⟨h0,⟨fun e he=>?_,(uq (d:=zQ)).2 fun i hi=>?_⟩,⟨fun e he=>?_,(uq (d:=zL)).2 fun i hi=>?_⟩,fun e he=>?_⟩
  ·obtain⟨i,hi,rfl⟩:=zck (d:=zQ) he;exact(h1 i hi).1
  ·exact((h1 (i+1) hi).2.1).resolve_left (by omega)
  ·obtain⟨i,hi,rfl⟩:=zck (d:=zL) he;exact(h2 i hi).1
  ·exact((h2 (i+1) hi).2).resolve_left (by omega)
  ·obtain⟨i,hi,rfl⟩:=zck (d:=zQ) he;exact(h1 i hi).2.2
theorem zqK {c:Cat} (h:¬x5 c=true):(if x5 c=true then (0:Int) else 240)=240:=if_neg h
theorem zf8 {x y:SLC} {c:Cat} (h:yK w x y c):
  Calls prog 31 #[.agg (zF x y).toArray] w (Ret fun v w'=>v=.int .i64 (if x5 c then 0 else 240)/\Ext w w'):=by
 obtain⟨⟨raws,hT⟩,hs,hcx,hcy⟩:=h;have hl:=hT.len;have hxl:=hT.sl.len;have hyl:=hs.len;apply zpg;unfold S31;refine zp fun r1 w1 hb1 he1 hr1 hz1=>?_;have hb1:Blk w1 r1 (zF x y) 30:=hb1;have no:∀ {w2:World},Ext w1 w2->¬x5 c=true->(fun v w'=>v=Value.int .i64 (if x5 c then 0 else 240)/\Ext w w') (.int .i64 240) w2:=fun he hc=>⟨by rw[zqK hc],he1.trans he⟩;refine zJ x hb1 (by rfl) ?_;refine zg (fun hq=>no (Ext.refl _) (fun hc=>?_)) (fun hq1=>?_)
 ·have:=(zbB.1 hc).1.1;have:=of_decide_eq_true hq;omega
 have hq1:=of_decide_eq_false hq1;refine zm 1 y hb1 (by rfl) ?_;refine zg (fun hq=>no (Ext.refl _) (fun hc=>?_)) (fun hq2=>?_)
 ·have:=(zbB.1 hc).1.2;have:=of_decide_eq_true hq;omega
 have hq2:=of_decide_eq_false hq2;refine zy (fun q w'=>∃ i:Nat,i<=c.1.length/\q=((i:Int),())/\Ext w1 w'/\∀ j,j<i->zk5 c j) (fun q=>(c.1.length-q.1).toNat) ⟨0,by omega,rfl,Ext.refl _,fun j hj=>by omega⟩ ?_;rintro _ w2 ⟨i,hi,rfl,he2,hok⟩;dsimp only;have hb2:=hb1.ext he2;refine zJ x hb2 (by rfl) ?_
 by_cases hlt:i<c.1.length
 ·refine zf (decide_eq_true (by omega)) (zJ x hb2 (by rfl) ?_);have hE:=(hT.at_ i hlt).ext (he1.trans he2);have eg:raws[i]?=some (raws.getD i yM):=by rw[getD_eq_getElem?_getD,List.getElem?_eq_getElem (by omega)];rfl
  have hok_:zk5 c i↔yi (B (c.1.getD i zQ).1)=0/\(i=0\/ltB (B (c.1.getD (i-1) zQ).1) (B (c.1.getD i zQ).1)=true)/\jw (c.1.getD i zQ)=true:=Iff.rfl;generalize c.1.getD i zQ=e at *;generalize raws.getD i yM=p at *;refine xQ (hT.sl.ext (he1.trans he2)) (by omega) (x:=p) (by rw[Int.toNat_natCast];exact eg) rfl ?_;intro pa hpa hca;refine qn (ls:=zb6) (x:=zas p) hca ?_;refine yh (vs:=yv.f p) (by rfl) (yv.one _) (fun r10 w3 hb3 he3 hr3=>?_) (by rfl);have hw:wrap .i64 ((i:Int)+1)=((i+1:Nat):Int):=by rw[wrap_i64 (by omega) (by omega)];rfl
  rw[hw];refine yq (fun q w'=>∃ bad:Bool,q=(bad,())/\Ext w3 w'/\(bad=true↔¬zk5 c i)) ?_ (fun J hJ=>?_)
  ·rintro _ w4 ⟨bad,rfl,he4,hbad⟩;have he24:=he2.trans (he3.trans he4);dsimp only;cases bad with
   |true=>exact zf rfl (no he24 (fun hc=>hbad.1 rfl ((zbB.1 hc).2.1 i hlt)))
   |false=>
    refine zd rfl ⟨⟨i+1,by omega,rfl,he24,fun j hj=>?_⟩,by omega⟩
    by_cases hji:j=i
    ·rw[hji];apply Classical.byContradiction;intro hn;have:=hbad.2 hn;cases this
    ·exact hok j (by omega)
  ·refine zN fun w4 he4 hz4 hh4=>?_;have hb4:Blk w4 r10 (yv.f p) 42:=hb3.ext he4;have e1:p.1=e.1:=hE.name;refine zJ p.1 hb4 (by rfl) ?_;rw[e1];refine zb (kG w4 e.1) ?_;rintro _ w5 ⟨rfl,he5⟩;refine⟨_,rfl,?_⟩;have he35:=he4.trans he5;have hb5:=hb4.ext he5;refine zg (fun hq=>?_) (fun hq=>?_)
   ·have hq:=bne_iff_ne.1 hq;exact hJ _ _ ⟨true,rfl,he35,by simp;exact fun hh=>hq (hok_.1 hh).1⟩
   have hn0:yi (B e.1)=0:=bne_eq_false_iff_eq.1 hq;have hcols:=hE.cols.ext (he3.trans he35);have rest:∀ {w6:World},Ext w5 w6->(i=0\/ltB (B (c.1.getD (i-1) zQ).1) (B e.1)=true)->
     (ldW .slc ((aD r10).add 1) fun(u26:SLC)=>
      ze prog 72 [(.slice u26.1 u26.2.1 u26.2.2)] (.one (.one (.int .i64))) fun(u27:Int)=>
      za (u27 !=(0:Int)) (J (true,()))<|
      ldW (.int .i64) ((aD r10).add 4) fun(u28:Int)=>
      za (decide (u28<(0:Int))) (J (true,()))<|
      ldW (.int .i64) ((aD r10).add 4) fun(u29:Int)=>
      za (decide (u29>(4096:Int))) (J (true,()))<|
      ldW (.int .u32) ((aD r10).add 2) fun(u30:Int)=>
      ldW (.int .i64) ((aD r10).add 4) fun(u31:Int)=>
      za (!((u30==(0:Int))==(u31==(0:Int)))) (J (true,()))<|
      ldW (.int .u64) ((aD r10).add 3) fun(u32:Int)=>J ((decide (u32>=(1099511627776:Int))),())) w6:=by
    intro w6 he6 hlt2;have hb6:=hb5.ext he6;have e2:p.2.2=e.2.2:=hE.rest;have eOK:jw e=true↔xo e.2.1=0/\(0<=p.2.2.2.2/\p.2.2.2.2<=4096)/\(p.2.2.1=0↔p.2.2.2.2=0)/\p.2.2.2.1<1099511627776:=by
     unfold jw;rw[e2];simp only [Bool.and_eq_true,decide_eq_true_iff]
    refine zm 1 p.2.1 hb6 (by rfl) ?_;refine zb (zgV (hcols.ext he6)) ?_;rintro _ w7 ⟨rfl,he7⟩;refine⟨_,rfl,?_⟩;have hb7:=hb6.ext he7;have he37:=(he35.trans he6).trans he7;have bad:¬jw e=true->J (true,()) w7:=fun hne=>hJ _ _ ⟨true,rfl,he37,by simp;exact fun hh=>hne (hok_.1 hh).2.2⟩;refine zg (fun hq=>bad fun hh=>bne_iff_ne.1 hq (eOK.1 hh).1) (fun hq3=>?_);refine zm 4 p.2.2.2.2 hb7 (by rfl) ?_;refine zg (fun hq=>bad fun hh=>by have:=(eOK.1 hh).2.1;have:=of_decide_eq_true hq;omega) (fun hq4=>?_);refine zm 4 p.2.2.2.2 hb7 (by rfl) ?_;refine zg (fun hq=>bad fun hh=>by have:=(eOK.1 hh).2.1;have:=of_decide_eq_true hq;omega) (fun hq5=>?_);refine zm 2 ((p.2.2.1:Nat):Int) hb7 (by rfl) (zm 4 p.2.2.2.2 hb7 (by rfl) ?_);have hiff:(((p.2.2.1:Int)==(0:Int))==(p.2.2.2.2==(0:Int)))=true↔(p.2.2.1=0↔p.2.2.2.2=0):=by
     rw[beq_iff_eq,Bool.eq_iff_iff,beq_iff_eq,beq_iff_eq];constructor
     ·intro hh;exact⟨fun e=>hh.1 (by omega),fun e=>by have:=hh.2 e;omega⟩
     ·intro hh;exact⟨fun e=>hh.1 (by omega),fun e=>by have:=hh.2 e;omega⟩
    refine zg (fun hq=>bad fun hh=>?_) (fun hq6=>?_)
    ·rw[hiff.2 (eOK.1 hh).2.2.1]at hq;cases hq
    have h6:(p.2.2.1=0↔p.2.2.2.2=0):=hiff.1 (by simpa using hq6);refine zm 3 ((p.2.2.2.1:Nat):Int) hb7 (by rfl) ?_;refine hJ _ _ ⟨_,rfl,he37,?_⟩;rw[decide_eq_true_iff,hok_,eOK];have h3:=bne_eq_false_iff_eq.1 hq3;have h4:=of_decide_eq_false hq4;have h5:=of_decide_eq_false hq5;constructor
    ·rintro h7 ⟨_,_,_,_,_,h8⟩;omega
    ·intro h7;apply Classical.byContradiction;intro h8;exact h7 ⟨hn0,hlt2,h3,by omega,h6,by omega⟩
   by_cases h0:i=0
   ·refine zd (decide_eq_false (by omega)) ?_;exact rest (Ext.refl _) (.inl h0)
   ·refine zf (decide_eq_true (by omega)) (zJ x ((hb2.ext he3).ext he35) (by rfl) ?_);rw[show wrap .i64 ((i:Int)-1)=((i-1:Nat):Int) by rw[wrap_i64 (by omega) (by omega)];omega];refine vm (E:=yv) (fun e:Raw=>e.1) yM (hT.sl.ext ((he1.trans he2).trans (he3.trans he35))) (fun _=>rfl) rfl (by omega) (by omega) ?_;rw[Int.toNat_natCast,(hT.at_ (i-1) (by omega)).name];refine zJ p.1 hb5 (by rfl) ?_;rw[e1,zat];refine zg (fun hq=>?_) (fun hq=>?_)
    ·have hq:ltB (B (c.1.getD (i-1) zQ).1) (B e.1)=false:=by simpa using hq
     refine hJ _ _ ⟨true,rfl,he35,?_⟩;simp;intro hh;rcases (hok_.1 hh).2.1 with h|h
     ·exact h0 h
     ·rw[hq]at h;cases h
    ·exact rest (Ext.refl _) (.inr (by simpa using hq))
 obtain rfl:i=c.1.length:=by omega
 refine zd (decide_eq_false (by omega)) ?_;refine zy (fun q w'=>∃ i:Nat,i<=c.2.length/\q=((i:Int),())/\Ext w1 w'/\∀ j,j<i->zk6 c j) (fun q=>(c.2.length-q.1).toNat) ⟨0,by omega,rfl,he2,fun j hj=>by omega⟩ ?_;rintro _ w3 ⟨i,hi,rfl,he3,hok2⟩;dsimp only;have hb3:=hb1.ext he3;refine zm 1 y hb3 (by rfl) ?_
 by_cases hlt:i<c.2.length
 ·refine zf (decide_eq_true (by omega)) ?_;refine zN fun w4 he4 hz4 hh4=>?_;have hb4:=hb3.ext he4;have he14:=he3.trans he4;refine zm 1 y hb4 (by rfl) ?_;refine vm (E:=zI) (fun e:Snp=>e.1) zL (hs.ext (he1.trans he14)) (fun _=>rfl) rfl (by omega) (by omega) ?_;rw[Int.toNat_natCast];refine zb (kG w4 _) ?_;rintro _ w5 ⟨rfl,he5⟩;refine⟨_,rfl,?_⟩;have he15:=he14.trans he5;have hb5:=hb4.ext he5;have hw:wrap .i64 ((i:Int)+1)=((i+1:Nat):Int):=by rw[wrap_i64 (by omega) (by omega)];rfl
  rw[hw];refine zg (fun hq=>no he15 (fun hc=>bne_iff_ne.1 hq ((zbB.1 hc).2.2 i hlt).1)) (fun hq=>?_);have hn0:=bne_eq_false_iff_eq.1 hq;have fin:zk6 c i->∀ j,j<i+1->zk6 c j:=fun hh j hj=>by
   by_cases e:j=i
   ·rw[e];exact hh
   ·exact hok2 j (by omega)
  by_cases h0:i=0
  ·refine zd (decide_eq_false (by omega)) ?_;exact⟨⟨i+1,by omega,rfl,he15,fin ⟨hn0,.inl h0⟩⟩,by omega⟩
  ·refine zf (decide_eq_true (by omega)) (zm 1 y hb5 (by rfl) ?_);rw[show wrap .i64 ((i:Int)-1)=((i-1:Nat):Int) by rw[wrap_i64 (by omega) (by omega)];omega];refine vm (E:=zI) (fun e:Snp=>e.1) zL (hs.ext (he1.trans he15)) (fun _=>rfl) rfl (by omega) (by omega) ?_;refine zm 1 y hb5 (by rfl) ?_;refine vm (E:=zI) (fun e:Snp=>e.1) zL (hs.ext (he1.trans he15)) (fun _=>rfl) rfl (by omega) (by omega) ?_;rw[Int.toNat_natCast,Int.toNat_natCast,zat];refine zg (fun hq=>no he15 (fun hc=>?_)) (fun hq=>?_)
   ·have hq:ltB (B (c.2.getD (i-1) zL).1) (B (c.2.getD i zL).1)=false:=by simpa using hq
    rcases ((zbB.1 hc).2.2 i hlt).2 with h|h
    ·exact h0 h
    ·rw[hq]at h;cases h
   ·exact⟨⟨i+1,by omega,rfl,he15,fin ⟨hn0,.inr (by simpa using hq)⟩⟩,by omega⟩
 obtain rfl:i=c.2.length:=by omega
 refine zd (decide_eq_false (by omega)) ⟨?_,he1.trans he3⟩;rw[if_pos (zbB.2 ⟨⟨by omega,by omega⟩,hok,hok2⟩)]
end V
/- Law 26:the space that all begin with;catalogs of names. -/
namespace V
open Go Go.Proofs Go.RowKit Crc
variable {w0 w w':World} {b db:Nat} {S:Spa} {F:Nat->Prop} {R H:List Nat} {M:Option (List Nat)}
theorem zea (w:World):Calls prog 8 #[] w (Ret fun v w'=>∃ db b,v=.pointer (some ⟨b,0,none⟩)/\∃ F,St w w' b db S0 F):=by
 apply zqU;unfold S8;refine zb (zke w 256 256) ?_;rintro _ w2 (⟨_,db,rfl,hd⟩|⟨hg,_⟩)
 ·refine⟨(some ⟨db,0,none⟩,0,()),rfl,?_⟩;refine zb (zmg hd) ?_;rintro _ w3 ⟨b,rfl,F,h3⟩;exact⟨(some ⟨b,0,none⟩,0,()),rfl,zd (by rfl) ⟨db,b,rfl,F,h3⟩⟩
 ·rw[zf4]at hg;cases hg
def zO (es:List Ent):List Nat:=es.filterMap fun e=>if e.2.2.1=0 then none else some e.2.2.1
theorem ud (es:List Ent) (e:Ent):zO (es++[e])=zO es++(if e.2.2.1=0 then [] else [e.2.2.1]):=by
 unfold zO;rw[List.filterMap_append];congr 1;split
 ·rename_i h;simp[h]
 ·rename_i h;simp[h]
theorem zgF (A:Option Addr) (es:List Ent):∀ i,i<=es.length->(spT A es i).map (fun p=>p.2.2)=zO (es.take i)
 |0,_=>rfl
 |i+1,h=>by
  rw[jy,map_append,zgF A es i (by omega),zg4 (d:=zQ) (by omega),ud];congr 1;split<;>rfl
theorem kH (c:Cat):z8 (alone c)=zO c.1:=by
 rw[<- zd7 (none,0,0) (none,0,0)];unfold z7 alone;rw[map_append,zgF none c.1 _ (Nat.le_refl _),take_of_length_le (Nat.le_refl _)];simp[spS]
theorem zft {es:List Ent} {r:Nat} (h:r∈zO es):∃ j,j<es.length/\(es.getD j zQ).2.2.1=r/\r≠0:=by
 unfold zO at h;obtain⟨e,he,h2⟩:=List.mem_filterMap.1 h;split at h2
 ·cases h2
 ·rename_i hn;injection h2 with h2
  obtain⟨j,hj,e2⟩:=zck (d:=zQ) he;exact⟨j,hj,by rw[e2];exact h2,by omega⟩
def fM (m:Nat):Nat:=if m % 3=0 then 0 else if m % 3=1 then 2 else 1
structure xE (S:Spa) (es:List Ent) (xs:List ByteArray) (rows i:Nat):Prop where
 len:es.length=i
 great:Great S (zO es) [] none
 ent:∀ j,j<i->∃ r,es.getD j zQ=(xs.getD j ByteArray.empty,kq,r,j,if r=0 then (0:Int) else ((1+j:Nat):Int))/\(r≠0->S.page r=(((7:UInt8),[],xs.getD j ByteArray.empty),0)/\S.now.getD r 0=1)
 nodup:(zO es).Nodup
 mk_:Mk S0 S (zO es)
 many:3*(zO es).length+fM (rows+i)=2*i+fM rows
theorem xE.init (xs:List ByteArray) (rows:Nat):xE S0 [] xs rows 0:=⟨rfl,zav,fun j hj=>by omega,List.nodup_nil,Mk.refl _,by show 3*0+fM (rows+0)=2*0+fM rows;rw[Nat.add_zero]⟩
theorem xE.none_ {es:List Ent} {xs:List ByteArray} {rows i:Nat} (h:xE S es xs rows i) (hm:(rows+i) % 3=0):xE S (es++[(xs.getD i ByteArray.empty,kq,0,i,0)]) xs rows (i+1):=by
 have hr:zO (es++[(xs.getD i ByteArray.empty,kq,0,i,0)])=zO es:=by rw[ud,if_pos rfl,append_nil]
 refine⟨by rw[length_append,h.len];rfl,by rw[hr];exact h.great,fun j hj=>?_,by rw[hr];exact h.nodup,by rw[hr];exact h.mk_,?_⟩
 ·rw[um h.len]
  by_cases e:j<i
  ·rw[if_pos e];exact h.ent j e
  ·have e2:j=i:=by omega
   subst e2;rw[if_neg e,if_pos rfl];exact⟨0,by rw[if_pos rfl],fun hh=>absurd rfl hh⟩
 ·rw[hr];have:=h.many;unfold fM at this ⊢;rw[if_pos hm]at this;rw[if_neg (by omega),if_pos (by omega)];omega
theorem xE.some_ {S':Spa} {es:List Ent} {xs:List ByteArray} {rows i k:Nat} (h:xE S es xs rows i) (hm:(rows+i) % 3≠0) (hP:kg S S' ((7:UInt8),[],xs.getD i ByteArray.empty) k) (hG:Great S' (k::zO es) [] none):xE S' (es++[(xs.getD i ByteArray.empty,kq,k,i,((1+i:Nat):Int))]) xs rows (i+1):=by
 have h2:=hP.two;have hk0:k≠0:=by omega
 have hr:zO (es++[(xs.getD i ByteArray.empty,kq,k,i,((1+i:Nat):Int))])=zO es++[k]:=by rw[ud,if_neg hk0]
 have hl:S.now.length=S.N:=h.great.good.ok.now;have hfr:=(zU.1 hP.free).1;have hnk:∀ {r j:Nat},j<i->(es.getD j zQ).2.2.1=r->r≠0->r≠k:=fun hj he h0 e=>by
  obtain⟨r',e1,e2⟩:=h.ent _ hj;rw[e1]at he;have he:r'=_:=he;subst he;have:=(e2 h0).2;rw[e]at this;omega
 refine⟨by rw[length_append,h.len];rfl,?_,fun j hj=>?_,?_,?_,?_⟩
 ·rw[hr];exact hG.perm (List.perm_append_singleton k (zO es)).symm
 ·rw[um h.len]
  by_cases e:j<i
  ·rw[if_pos e];obtain⟨r,e1,e2⟩:=h.ent j e;refine⟨r,e1,fun h0=>?_⟩;obtain⟨e3,e4⟩:=e2 h0;have hne:=hnk e (by rw[e1]) h0;have hlt:r<S.N:=by
    have hm:r∈zO es:=by
     unfold zO;refine List.mem_filterMap.2 ⟨es.getD j zQ,zaQ (by rw[h.len];exact e),?_⟩;rw[e1,if_neg h0]
    exact h.great.good.well.lt (h.great.good.well.root r hm)
   refine⟨by rw[hP.other r hne hlt];exact e3,?_⟩;rw[hP.now,yn,if_neg (fun hh=>hne hh.1.symm)];exact e4
  ·have e2:j=i:=by omega
   subst e2;rw[if_neg e,if_pos rfl];refine⟨k,by rw[if_neg hk0],fun _=>⟨hP.page,?_⟩⟩;rw[hP.now,yn,if_pos ⟨rfl,by rw[hl];exact hP.lt⟩]
 ·rw[hr,List.nodup_append];refine⟨h.nodup,by simp,fun a ha c hc e=>?_⟩;rw[mem_singleton]at hc;obtain⟨j,hj,e1,e2⟩:=zft ha;exact hnk (by rw[h.len]at hj;exact hj) e1 e2 (by omega)
 ·rw[hr];exact h.mk_.trans (hP.mk_ hl)
 ·rw[hr,length_append];have:=h.many;unfold fM at this ⊢;rw[if_neg hm]at this;show 3*((zO es).length+1)+_=_
  by_cases h1:(rows+i) % 3=1
  ·rw[if_pos h1]at this;rw[if_neg (by omega),if_neg (by omega)];omega
  ·rw[if_neg h1]at this;rw[if_pos (by omega)];omega
theorem xE.bound {es:List Ent} {xs:List ByteArray} {rows i:Nat} (h:xE S es xs rows i):i<=400/\(zO es).length<=251/\S.dev.pen.length<=251:=by
 have h1:=h.mk_.free;rw[zbA]at h1;have h2:=h.many;have h3:∀ m,fM m<=2:=fun m=>by unfold fM;split<;>(try split)<;>omega
 have:=h3 (rows+i);have:=h3 rows;have h4:=h.mk_.pen;rw[ziB]at h4;have:([]:List (Int×ByteArray)).length=0:=rfl;refine⟨by omega,by omega,by omega⟩
def zds (x:SLC) (raws:List Raw) (k:Nat):Prop:=orow x.1=some k\/∃ i,i<raws.length/\orow (raws.getD i yM).2.1.1=some k
theorem yA.apart {G:Nat->Prop} {B0:Nat} {x:SLC} {raws:List Raw} {es:List Ent} (h:yA w B0 x raws es) (o:Only G w w') (hG:∀ k,zds x raws k->¬G k):yA w' B0 x raws es:=
 ⟨h.row.only o (fun j hj=>hG j (.inl hj)),h.len,fun i hi=>⟨(h.at_ i hi).name,(h.at_ i hi).rest,(h.at_ i hi).cols.only o (fun j hj=>hG j (.inr ⟨i,by rw[h.len];exact hi,hj⟩))⟩⟩
theorem yA.rows {B0:Nat} {x:SLC} {raws:List Raw} {es:List Ent} (h:yA w B0 x raws es) {k:Nat} (hk:zds x raws k):B0<=k/\k<w.heap.size:=by
 rcases hk with e|⟨i,hi,e⟩
 ·exact⟨h.row.row k e,h.row.ye k e⟩
 ·have hE:=h.at_ i (by rw[<- h.len];exact hi);exact⟨hE.cols.row k e,hE.cols.ye k e⟩
structure ue (w0 w:World) (b db r1 r2 B0:Nat) (S:Spa) (F:Nat->Prop) (x:SLC) (raws:List Raw) (es:List Ent):Prop where
 st:St w0 w b db S F
 b1:Blk w r1 (zF (none,0,0) (none,0,0)) 30
 b2:Blk w r2 (zF x (none,0,0)) 30
 tabs:yA w B0 x raws es
 nF:∀ k,F k->k≠r1/\k≠r2/\¬zds x raws k
variable {r1 r2 B0 rows i:Nat} {xs:List ByteArray} {x:SLC} {raws:List Raw} {es:List Ent}
theorem ue.ext' (h:ue w0 w b db r1 r2 B0 S F x raws es) (he:Ext w w'):ue w0 w' b db r1 r2 B0 S F x raws es:=
 ⟨h.st.ext' he,h.b1.ext he,h.b2.ext he,h.tabs.ext he,h.nF⟩
def zf9 (w0:World) (b db:Nat) (xs:List ByteArray) (rows:Nat) (v:Value) (w':World):Prop:=
 ∃ (x y:SLC) (ok:Bool),v=.tuple #[.agg (zF x y).toArray,.bool ok]/\Ext w0 w'/\
  (ok=true->∃ S F es,y=(none,0,0)/\St w0 w' b db S F/\xE S es xs rows xs.length/\xs.length<=8/\x5 (es,[])=true/\Safe F w' (fun w=>yx w 0 x y (es,[])))
theorem zcl {ok:Bool} (h:ue w0 w b db r1 r2 B0 S F x raws es) (h1:w0.heap.size<=r1) (hB:r1<B0) (hok:ok=true->xE S es xs rows xs.length/\xs.length<=8/\x5 (es,[])=true):
  (zc ((#[(.slice x.1 x.2.1 x.2.2),(.slice none 0 0)]:Array Value).size=2)<|
   zq (aD r1) [(.slice x.1 x.2.1 x.2.2),(.slice none 0 0)]<|
   zl [.slc,.slc] (aD r1) fun(u17:(SLC×SLC×Unit))=>zf9 w0 b db xs rows (.tuple #[(.agg #[(.slice u17.1.1 u17.1.2.1 u17.1.2.2),(.slice u17.2.1.1 u17.2.1.2.1 u17.2.1.2.2)]),(.bool ok)])) w:=by
 refine vR (vs:=zF x (none,0,0)) h.b1 (by rfl) (yw _ _) (by rfl) ?_;intro w2 hb2 o2;refine zS (ls:=yH) (yF x (none,0,0)) hb2 (by rfl) ?_;have e2:Ext w0 w2:=Only.ext h.st.ext o2 (fun j hj=>by have:j=r1:=hj;omega);refine⟨x,(none,0,0),ok,rfl,e2,fun hh=>?_⟩;obtain⟨hpl,h8,hc⟩:=hok hh;have hsp:z6 w2 b db S F:=h.st.sp.only o2 (fun k hk e=>(h.nF k hk).1 e);have ht:=h.tabs.apart o2 (fun k hk e=>by have:=(h.tabs.rows hk).1;have:k=r1:=e;omega);refine⟨S,F,es,rfl,⟨hsp,h.st.low,e2⟩,hpl,h8,hc,fun w3 o3=>⟨⟨raws,?_⟩,Owni.nil _ _ _⟩⟩;exact(ht.apart o3 (fun k hk hf=>(h.nF k hf).2.2 hk)).lower (Nat.zero_le _)
theorem ziE {r12:Nat} {e:Ent} {P:SLC} {N:WP} (h:ue w0 w b db r1 r2 B0 S F x raws es) (hl:es.length=i) (h12:r1<B0/\r2<B0/\r1≠r2) (hB:B0<=r12) (hb:Blk w r12 (yv.f (e.1,P,e.2.2)) 42) (hp:Owni qe 95 w B0 P.1 P.2.1 P.2.2 e.2.1) (hnP:∀ k,orow P.1=some k->¬F k) (hn:i<=1000) (hn12:¬F r12) (hw0:w0.heap.size<=r2/\w0.heap.size<=B0) (hpl:xE S (es++[e]) xs rows (i+1))
  (hN:∀ w' x' raws',ue w0 w' b db r1 r2 B0 S F x' raws' (es++[e])->N w'):
  (ldW .slc (aD r2) fun(u18:SLC)=>
   zl [.str,.slc,(.int .u32),(.int .u64),(.int .i64)] (aD r12) fun(u19:(ByteArray×SLC×Int×Int×Int×Unit))=>
   zi (.cells #[(.string u19.1),(.slice u19.2.1.1 u19.2.1.2.1 u19.2.1.2.2),(.int .u32 u19.2.2.1),(.int .u64 u19.2.2.2.1),(.int .i64 u19.2.2.2.2.1)] 42) fun(r20:Nat)=>
   zv prog (Builtin.append_ #[27,27] 27 #[(.slice u18.1 u18.2.1 u18.2.2),(.slice (some (aD r20)) 1 1)]) .slc fun(u21:SLC)=>
   stW (aD r2) (.slice u21.1 u21.2.1 u21.2.2)<|N) w:=by
 have hxl:=h.tabs.row.len;have hrl:=h.tabs.len;refine zJ x h.b2 (by rfl) ?_;refine zS (ls:=zb6) (zas (e.1,P,e.2.2)) hb (by rfl) ?_;refine yT (E:=yv) (ys:=[(e.1,P,e.2.2)]) (by rfl) rfl zeB h.tabs.row (by have:=hb.lt;omega) (by omega) (by omega) ?_;intro A' c' w2 ho2 hg2;have hlt:=h.st.sp.lt;have hrow:=h.tabs.row.row;have hnx:∀ k,F k->orow x.1≠some k:=fun k hk e=>(h.nF k hk).2.2 (.inl e);have hsp2:z6 w2 b db S F:=h.st.sp.only (G:=fun k=>orow x.1=some k) (Only.zV hg2.grown (fun j hj=>.inl hj)) (fun k hk e=>hnx k hk e);have hb12:=h.b1.grown hg2.grown (fun e=>by have:=hrow _ e.symm;omega);have hb22:=h.b2.grown hg2.grown (fun e=>by have:=hrow _ e.symm;omega);have e02:Ext w0 w2:=h.st.ext.grown hg2.grown (fun j hj=>by have:=hrow j hj;omega);refine stE (o:=0) hb22 rfl (by show 0<2;omega) ?_;intro w3 hb3 o3;have hx0:w.heap.size<=w2.heap.size:=hg2.grown.size;refine hN w3 (A',x.2.1+1,c') (raws++[(e.1,P,e.2.2)]) ⟨⟨hsp2.only o3 (fun k hk e=>(h.nF k hk).2.1 e),h.st.low,Only.ext e02 o3 (fun j hj=>by have:j=r2:=hj;omega)⟩,hb12.only o3 (fun e=>h12.2.2 e),hb3,?_,fun k hk=>⟨(h.nF k hk).1,(h.nF k hk).2.1,?_⟩⟩
 ·have hold:∀ j,j<es.length->xM w2 B0 (raws.getD j yM) (es.getD j zQ):=fun j hj=>(h.tabs.at_ j hj).grown h.tabs.row hg2.grown;have hnew:xM w2 B0 ((e.1,P,e.2.2):Raw) e:=⟨rfl,rfl,hp.grown hg2.grown (fun j hj=>h.tabs.row.ne hp (by decide) j hj)⟩;have hT2:=h.tabs.snoc (c:=c') ho2 hold hnew;refine hT2.apart o3 (fun k hk e=>?_);have:=(hT2.rows hk).1;have:k=r2:=e;omega
 ·rintro(e|⟨j,hj,e⟩)
  ·rcases hg2.next k e with e|e
   ·exact hnx k hk e
   ·have:=hlt k hk;omega
  ·rw[um (n:=raws.length) rfl]at e;rw[length_append]at hj;split at e
   ·rename_i hj2;exact(h.nF k hk).2.2 (.inr ⟨j,hj2,e⟩)
   ·split at e
    ·exact hnP k e hk
    ·rename_i h1 h2;have:j<raws.length+1:=hj;omega
end V
/- Law 26:catalogs of names,made. -/
namespace V
open Go Go.Proofs Go.RowKit Crc
variable {w0 w w':World} {b db:Nat} {S:Spa} {F:Nat->Prop}
variable {r1 r2 B0 rows i:Nat} {xs:List ByteArray} {x:SLC} {raws:List Raw} {es:List Ent}
theorem zrD (rows i:Nat) (h:rows+i<9223372036854775808):(Int.tmod (wrap .i64 ((rows:Int)+(i:Int))) (3:Int) !=(0:Int))=decide ((rows+i) % 3≠0):=by
 rw[wrap_i64 (by omega) (by omega),show(rows:Int)+(i:Int)=((rows+i:Nat):Int) by omega];have:Int.tmod ((rows+i:Nat):Int) (3:Int)=(((rows+i) % 3:Nat):Int):=rfl;rw[this]
 by_cases h:(rows+i) % 3=0
 ·rw[h];rfl
 ·rw[decide_eq_true h];exact bne_iff_ne.2 (by omega)
theorem zmj {A1:Option Addr} {n1 c1 r12:Nat} {P:SLC} {I:Int×Unit->WP} (hs:Sli yI w A1 n1 xs) (hi:i<n1) (hx:(xs.getD i ByteArray.empty).size<=30) (h:ue w0 w b db r1 r2 B0 S F x raws es) (pl:xE S es xs rows i) (hRow:¬zds x raws r12) (h12:w0.heap.size<=r1/\w0.heap.size<=r2/\r1<B0/\r2<B0/\r1≠r2)
  (hb:Blk w r12 (yv.f (xs.getD i ByteArray.empty,P,0,i,0)) 42) (hB:B0<=r12) (hn12:¬F r12) (hp:Owni qe 95 w B0 P.1 P.2.1 P.2.2 kq) (hnP:∀ k,orow P.1=some k->¬F k) (hr3:rows<3) (hsb:∀ w',Ext w0 w'->Sli yI w' A1 n1 xs)
  (hI:∀ S' F' x' raws' es' w',ue w0 w' b db r1 r2 B0 S' F' x' raws' es'->xE S' es' xs rows (i+1)->I (((i+1:Nat):Int),()) w'):
  (za ((Int.tmod (wrap .i64 ((rows:Int)+(i:Int))) (3:Int)) !=(0:Int)) (zc (0<=(i:Int)/\(i:Int)<((n1:Nat):Int))<|
   zh A1 fun(p13:Addr)=>
   ldW .str (p13.add (Int.toNat (i:Int)*1)) fun(u14:ByteArray)=>
   ze prog 30 [(.pointer (some (aD b))),(.agg #[(.int .u8 (7:Int)),(.slice none 0 0),(.string u14)])] (.many [(.one (.int .u32)),(.one (.int .i64))]) fun(u15:Int×Int×Unit)=>
   za (u15.2.1 !=(0:Int)) (zl [.slc,.slc] (aD r2) fun(u16:(SLC×SLC×Unit))=>
   zc ((#[(.slice u16.1.1 u16.1.2.1 u16.1.2.2),(.slice u16.2.1.1 u16.2.1.2.1 u16.2.1.2.2)]:Array Value).size=2)<|
   zq (aD r1) [(.slice u16.1.1 u16.1.2.1 u16.1.2.2),(.slice u16.2.1.1 u16.2.1.2.1 u16.2.1.2.2)]<|
   zl [.slc,.slc] (aD r1) fun(u17:(SLC×SLC×Unit))=>zf9 w0 b db xs rows (.tuple #[(.agg #[(.slice u17.1.1 u17.1.2.1 u17.1.2.2),(.slice u17.2.1.1 u17.2.1.2.1 u17.2.1.2.2)]),(.bool false)]))<|
   stW ((aD r12).add 2) (.int .u32 u15.1)<|
   stW ((aD r12).add 4) (.int .i64 (wrap .i64 ((1:Int)+(i:Int))))<|
   ldW .slc (aD r2) fun(u18:SLC)=>
   zl [.str,.slc,(.int .u32),(.int .u64),(.int .i64)] (aD r12) fun(u19:(ByteArray×SLC×Int×Int×Int×Unit))=>
   zi (.cells #[(.string u19.1),(.slice u19.2.1.1 u19.2.1.2.1 u19.2.1.2.2),(.int .u32 u19.2.2.1),(.int .u64 u19.2.2.2.1),(.int .i64 u19.2.2.2.2.1)] 42) fun(r20:Nat)=>
   zv prog (Builtin.append_ #[27,27] 27 #[(.slice u18.1 u18.2.1 u18.2.2),(.slice (some (aD r20)) 1 1)]) .slc fun(u21:SLC)=>
   stW (aD r2) (.slice u21.1 u21.2.1 u21.2.2)<|I ((wrap .i64 ((i:Int)+(1:Int))),()))<|
   ldW .slc (aD r2) fun(u22:SLC)=>
   zl [.str,.slc,(.int .u32),(.int .u64),(.int .i64)] (aD r12) fun(u23:(ByteArray×SLC×Int×Int×Int×Unit))=>
   zi (.cells #[(.string u23.1),(.slice u23.2.1.1 u23.2.1.2.1 u23.2.1.2.2),(.int .u32 u23.2.2.1),(.int .u64 u23.2.2.2.1),(.int .i64 u23.2.2.2.2.1)] 42) fun(r24:Nat)=>
   zv prog (Builtin.append_ #[27,27] 27 #[(.slice u22.1 u22.2.1 u22.2.2),(.slice (some (aD r24)) 1 1)]) .slc fun(u25:SLC)=>
   stW (aD r2) (.slice u25.1 u25.2.1 u25.2.2)<|I ((wrap .i64 ((i:Int)+(1:Int))),())) w:=by
 obtain⟨hb400,hb251,hpen⟩:=pl.bound;have hw:wrap .i64 ((i:Int)+1)=((i+1:Nat):Int):=by rw[wrap_i64 (by omega) (by omega)];rfl
 have hw2:wrap .i64 ((1:Int)+(i:Int))=((1+i:Nat):Int):=by rw[wrap_i64 (by omega) (by omega)];omega
 rw[zrD rows i (by omega),hw,hw2]
 by_cases hm:(rows+i) % 3=0
 ·refine zd (decide_eq_false (by omega)) ?_;exact ziE (e:=(xs.getD i ByteArray.empty,kq,0,i,0)) (P:=P) h pl.len ⟨h12.2.2.1,h12.2.2.2.1,h12.2.2.2.2⟩ hB hb hp hnP (by omega) hn12 ⟨h12.2.1,by omega⟩ (pl.none_ hm) (fun w' x' raws' hh=>hI _ _ _ _ _ _ hh (pl.none_ hm))
 refine zf (decide_eq_true hm) ?_;refine uP hs (by omega) (by omega) ?_;rw[Int.toNat_natCast];have hroom:S.room 0=(238:Nat):=by
  have h1:=(xK pl.great.good.dims).1;have h2:=pl.mk_.r0;rw[zg6]at h2;rw[h1,h2]
 have hput:=zhW (p:=((7:UInt8),[],xs.getD i ByteArray.empty)) (A:=none) (n:=0) (c:=0) h.st.sp (by exact pl.great) (by omega) (Sli.nil _ _) (fun a ha=>by cases ha) (by show 3<=7;omega) (by rw[hroom];show(0:Int)<=_;decide) (by dsimp only;omega);refine zb hput ?_;rintro _ w2 ⟨S',k,e,rfl,hR,hst⟩;refine⟨((k:Int),e,()),rfl,?_⟩;obtain⟨F',g1,g2,g3⟩:=hst;have hlt:=h.st.sp.lt;have hs2:=g3.2.2.2.1;have hFw:∀ {k:Nat},F' k->F k\/w.heap.size<=k:=fun hk=>g2 _ hk;have hb1:=h.b1.only g3 (fun hf=>(h.nF _ hf).1 rfl);have hb2:=h.b2.only g3 (fun hf=>(h.nF _ hf).2.1 rfl);have hT:=h.tabs.apart g3 (fun k hk hf=>(h.nF k hf).2.2 hk);have hst2:St w0 w2 b db S' F':=⟨g1,fun k hk=>by
  rcases hFw hk with e|e
  ·exact h.st.low k e
  ·exact Nat.le_trans h.st.ext.size e,Only.ext h.st.ext g3 h.st.low⟩
 have hnF:∀ k,F' k->k≠r1/\k≠r2/\¬zds x raws k:=fun k hk=>by
  rcases hFw hk with e|e
  ·exact h.nF k e
  ·have q1:=h.b1.lt;have q2:=h.b2.lt;refine⟨by omega,by omega,fun hr=>?_⟩;have:=(h.tabs.rows hr).2;omega
 rcases hR with ⟨_,_,_,hbig⟩|⟨rfl,rfl,rfl,_⟩|⟨rfl,hP,hG,_,_⟩
 ·rw[show(((7:UInt8),([]:List Nat),xs.getD i ByteArray.empty):Page).2.1.length=0 from rfl]at hbig;have:((238:Nat):Int)<((xs.getD i ByteArray.empty).size:Int):=by rw[<- hroom];exact hbig
  omega
 ·refine zf (by rfl) ?_;refine zS (ls:=yH) (yF x (none,0,0)) hb2 (by rfl) ?_;exact zcl (ok:=false) ⟨hst2,hb1,hb2,hT,hnF⟩ h12.1 h12.2.2.1 (fun e=>by cases e)
 ·refine zd (by rfl) ?_;have hpl:=pl.some_ hm hP hG;have hb12:=hb.only g3 hn12;have hl12:=hb.lt;have hn12':¬F' r12:=fun hf=>by
   rcases hFw hf with e|e
   ·exact hn12 e
   ·omega
  have hp2:=hp.only g3 (fun j hj hf=>hnP j hj hf);have hnP':∀ k,orow P.1=some k->¬F' k:=fun k hk hf=>by
   rcases hFw hf with e|e
   ·exact hnP k hk e
   ·have:=hp.ye k hk;omega
  show stW ((aD r12).add 2) _ _ w2;rw[zx];refine stE (o:=2) hb12 rfl (by show 2<5;omega) ?_;intro w3 hb3 o3;show stW ((aD r12).add 4) _ _ w3;rw[zx];refine stE (o:=4) hb3 rfl (by show 4<5;omega) ?_;intro w4 hb4 o4;have hb4:Blk w4 r12 (yv.f (xs.getD i ByteArray.empty,P,k,i,((1+i:Nat):Int))) 42:=hb4;have o24:Only (fun j=>j=r12) w2 w4:=Only.trans o3 o4 (fun j hj=>.inl hj);have hne:∀ j,F' j->j≠r12:=fun j hj e=>hn12' (by rw[<- e];exact hj);have hst4:St w0 w4 b db S' F':=⟨hst2.sp.only o24 (fun j hj e=>hne j hj e),hst2.low,Only.ext hst2.ext o24 (fun j hj=>by have:j=r12:=hj;omega)⟩;have hb14:=hb1.only o24 (fun e=>by have:r1=r12:=e;omega);have hb24:=hb2.only o24 (fun e=>by have:r2=r12:=e;omega);have hT4:=hT.apart o24 (fun j hj e=>hRow (by have:j=r12:=e;rw[<- this];exact hj));have hp4:=hp2.only o24 (fun j hj e=>Owni.neB hp2 hb12 (by decide) j hj e);exact ziE (e:=(xs.getD i ByteArray.empty,kq,k,i,((1+i:Nat):Int))) (P:=P) ⟨hst4,hb14,hb24,hT4,hnF⟩ pl.len ⟨h12.2.2.1,h12.2.2.2.1,h12.2.2.2.2⟩ hB hb4 hp4 hnP' (by omega) hn12' ⟨h12.2.1,by omega⟩ hpl (fun w' x' raws' hh=>hI _ _ _ _ _ _ hh hpl)
theorem zk7 {A1:Option Addr} {n1 c1:Nat} (h:St w0 w b db S0 F) (hs:Sli yI w0 A1 n1 xs) (hr3:rows<3):
  Calls prog 10 #[.pointer (some ⟨b,0,none⟩),.slice A1 n1 c1,.int .i64 (rows:Int)] w (Ret (zf9 w0 b db xs rows)):=by
 have hl:=hs.len;have hle:=hs.le;have hFlt:=h.sp.lt;have hs0:=h.ext.size;apply zoW;unfold S10;refine zp fun r1 w1 hb1 he1 hr1 hz1=>?_;refine zp fun r2 w2 hb2 he2 hr2 hz2=>?_;have hb1:Blk w1 r1 (zF (none,0,0) (none,0,0)) 30:=hb1;have hb2:Blk w2 r2 (zF (none,0,0) (none,0,0)) 30:=hb2;have he02:=he1.trans he2;refine zy (fun q w'=>∃ (i:Nat) (S:Spa) (F':Nat->Prop) (x:SLC) (raws:List Raw) (es:List Ent),i<=n1/\q=((i:Int),())/\ue w0 w' b db r1 r2 w2.heap.size S F' x raws es/\xE S es xs rows i) (fun q=>(n1-q.1).toNat)
  ⟨0,S0,F,(none,0,0),[],[],by omega,rfl,⟨h.ext' he02,hb1.ext he2,hb2,⟨Owni.nil _ _ _,rfl,fun i hi=>by cases hi⟩,fun k hk=>⟨fun e=>by have:=hFlt k hk;omega,fun e=>by have:=hFlt k hk;omega,fun hr=>by
   rcases hr with e|⟨j,hj,_⟩
   ·cases e
   ·cases hj⟩⟩,xE.init xs rows⟩ ?_
 rintro _ w3 ⟨i,S,F',x,raws,es,hi,rfl,hM,pl⟩;dsimp only;obtain⟨hb400,hb251,hpen⟩:=pl.bound
 by_cases hlt:i<n1
 ·refine zf (decide_eq_true (by omega)) ?_;have hs3:=hs.ext hM.st.ext;refine uP hs3 (by omega) (by omega) ?_;rw[Int.toNat_natCast];refine zg (fun hq=>?_) (fun hq=>?_)
  ·refine zS (ls:=yH) (yF x (none,0,0)) hM.b2 (by rfl) ?_;exact zcl (ok:=false) hM (by omega) (by omega) (fun e=>by cases e)
  have hq:=of_decide_eq_false hq;refine zN fun w4 he4 hz4 hh4=>?_;have hM4:=hM.ext' he4;have hs4:=hs3.ext he4;have eg:xs[i]?=some (xs.getD i ByteArray.empty):=by rw[getD_eq_getElem?_getD,List.getElem?_eq_getElem (by omega)];rfl
  refine xQ (E:=yI) hs4 (by omega) (x:=xs.getD i ByteArray.empty) (by rw[Int.toNat_natCast];exact eg) rfl ?_;intro pa hpa hca;rw[Int.toNat_natCast]at hca;refine zaW (l:=.str) (x:=xs.getD i ByteArray.empty) hca.1 ?_;have hcell:=hca.1;have hsz4:∀ k,F' k->k<w4.heap.size:=hM4.st.sp.lt;have hwu:wrap .u64 (i:Int)=(i:Int):=zD (by omega);rw[hwu];have one5:∀ P:SLC,∀ v∈yv.f (xs.getD i ByteArray.empty,P,0,i,0),v.oneCell'=true:=fun P=>yv.one _;have hBz:=hM4.b2.lt;have hB4:w2.heap.size<=w4.heap.size:=by
   have h1:=hM.b1.lt;have h2:=he4.size;have h3:r2<w4.heap.size:=hBz;omega
  have cont:∀ {w6:World} {r12:Nat} {P:SLC},Ext w4 w6->Blk w6 r12 (yv.f (xs.getD i ByteArray.empty,P,0,i,0)) 42->w4.heap.size<=r12->Owni qe 95 w6 w4.heap.size P.1 P.2.1 P.2.2 kq->_:=fun {w6 r12 P} he hb hr hp=>
   zmj (c1:=c1) (I:=fun q w'=>(∃ (i:Nat) (S:Spa) (F':Nat->Prop) (x:SLC) (raws:List Raw) (es:List Ent),i<=n1/\q=((i:Int),())/\ue w0 w' b db r1 r2 w2.heap.size S F' x raws es/\xE S es xs rows i)/\(n1-q.1).toNat<(n1-(i:Int)).toNat) (hs4.ext he) hlt (by omega) (hM4.ext' he) pl (fun hR=>by have:=(hM4.tabs.rows hR).2;omega) ⟨by omega,by omega,by omega,by omega,by omega⟩ hb (by omega) (fun hf=>by have:=hsz4 _ hf;omega) (hp.lower hB4) (fun k hk hf=>by have:=hsz4 _ hf;have:=hp.row k hk;omega) hr3 (fun w' e=>hs.ext e) (fun S' F'' x' raws' es' w' g1 g2=>⟨⟨i+1,S',F'',x',raws',es',by omega,rfl,g1,g2⟩,by omega⟩)
  refine⟨?_,?_⟩
  ·refine zb (zeJ w4) ?_;rintro _ w5 ⟨rp,rfl,hp,he5⟩;refine⟨(some ⟨rp,0,none⟩,2,2),rfl,?_⟩;refine xz (fun q hq=>by rw[mem_singleton.1 hq];exact he5.cell hcell) ?_;refine yN ?_;have he6:Ext w5 (w5.alloc (.cells #[(.string ByteArray.empty),(.slice none 0 0),(.int .u32 (0:Int)),(.int .u64 (0:Int)),(.int .i64 (0:Int))] 42)):=(Ext.refl w5).alloc _;refine xz (fun q hq=>by rw[mem_singleton.1 hq];exact(he5.trans he6).cell hcell) ?_;refine vR (vs:=yv.f (xs.getD i ByteArray.empty,(some ⟨rp,0,none⟩,2,2),0,i,0)) (Blk.new w5 _ _) (by rfl) (one5 _) (by rfl) ?_;intro w7 hb7 o7;have he57:Ext w5 w7:=Only.ext he6 o7 (fun j hj=>by have:j=w5.heap.size:=hj;omega);exact cont (he5.trans he57) hb7 he5.size (hp.ext he57)
  ·refine yN ?_;have he6:Ext w4 (w4.alloc (.cells #[(.string ByteArray.empty),(.slice none 0 0),(.int .u32 (0:Int)),(.int .u64 (0:Int)),(.int .i64 (0:Int))] 42)):=(Ext.refl w4).alloc _;have hbN:=Blk.new w4 #[(.string ByteArray.empty),(.slice none 0 0),(.int .u32 (0:Int)),(.int .u64 (0:Int)),(.int .i64 (0:Int))] 42;refine xz (fun q hq=>by rw[mem_singleton.1 hq];exact he6.cell hcell) ?_;refine zb (zeJ _) ?_;rintro _ w5 ⟨rp,rfl,hp,he5⟩;refine⟨(some ⟨rp,0,none⟩,2,2),rfl,?_⟩;have he46:=he6.trans he5;refine xz (fun q hq=>by rw[mem_singleton.1 hq];exact he46.cell hcell) ?_;have hbN5:=Blk.ext hbN he5;refine vR (vs:=yv.f (xs.getD i ByteArray.empty,(some ⟨rp,0,none⟩,2,2),0,i,0)) hbN5 (by rfl) (one5 _) (by rfl) ?_;intro w7 hb7 o7;have he47:Ext w4 w7:=Only.ext he46 o7 (fun j hj=>by have:j=w4.heap.size:=hj;omega);exact cont he47 hb7 (Nat.le_refl _) ((hp.only o7 (fun j hj e=>Owni.neB hp hbN5 (by decide) j hj e)).lower (by simp))
 obtain rfl:i=n1:=by omega
 refine zd (decide_eq_false (by omega)) ?_;refine zN fun w4 he4 hz4 hh4=>?_;have hM4:=hM.ext' he4;refine zS (ls:=yH) (yF x (none,0,0)) hM4.b2 (by rfl) ?_;refine zg (fun hq=>?_) (fun hq=>zcl (ok:=false) hM4 (by omega) (by omega) (fun e=>by cases e));have hq:=of_decide_eq_true hq;refine zS (ls:=yH) (yF x (none,0,0)) hM4.b2 (by rfl) ?_;have hcat:yK w4 x (none,0,0) (es,[]):=⟨⟨raws,hM4.tabs.row.sl,hM4.tabs.len,fun j hj=>⟨(hM4.tabs.at_ j hj).name,(hM4.tabs.at_ j hj).rest,(hM4.tabs.at_ j hj).cols.sl,(hM4.tabs.at_ j hj).cols.le.1⟩⟩,Sli.nil _ _,hM4.tabs.row.le.1,Nat.le_refl _⟩;refine zb (zf8 hcat) ?_;rintro _ w5 ⟨rfl,he5⟩;refine⟨_,rfl,?_⟩;have hM5:=hM4.ext' he5;refine xz (zdx hM5.b2) ?_;refine zcl hM5 (by omega) (by omega) (fun hh=>?_);rw[hl];refine⟨pl,by omega,?_⟩;cases hc:x5 (es,[]) with
 |true=>rfl
 |false=>rw[hc]at hh;cases hh
end V
/- Law 26:plain part;lives. -/
namespace V
open Go Go.Proofs Go.RowKit Crc
variable {w0 w w':World} {b db:Nat} {S S':Spa} {F:Nat->Prop} {R H:List Nat} {M:Option (List Nat)} {es:List Ent} {xs:List ByteArray} {rows:Nat}
theorem zcm {len:Nat} (h:len<=11000):nparts 238 len<=47:=by
 rcases Nat.lt_or_ge 47 (nparts 238 len) with h1|h1
 ·have:=(zaJ (r:=238) (len:=len) (i:=47) (by omega)).1 h1;omega
 ·exact h1
theorem xE.root {i:Nat} (h:xE S es xs rows i) {r:Nat} (hr:r∈zO es):zE S.sup.pages S.now r=true/\S.now.getD r 0=1/\zR S.page r=[]:=by
 obtain⟨j,hj,e1,e2⟩:=zft hr;obtain⟨r',e3,e4⟩:=h.ent j (by rw[<- h.len];exact hj);rw[e3]at e1;have e1:r'=r:=e1;subst e1;obtain⟨e5,e6⟩:=e4 e2;exact⟨h.great.good.well.root _ hr,e6,by unfold zR;rw[e5]⟩
theorem xE.facts {i:Nat} (h:xE S es xs rows i) (h8:i<=8):S.sup.pages.length=3/\S.r0=238/\S.dev.pen.length<=251/\243<=S.zY/\(zO es).length<=8:=by
 have h1:=h.mk_.free;rw[zbA]at h1;have h2:=h.mk_.r0;rw[zg6]at h2;have h3:(zO es).length<=es.length:=List.length_filterMap_le _ _;have h4:=h.len;exact⟨by rw[h.mk_.sup,zci],h2,h.bound.2.2,by omega,by omega⟩
theorem xE.frz {i:Nat} (h:xE S es xs rows i) (h8:i<=8) (hok:x5 (es,[])=true):zk4 S (es,[]) (zO es) [] none:=by
 obtain⟨f1,f2,f3,f4,f5⟩:=h.facts h8;have hal:alone (es,[])=(es,[]):=rfl;have hr:z8 (alone (es,[]))=zO es:=kH (es,[]);have hlen:=(qU.1 hok).len;have hnp:=zcm hlen;refine⟨h.great,hok,fun v hv=>?_,fun v hv=>?_,by omega,by rw[f2];omega,?_,?_⟩
 ·rw[hr]at hv;exact(h.root hv).1
 ·rw[hr]at hv;have:=(h.root hv).2.1;omega
 ·rw[f2,zk1,hal];omega
 ·rw[f2,hal,f1];omega
def nL (n:Nat):List Nat:=if n=0 then [] else [n]
theorem zji {i:Nat} (h:i<es.length):zO (es.drop i)=(if (es.getD i zQ).2.2.1=0 then [] else [(es.getD i zQ).2.2.1])++zO (es.drop (i+1)):=by
 rw[drop_eq_getElem_cons h];have e:es[i]=es.getD i zQ:=by rw[getD_eq_getElem?_getD,List.getElem?_eq_getElem h];rfl
 rw[e];unfold zO;rw[List.filterMap_cons];split
 ·rename_i hh;split at hh
  ·rename_i h0;rw[if_pos h0];rfl
  ·cases hh
 ·rename_i v hh;split at hh
  ·cases hh
  ·rename_i h0;injection hh with hh
   subst hh;rw[if_neg h0];rfl
theorem zdt (i:Nat):zO es=zO (es.take i)++zO (es.drop i):=by
 unfold zO;rw[<- List.filterMap_append,List.take_append_drop]
theorem zmk {n i:Nat} {c1 ls:List Nat} (h:xE S es xs rows i) (hF:zg7 S S' (es,[]) n (zO es) [] none c1 ls):Great S' (nL n++zO es) [] none/\(n≠0->zdE S' n (es,[])/\n∉zO es)/\(n=0->es=[])/\(∀ r∈zO es,S'.now.getD r 0=2/\S'.page r=S.page r):=by
 have hr:z8 (alone (es,[]))=zO es:=kH (es,[]);have hroots:∀ r∈zO es,S'.now.getD r 0=2/\S'.page r=S.page r:=by
  intro r hm;obtain⟨u1,u2,u3⟩:=h.root hm;have hcnt:=hF.cnt r;rw[hr,u2,h.nodup.count,if_pos hm]at hcnt;have hnl:r∉ls:=fun hk=>by
   have:=(zU.1 (hF.made.mem hk).2.2).1;have:c1.getD r 0=0:=this;omega
  refine⟨?_,hF.made.other r (by exact h.great.good.well.lt u1) hnl⟩;rw[hF.made.now,if_neg hnl];exact hcnt
 rcases hF.out with ⟨e1,e2,e3⟩|⟨e1,e2,e3⟩
 ·refine⟨?_,fun h0=>absurd e2 h0,fun _=>e1,hroots⟩;unfold nL;rw[if_pos e2];exact e3
 ·have hn2:=(zC.1 (e2.good.well.root n mem_cons_self)).1;refine⟨?_,fun _=>⟨e3,fun hm=>?_⟩,fun h0=>by omega,hroots⟩
  ·unfold nL;rw[if_neg (by omega)];exact e2
  ·-- a tree is no leaf of data
   obtain⟨k1,k2,k3⟩:=h.root hm;have hpg:=(hroots n hm).2;obtain⟨_,bn,bks,ht,_⟩:=e3;have hkid:zR S'.page n≠[]:=by
    cases ht with
    |one hA=>
     unfold zR;rw[hA.1];simp
    |two m a c' h1 h2 h3 h4 h5 h6 h7 h8=>
     unfold zR;rw[h6];simp
   apply hkid;unfold zR at k3 ⊢;rw[hpg];exact k3
theorem zml (hg:Great S [] [] none) (hm:S.mark=none) (hs:S.sup.pages.length=3) (hN:S.N=256):S.zY=251:=by
 have:=zfr hg hm;omega
end V
/- Law 26:lives;SnapsStay. -/
namespace V
open Go Go.Proofs Go.RowKit Crc
variable {w0 w w':World} {b db:Nat} {S S':Spa} {F:Nat->Prop} {R H:List Nat} {M:Option (List Nat)} {es:List Ent} {xs:List ByteArray} {rows:Nat}
def strt:ByteArray:=ByteArray.mk #[116]
def strs:ByteArray:=ByteArray.mk #[115]
def vS (k:Nat):Ent:=(strt,kq,k,1,1)
theorem zrl {k:Nat} (hk:k≠0):x5 ([vS k],[])=true:=by
 refine qU.2 ⟨by show 1<=16;omega,by show 0<=16;omega,fun e he=>?_,(fun s hs=>by cases hs),rfl,rfl⟩;rw[mem_singleton.1 he];exact⟨by kernel_rfl,zqJ,⟨by show(0:Int)<=1;omega,by show(1:Int)<=4096;omega⟩,⟨fun e=>absurd e hk,fun e=>by cases e⟩,by show 1<_;omega⟩
theorem zjj (h:z6 w b db S0 F):
  Calls prog 24 #[.pointer (some ⟨b,0,none⟩)] w (Ret fun v w'=>∃ x y S' k F',v=.agg (zF x y).toArray/\kg S0 S' ((7:UInt8),[],strt) k/\Great S' [k] [] none/\z6 w' b db S' F'/\(∀ k,F' k->F k\/w.heap.size<=k)/\Only F w w'/\Safe F' w' (fun w=>yx w 0 x y ([vS k],[]))):=by
 have hFlt:=h.lt;apply zpa;unfold S24;refine zp fun r1 w1 hb1 he1 hr1 hz1=>?_;have hroom:S0.room 0=(238:Nat):=by rw[(xK zav.good.dims).1,zg6]
 refine zb (zhW (p:=((7:UInt8),[],strt)) (A:=none) (n:=0) (c:=0) (h.ext he1) (by exact zav) (by rw[ziB];simp) (Sli.nil _ _) (fun a ha=>by cases ha) (by show 3<=7;omega) (by rw[hroom];show(0:Int)<=_;decide) (by show 1<=1000000000;omega)) ?_;rintro _ w2 ⟨S',k,e,rfl,hR,F',g1,g2,g3⟩;rcases hR with ⟨_,_,_,hbig⟩|⟨_,_,_,hfull⟩|⟨rfl,hP,hG,_,_⟩
 ·have:((238:Nat):Int)<((strt.size:Nat):Int):=by rw[<- hroom];exact hbig
  have:strt.size=1:=by kernel_rfl
  omega
 ·rw[zbA,zci]at hfull;omega
 refine⟨((k:Int),0,()),rfl,?_⟩;have hs1:=he1.size;have hlt':=g1.lt;have hb12:=hb1.only g3 (fun hf=>by have:=hFlt _ hf;omega);refine zb (zeJ w2) ?_;rintro _ w3 ⟨n,rfl,ho,he3⟩;refine⟨(some ⟨n,0,none⟩,2,2),rfl,?_⟩;refine zp fun r4 w4 hb4 he4 hr4 hz4=>?_;have he24:=he3.trans he4;refine vR (vs:=zF (some ⟨r4,0,none⟩,1,1) (none,0,0)) (hb12.ext he24) (by rfl) (yw _ _) (by rfl) ?_;intro w5 hb5 o5;have hs2:=g3.2.2.2.1;have hs3:=he3.size;have hb45:Blk w5 r4 (yv.flat [(strt,(some ⟨n,0,none⟩,2,2),k,1,1)]) 42:=by
  have:Blk w4 r4 (yv.flat [(strt,(some ⟨n,0,none⟩,2,2),k,1,1)]) 42:=hb4;exact this.only o5 (fun e=>by have:r4=r1:=e;have:=hb1.lt;omega)
 have hor:=ho.row;have ho5:=(ho.ext he4).only o5 (fun j hj e=>by have:=hor j hj;have:j=r1:=e;have:=hb1.lt;omega);have hO:yx w5 w2.heap.size (some ⟨r4,0,none⟩,1,1) (none,0,0) ([vS k],[]):=by
  refine⟨⟨[(strt,(some ⟨n,0,none⟩,2,2),k,1,1)],vZ hb45 rfl (by show 1<=9223372036854775807;omega) (by omega),rfl,fun i hi=>?_⟩,Owni.nil _ _ _⟩;have hi:i<1:=hi;obtain rfl:i=0:=by omega
  exact⟨rfl,rfl,ho5⟩
 have o25:Only (fun k=>k=r1) w2 w5:=Only.trans (Only.zz he24) o5 (fun j hj=>.inl hj);have hF1:∀ k,F' k->k≠r1:=fun j hj e=>by
  rcases g2 j hj with e1|e1
  ·have:=hFlt _ e1;omega
  ·have:=hb1.lt;omega
 refine zS (ls:=yH) (yF (some ⟨r4,0,none⟩,1,1) (none,0,0)) hb5 (by rfl) ⟨_,_,S',k,F',rfl,hP,hG,g1.only o25 (fun j hj e=>hF1 j hj e),fun j hj=>?_,?_,fun w6 o6=>(hO.only o6 (fun j hj=>hlt' j hj)).lower (Nat.zero_le _)⟩
 ·rcases g2 j hj with e|e
  ·exact .inl e
  ·exact .inr (by omega)
 ·refine Only.trans (Only.trans (Only.zz he1) g3 (fun j hj=>.inl hj)) o25 (fun j hj=>?_);have:j=r1:=hj;exact .inr (by omega)
theorem zqL {k:Nat} (hP:kg S0 S ((7:UInt8),[],strt) k) (hG:Great S [k] [] none):zk4 S ([vS k],[]) [k] [] none/\zO [vS k]=[k]:=by
 have h2:=hP.two;have hk0:k≠0:=by omega
 have hrt:zO [vS k]=[k]:=by
  show zO ([]++[vS k])=_;rw[ud,if_neg (show ¬(vS k).2.2.1=0 from hk0)];rfl
 have hr:z8 (alone ([vS k],[]))=[k]:=(kH ([vS k],[])).trans hrt;have hl:S0.now.length=S0.N:=zav.good.ok.now;have hok:=zrl hk0;have hlen:=(qU.1 hok).len;have hnp:=zcm hlen;have hmk:=hP.mk_ hl;have hf:=hmk.free;rw[zbA]at hf;have hf1:([k]:List Nat).length=1:=rfl;have hr0:S.r0=238:=by rw[hmk.r0,zg6]
 have hp:=hP.pen;rw[ziB]at hp;have hp0:([]:List (Int×ByteArray)).length=0:=rfl;refine⟨⟨hG,hok,fun v hv=>?_,fun v hv=>?_,by omega,by rw[hr0];omega,by rw[hr0,zk1];show(xU ([vS k],[])).length<=_;omega,?_⟩,hrt⟩
 ·rw[hr]at hv;exact hG.good.well.root v hv
 ·rw[hr,mem_singleton]at hv;subst hv;rw[hP.now,yn,if_pos ⟨rfl,by rw[hl];exact hP.lt⟩];omega
 ·rw[hr0,hP.sup,zci];show 3+nparts 238 (xU ([vS k],[])).length+4<=_;omega
theorem zmm (es:List Ent) (s:ByteArray):xj (es,[]) s=0:=Nat.le_zero.1 zdl
theorem zmn (es:List Ent) (s:ByteArray):¬vz (es,[]) s:=by
 rintro⟨h,_⟩;rw[zmm]at h;cases h
theorem zrm (es:List Ent) (s:ByteArray) (n:Nat):(([]:List Snp).insertIdx (xj (es,[]) s) (s,n))=[(s,n)]:=by rw[zmm];rfl
theorem zjk (w:World):Calls prog 7 #[] w (Ret fun v w'=>v=.bool true/\Ext w w'):=by
 apply zqT;unfold S7;refine zb (zea w) ?_;rintro _ w1 ⟨db,b,rfl,F,h1⟩;refine⟨some ⟨b,0,none⟩,rfl,zd (by rfl) ?_⟩;refine zb (zjj h1.sp) ?_;rintro _ w2 ⟨x,y,S2,k,F2,rfl,hP,hG,h2,hF2,o2,hC⟩;refine⟨yF x y,rfl,?_⟩;obtain⟨hfz,hrt⟩:=zqL hP hG;have hnm:yi (B (ByteArray.mk #[115]))=0:=by kernel_rfl
 refine zb (zaw (c:=([vS k],[])) (R:=[k]) (H:=[]) (M:=none) h2 (hC.mono fun _ h=>h.cat) ⟨by show 1<=1000;omega,by show 0<=1000;omega,fun e he=>by rw[mem_singleton.1 he];show 2<=1000;omega⟩ (fun _ _ _=>hfz)) ?_;rintro _ w3 (⟨hne,_⟩|⟨_,hth,_⟩|⟨_,_,h16,_⟩|⟨_,_,_,X,Y,S3,n,c1,ls,F3,rfl,hOk,h3,hF3,o3,hC3⟩)
 ·exact absurd hnm hne
 ·exact absurd hth (zmn _ _)
 ·cases h16
 refine⟨(yF X Y,0,()),rfl,?_⟩;rw[zrm]at hC3;have hC3:=hC3.now;have hx3:Ext w w3:=by
  refine Only.ext (Only.ext h1.ext o2 h1.low) o3 (fun j hj=>?_);rcases hF2 j hj with e|e
  ·exact h1.low j e
  ·have:=h1.ext.size;omega
 refine yh (vs:=zF X Y) (by rfl) (yw _ _) (fun r4 w4 hb4 he4 hr4=>?_) (by rfl);refine zf (by rfl) ?_;refine zS (ls:=yH) (yF X Y) hb4 (by rfl) ?_;refine zb (zdq (hC3.ext he4).cat (by show 1<=1000;omega)) ?_;rintro _ w5 ⟨⟨A,kk,rfl,ho⟩,he5⟩;refine⟨(A,1,kk),rfl,?_⟩;refine zp fun r7 w6 hb6 he6 hr6 hz6=>?_;have hs6:Sli yI w6 (some ⟨r7,0,none⟩) 1 [strs]:=Sli.xw (E:=yI) (xs:=[strs]) (by exact hb6) rfl (by omega);refine zb (zct (ho.ext he6).sl hs6) ?_;rintro _ w7 ⟨rfl,he7⟩;exact⟨_,rfl,rfl,((hx3.trans he4).trans he5).trans (he6.trans he7)⟩
theorem yK.tables {x y z:SLC} {es:List Ent} {ss:List Snp} (h:yK w x y (es,ss)) (hz:z=(none,0,0)):yK w x z (es,[]):=by
 subst hz;exact⟨h.1,Sli.nil _ _,h.2.2.1,Nat.le_refl _⟩
theorem yK.root {x y:SLC} {c:Cat} {i:Nat} {K:Int->WP} (h:yK w x y c) (hi:i<c.1.length) (hK:K ((c.1.getD i zQ).2.2.1:Int) w):
  (zc (0<=(i:Int)/\(i:Int)<((x.2.1:Nat):Int))<|zh x.1 fun(p15:Addr)=>ldW (.int .u32) ((p15.add (Int.toNat (i:Int)*5)).add 2) K) w:=by
 obtain⟨⟨raws,hT⟩,_⟩:=h;have hl:=hT.len;have hxl:=hT.sl.len;refine zaE (E:=yv) 2 (fun e:Raw=>((e.2.2.1:Nat):Int)) yM hT.sl (fun _=>rfl) rfl (by omega) (by omega) ?_;rw[Int.toNat_natCast,show(raws.getD i yM).2.2.1=(c.1.getD i zQ).2.2.1 by rw[(hT.at_ i hi).rest]];exact hK
theorem yK.xlen {x y:SLC} {c:Cat} (h:yK w x y c):c.1.length=x.2.1/\c.2.length=y.2.1:=by
 obtain⟨⟨raws,hT⟩,hs,_⟩:=h;exact⟨by rw[<- hT.len];exact hT.sl.len,hs.len⟩
theorem zrE (n:Int):∃ r:Nat,pick n 3=(r:Int)/\r<3:=by
 unfold pick;rw[if_neg (by omega)];exact⟨(n % 3).toNat,by omega,by omega⟩
end V
/- Law 26:SnapsStay. -/
namespace V
open Go Go.Proofs Go.RowKit Crc
variable {w0 w w':World} {b db:Nat} {S S':Spa} {F:Nat->Prop} {es:List Ent} {xs:List ByteArray} {rows:Nat}
theorem St.box {r:Nat} {cs:List Value} {t:TypeId} (h:z6 w b db S F) (hb:Blk w' r cs t) (hr:w.heap.size<=r):Safe F w' (fun w=>Blk w r cs t):=fun w2 o=>hb.only o (fun hf=>by have:=h.lt _ hf;omega)
theorem Safe.and {P Q:World->Prop} (h:Safe F w P) (k:Safe F w Q):Safe F w (fun w=>P w/\Q w):=fun w' o=>⟨h w' o,k w' o⟩
theorem zjP {s:ByteArray} (h:yi (B s)=0):B s≠[]:=by
 intro e;have:=qy h;rw[e]at this;simp at this
theorem zot (es:List Ent) (s:ByteArray) (n:Nat):yj (es,[(s,n)]) s=0:=by
 unfold yj yE;show((List.range 1).findIdx _)=0;simp[List.range,List.range.loop,List.findIdx_cons]
end V
/- Law 26:SnapsNone. -/
namespace V
open Go Go.Proofs Go.RowKit Crc
variable {w0 w w':World} {b db:Nat} {S S':Spa} {F:Nat->Prop} {R:List Nat} {es:List Ent} {xs:List ByteArray} {rows:Nat}
theorem zjl (hg:Good S R) (hR:∀ r∈R,zR S.page r=[]) {n:Nat} (hn:zE S.sup.pages S.now n=true):S.now.getD n 0=R.count n:=by
 obtain⟨rk,hr⟩:=hg.well.rank;have parent:∀ m,zE S.sup.pages S.now m=true->m∉R->∃ k,k<S.N/\zE S.sup.pages S.now k=true/\m∈zR S.page k:=by
  intro m hm hmR;obtain⟨a1,a2,a3⟩:=zC.1 hm;have hs:=hg.well.sum m a1 a2;rw[count_eq_zero.2 hmR,Nat.zero_add]at hs;apply Classical.byContradiction;intro hno;have:qo S.N S.sup.pages S.page S.now m=0:=by
   unfold qo;rw[qw (g:=fun _=>0) (fun k hk=>by
    unfold xr
    split
    ·rename_i huk
     exact count_eq_zero.2 (fun hmem=>hno ⟨k,hk,huk,hmem⟩)
    ·rfl)]
   exact qx S.N
  omega
 have nokids:∀ m,m<S.N->zE S.sup.pages S.now m=true->zR S.page m=[]:=by
  intro m hmN hm;apply Classical.byContradiction;intro hk;obtain⟨q,q1,q2,q3⟩:=zch (U:=fun k=>zE S.sup.pages S.now k&&!(zR S.page k).isEmpty) rk S.N ⟨m,hmN,by rw[hm,Bool.true_and,Bool.not_eq_true'];simpa using hk⟩;rw[Bool.and_eq_true,Bool.not_eq_true']at q2;have hqk:zR S.page q≠[]:=by simpa using q2.2
  obtain⟨p,p1,p2,p3⟩:=parent q q2.1 (fun hh=>hqk (hR q hh));have h1:=hr p p2 q p3;have h2:=q3 p p1 (by rw[p2,Bool.true_and,Bool.not_eq_true'];cases hz:zR S.page p with
   |nil=>rw[hz]at p3;cases p3
   |cons _ _=>rfl)
  omega
 obtain⟨a1,a2,a3⟩:=zC.1 hn;have hs:=hg.well.sum n a1 a2;have:qo S.N S.sup.pages S.page S.now n=0:=by
  unfold qo;rw[qw (g:=fun _=>0) (fun k hk=>by
   unfold xr
   split
   ·rename_i huk
    rw[nokids k hk huk];rfl
   ·rfl)]
  exact qx S.N
 omega
theorem zqM (es:List Ent) {s t:ByteArray} (n:Nat) (h:B s≠B t):¬yj (es,[(s,n)]) t<1:=by
 unfold yj;intro hlt;have hq:yE (fun j=>decide (B (((es,[(s,n)]):Cat).2.getD j zL).1=B t)) 1<1:=hlt;have h2:=zaL hq;have h3:=of_decide_eq_true h2;have h0:yE (fun j=>decide (B (((es,[(s,n)]):Cat).2.getD j zL).1=B t)) 1=0:=by omega
 rw[h0]at h3;exact h h3
end V
/- Law 26:SnapsApart. -/
namespace V
open Go Go.Proofs Go.RowKit Crc
variable {w0 w w':World} {b db:Nat} {S S':Spa} {F:Nat->Prop} {R:List Nat} {es:List Ent} {xs:List ByteArray} {rows:Nat}
theorem zqN {n:Nat} {ss:List Snp} {c1 ls:List Nat} (hg:Good S R) (hF:zg7 S S' (es,ss) n R [] none c1 ls):Great S' (nL n++R) [] none/\(n≠0->zdE S' n (es,[]))/\(n=0->es=[])/\(∀ r,zE S.sup.pages S.now r=true->S'.page r=S.page r):=by
 have hpg:∀ r,zE S.sup.pages S.now r=true->S'.page r=S.page r:=by
  intro r hu;have hnl:r∉ls:=fun hk=>by
   have h0:=(zU.1 (hF.made.mem hk).2.2).1;have h0:c1.getD r 0=0:=h0;have:=hF.cnt r;have:=(zC.1 hu).2.2;omega
  exact hF.made.other r (hg.well.lt hu) hnl
 rcases hF.out with ⟨e1,e2,e3⟩|⟨e1,e2,e3⟩
 ·refine⟨?_,fun h0=>absurd e2 h0,fun _=>e1,hpg⟩;unfold nL;rw[if_pos e2];exact e3
 ·have hn2:=(zC.1 (e2.good.well.root n mem_cons_self)).1;refine⟨?_,fun _=>e3,fun h0=>by omega,hpg⟩;unfold nL;rw[if_neg (by omega)];exact e2
theorem zmo {es:List Ent} {s t:ByteArray} {n m:Nat} (h:B s≠B t):∃ i,yj (es,[(s,n)].insertIdx (xj (es,[(s,n)]) t) (t,m)) s=i/\i<([(s,n)].insertIdx (xj (es,[(s,n)]) t) (t,m)).length/\([(s,n)].insertIdx (xj (es,[(s,n)]) t) (t,m)).length=2/\([(s,n)].insertIdx (xj (es,[(s,n)]) t) (t,m)).getD i zL=(s,n)/\([(s,n)].insertIdx (xj (es,[(s,n)]) t) (t,m)).eraseIdx i=[(t,m)]:=by
 have hp:xj (es,[(s,n)]) t=0\/xj (es,[(s,n)]) t=1:=by
  have:xj (es,[(s,n)]) t<=1:=zdl;omega
 rcases hp with e|e
 ·rw[e];refine⟨1,?_,by show 1<2;omega,rfl,rfl,rfl⟩;unfold yj yE;show((List.range 2).findIdx _)=1;have h1:decide (B t=B s)=false:=decide_eq_false (fun e=>h e.symm);simp[List.range,List.range.loop,List.findIdx_cons,h1]
 ·rw[e];refine⟨0,?_,by show 0<2;omega,rfl,rfl,rfl⟩;unfold yj yE;show((List.range 2).findIdx _)=0;simp[List.range,List.range.loop,List.findIdx_cons]
theorem zou {es:List Ent} {s t:ByteArray} {n:Nat} (h:B s≠B t):¬vz (es,[(s,n)]) t:=by
 rintro⟨h1,h2⟩;have h1:xj (es,[(s,n)]) t<1:=h1;have e:xj (es,[(s,n)]) t=0:=by omega
 rw[e]at h2;exact h h2
structure zrF (S2:Spa) (es:List Ent) (i:Nat) (S:Spa):Prop where
 is_:∃ c,S={ S2 with now:=c }
 great:Great S (zO (es.drop i)) [] none
theorem zov {i r:Nat} (hg:Good S (zO (es.drop i))) (hk:∀ q∈zO es,zR S.page q=[]) (hnd:(zO es).Nodup) (hr:r∈zO (es.drop i)):S.now.getD r 0=1:=by
 have hsub:∀ q∈zO (es.drop i),q∈zO es:=fun q hq=>by rw[zdt (es:=es) i];exact mem_append_right _ hq
 have hnd2:(zO (es.drop i)).Nodup:=by
  rw[zdt (es:=es) i]at hnd;exact(List.nodup_append.1 hnd).2.1
 rw[zjl hg (fun q hq=>hk q (hsub q hq)) (hg.well.root r hr),hnd2.count,if_pos hr]
theorem zjm (w:World) {A1:Option Addr} {n1 c1:Nat} (hs:Sli yI w A1 n1 xs) {x1:Int} (hx0:-9223372036854775808<=x1) (hx1:x1<9223372036854775808) (s t:ByteArray):
  Calls prog 4 #[.slice A1 n1 c1,.int .i64 x1,.string s,.string t] w (Ret fun v w'=>v=.bool true/\Ext w w'):=by
 apply zqS;unfold S4;refine zb (zjk w) ?_;rintro _ w1 ⟨rfl,he1⟩;refine⟨_,rfl,zd (by rfl) ?_⟩;refine zb (zea w1) ?_;rintro _ w2 ⟨db,b,rfl,F,h2⟩;have h2:=St.pre he1 h2;refine⟨some ⟨b,0,none⟩,rfl,zd (by rfl) ?_⟩;refine zb (zjH h2.sp) ?_;rintro _ w3 ⟨rfl,he3⟩;refine⟨_,rfl,?_⟩;have h3:=h2.ext' he3;obtain⟨rows,hrow,hr3⟩:=zrE x1;refine zb (zj6 w3 hx0 hx1 (by omega)) ?_;rintro _ w4 ⟨rfl,hw4⟩;refine⟨_,rfl,?_⟩;rw[hw4,hrow];refine zb (zk7 (c1:=c1) h3 hs hr3) ?_;rintro _ w5 ⟨x,y,ok,rfl,he5,hok⟩;refine⟨(yF x y,ok,()),rfl,?_⟩;refine yh (vs:=zF x y) (by rfl) (yw _ _) (fun r6 w6 hb6 he6 hr6=>?_) (by rfl);have he06:=he5.trans he6;cases ok with
 |false=>exact zf (by rfl) ⟨rfl,he06⟩
 |true=>
 refine zd (by rfl) ?_;obtain⟨S1,F1,es,hy,st5,pl,h8,hcat,hC5⟩:=hok rfl;obtain⟨f1,f2,f3,f4,f5⟩:=pl.facts h8;have hesl:=pl.len;refine zg (fun _=>⟨rfl,he06⟩) (fun hq=>?_);rw[qh]at hq;have hst:B s≠B t:=of_decide_eq_false hq;refine zb (kG w6 s) ?_;rintro _ w7 ⟨rfl,he7⟩;refine⟨_,rfl,?_⟩;refine zg (fun _=>⟨rfl,he06.trans he7⟩) (fun hq1=>?_);refine zb (kG w7 t) ?_;rintro _ w8 ⟨rfl,he8⟩;refine⟨_,rfl,?_⟩;refine zg (fun _=>⟨rfl,(he06.trans he7).trans he8⟩) (fun hq2=>?_);have hns:yi (B s)=0:=bne_eq_false_iff_eq.1 hq1;have hnt:yi (B t)=0:=bne_eq_false_iff_eq.1 hq2;have he68:=(he6.trans he7).trans he8;have st8:=st5.ext' he68;have hP8:Safe F1 w8 (fun w=>yK w x y (es,[])/\Blk w r6 (zF x y) 30):=((hC5.mono fun _ h=>h.cat).ext he68).and (St.box st5.sp (hb6.ext (he7.trans he8)) hr6);have hlt:zaP (es,[]):=by
  refine⟨by show es.length<=1000;omega,by show 0<=1000;omega,fun e he=>?_⟩;have:=((qU.1 hcat).ents e he).2.1;have:=(zaK this).1;omega
 have hlen:=(qU.1 hcat).len;have hnp:=zcm hlen
 -- the first snapshot
 refine zS (ls:=yH) (yF x y) hP8.now.2 (by rfl) ?_;refine zb (zaw (c:=(es,[])) (s:=s) (R:=zO es) (H:=[]) (M:=none) st8.sp (hP8.mono fun _ h=>h.1) hlt (fun _ _ _=>pl.frz h8 hcat)) ?_;rintro _ w9 (⟨hne,_⟩|⟨_,hth,_⟩|⟨_,_,h16,_⟩|⟨_,_,_,X,Y,S2,n,c1',ls,F2,rfl,hOk,h9,hF2,o9,hA9⟩)
 ·exact absurd hns hne
 ·exact absurd hth (zmn _ _)
 ·cases h16
 rw[zrm]at hA9;obtain⟨g1,g2,g3,g4⟩:=zmk pl hOk;have st9:St w w9 b db S2 F2:=⟨h9,fun k hk=>by
  rcases hF2 k hk with e|e
  ·exact st8.low k e
  ·exact Nat.le_trans st8.ext.size e,Only.ext st8.ext o9 st8.low⟩
 have hP9:=(hP8.step o9 hF2).and (hA9.mono fun _ h=>h.cat);refine⟨(yF X Y,0,()),rfl,?_⟩;refine yh (vs:=zF X Y) (by rfl) (yw _ _) (fun r11 w10 hb10 he10 hr10=>?_) (by rfl);have st10:=st9.ext' he10;have hP10:=hP9.ext he10
 -- the second one
 have hlt2:zaP (es,[(s,n)]):=⟨hlt.1,by show 1<=1000;omega,hlt.2.2⟩;have hmk2:=hOk.made;have hS2sup:S2.sup=S1.sup:=hmk2.sup;have hrt:z8 (alone (es,[(s,n)]))=zO es:=kH (es,[(s,n)]);have hfew:=hOk.few;have hal:alone (es,[])=(es,[]):=rfl;rw[hal,f2]at hfew;have hf2':=hmk2.free;have hfm:({ S1 with now:=c1' }:Spa).zY=S1.zY:=zfs (l:=zO es) (R:=[]) (H:=[]) (M:=none) (fun v hv=>(pl.root hv).1) (fun k=>by have:=hOk.cnt k;rw[kH]at this;exact this);rw[hfm]at hf2';have hr2:S2.r0=238:=by rw[hmk2.r0];exact f2
 have hpen2:=hmk2.pen;have hpen2:S2.dev.pen.length=S1.dev.pen.length+ls.length:=hpen2;have hfz2:zk4 S2 (es,[(s,n)]) (nL n++zO es) [] none:=by
  refine⟨g1,hcat,fun v hv=>?_,fun v hv=>?_,by omega,by rw[hr2];omega,?_,?_⟩
  ·rw[hrt]at hv;exact g1.good.well.root v (mem_append_right _ hv)
  ·rw[hrt]at hv;have:=(g4 v hv).1;omega
  ·rw[hr2,zk1];show(xU (es,[])).length<=_;omega
  ·rw[hr2,hS2sup,f1];show 3+nparts 238 (xU (es,[])).length+4<=_;omega
 refine zS (ls:=yH) (yF X Y) hb10 (by rfl) ?_;refine zb (zaw (c:=(es,[(s,n)])) (s:=t) (R:=nL n++zO es) (H:=[]) (M:=none) st10.sp (hP10.mono fun _ h=>h.2) hlt2 (fun _ _ _=>hfz2)) ?_;rintro _ w11 (⟨hne,_⟩|⟨_,hth,_⟩|⟨_,_,h16,_⟩|⟨_,_,_,X2,Y2,S3,m,c2',ls2,F3,rfl,hOk2,h11,hF3,o11,hA11⟩)
 ·exact absurd hnt hne
 ·exact absurd hth (zou hst)
 ·have h16:16<=1:=h16;omega
 obtain⟨k1,k2,k3,k4⟩:=zqN g1.good hOk2;have st11:St w w11 b db S3 F3:=⟨h11,fun k hk=>by
  rcases hF3 k hk with e|e
  ·exact st10.low k e
  ·exact Nat.le_trans st10.ext.size e,Only.ext st10.ext o11 st10.low⟩
 obtain⟨i,hi1,hi2,hi3,hi4,hi5⟩:=zmo (es:=es) (s:=s) (t:=t) (n:=n) (m:=m) hst;generalize hl2:[(s,n)].insertIdx (xj (es,[(s,n)]) t) (t,m)=l2 at *;have hP11:=(hP10.step o11 hF3).and (hA11.mono fun _ h=>h.cat);refine⟨(yF X2 Y2,0,()),rfl,?_⟩;refine yh (vs:=zF X2 Y2) (by rfl) (yw _ _) (fun r14 w12 hb12 he12 hr12=>?_) (by rfl);have st12:=st11.ext' he12;have hP12:=hP11.ext he12
 -- the first one goes
 have hlt3:zaP (es,l2):=⟨hlt.1,by show l2.length<=1000;omega,hlt.2.2⟩;refine zS (ls:=yH) (yF X2 Y2) hb12 (by rfl) ?_;refine zb (zd9 (c:=(es,l2)) (s:=s) (R:=nL m++zO es) (H:=[]) (M:=none) st12.sp (hP12.mono fun _ h=>h.2) hlt3 (fun _=>?_)) ?_
 ·rw[hi1,hi4]
  by_cases h0:n=0
  ·refine .inl ⟨h0,?_⟩;have hg:=k1;unfold nL at hg;rw[if_pos h0]at hg;unfold nL;exact hg
  ·refine .inr ⟨h0,?_⟩;have e:nL n=[n]:=by unfold nL;rw[if_neg h0]
   rw[e]at k1;exact k1.perm List.perm_middle
 rintro _ w13 (⟨hnf,_⟩|⟨_,X3,Y3,c3,F4,rfl,hG4,_,_,sp13,hF4,o13,hA13⟩)
 ·exact absurd (by rw[hi1];exact hi2) hnf
 rw[hi1]at hA13;rw[show((es,l2):Cat).2.eraseIdx i=[(t,m)] from hi5]at hA13;have st13:St w w13 b db { S3 with now:=c3 } F4:=⟨sp13,fun k hk=>by
  rcases hF4 k hk with e|e
  ·exact st12.low k e
  ·exact Nat.le_trans st12.ext.size e,Only.ext st12.ext o13 st12.low⟩
 have hP13:=(hP12.step o13 hF4).and (hA13.mono fun _ h=>h.cat);refine⟨(yF X3 Y3,0,()),rfl,?_⟩;refine yh (vs:=zF X3 Y3) (by rfl) (yw _ _) (fun r17 w14 hb14 he14 hr14=>?_) (by rfl);refine zd (by rfl) (zd (by rfl) (zd (by rfl) ?_));have st14:=st13.ext' he14;have hP14:=(hP13.ext he14).and (St.box st13.sp hb14 hr14);refine zS (ls:=yH) (yF X3 Y3) hb14 (by rfl) ?_;have hZ14:yK w14 X3 Y3 (es,[(t,m)]):=hP14.now.1.2;refine zb (zdq hZ14 (by show 1<=1000;omega)) ?_;rintro _ w15 ⟨⟨A,kk,rfl,ho⟩,he15⟩;refine⟨(A,1,kk),rfl,?_⟩;refine zp fun r20 w16 hb16 he16 hr16 hz16=>?_;have hs16:Sli yI w16 (some ⟨r20,0,none⟩) 1 [t]:=Sli.xw (E:=yI) (xs:=[t]) (by exact hb16) rfl (by omega);refine zb (zct (ho.ext he16).sl hs16) ?_;rintro _ w17 ⟨rfl,he17⟩;refine⟨_,rfl,zd (by rw[show List.map (fun(s:Snp)=>s.fst) (es,[(t,m)]).snd=[t] from rfl,decide_eq_true rfl];rfl) ?_⟩;have he1417:=(he15.trans he16).trans he17;have st17:=st14.ext' he1417;have hP17:=hP14.ext he1417;refine zS (ls:=yH) (yF X3 Y3) hP17.now.2 (by rfl) ?_;have hft:yj (es,[(t,m)]) t=0:=zot es t m;have hgot:zdr { S3 with now:=c3 } m (es,[]) 0:=by
  by_cases h0:m=0
  ·have:=k3 h0;rw[this];exact zdr.none h0
  ·obtain⟨bn,bks,ht,hb⟩:=(k2 h0).tree;have hu:zE ({ S3 with now:=c3 }:Spa).sup.pages ({ S3 with now:=c3 }:Spa).now m=true:=hG4.good.well.root m (by unfold nL;rw[if_neg h0];simp);exact zdr.cat ⟨(k2 h0).isC,bn,bks,ht.keep (fun k _=>rfl),hb.keep rfl (fun k _=>rfl)⟩ hG4.good hu
 have hlv:((es,[(t,m)]):Cat).2.getD (yj (es,[(t,m)]) t) zL=(t,m):=by rw[hft];rfl
 refine zb (zcB (c:=(es,[(t,m)])) (s:=t) st17.sp hP17.now.1.2 (zjP hnt) (f:=(es,[])) (e:=0) (fun _=>by rw[hlv];exact hgot)) ?_;rintro _ w18 ⟨⟨_,_,X',Y',rfl,hO18⟩|⟨_,hne,_⟩|⟨hnf,_⟩,he18⟩;rotate_left
 ·exact absurd rfl hne
 ·exact absurd (show yj (es,[(t,m)]) t<1 by rw[hft];omega) hnf
 refine⟨(X',0,()),rfl,?_⟩;have st18:=st17.ext' he18;have hP18:=hP17.ext he18;refine zS (ls:=yH) (yF X3 Y3) hP18.now.2 (by rfl) ?_;have hnf2:=zqM es m (show B t≠B s from fun e=>hst e.symm);refine zb (zcB (c:=(es,[(t,m)])) (s:=s) st18.sp hP18.now.1.2 (zjP hns) (f:=za5) (e:=0) (fun hh=>absurd hh hnf2)) ?_;rintro _ w19 ⟨⟨hf,_⟩|⟨hf,_⟩|⟨_,rfl⟩,he19⟩
 ·exact absurd hf hnf2
 ·exact absurd hf hnf2
 refine⟨((none,0,0),211,()),rfl,?_⟩;refine zd (by rfl) (zd (by rfl) ?_);have hP19:=hP18.ext he19;have hb619:=hP19.now.1.1.1.1.2;have hx19:=hP19.now.1.1.1.1.1;refine zJ x hb619 (by rfl) ?_;refine zb (zkU (x:=X') (y:=(none,0,0)) (x2:=x) (y2:=(none,0,0)) (c:=(es,[])) (c2:=(es,[])) ((hO18.ext he19).cat.tables rfl) (hx19.tables rfl)) ?_;rintro _ w20 ⟨⟨vb,rfl,hvb⟩,he20⟩;refine⟨_,rfl,zd (by rw[hvb.2 rfl];rfl) ?_⟩;have st20:=(st18.ext' he19).ext' he20;have hP20:=hP19.ext he20;refine zS (ls:=yH) (yF X3 Y3) hP20.now.2 (by rfl) ?_;have hlt4:zaP (es,[(t,m)]):=⟨hlt.1,by show 1<=1000;omega,hlt.2.2⟩;refine zb (zd9 (c:=(es,[(t,m)])) (s:=t) (R:=zO es) (H:=[]) (M:=none) st20.sp (hP20.mono fun _ h=>h.1.2) hlt4 (fun _=>?_)) ?_
 ·rw[hlv];have hg:=hG4;unfold nL at hg
  by_cases h0:m=0
  ·rw[if_pos h0]at hg;exact .inl ⟨h0,hg⟩
  ·rw[if_neg h0]at hg;exact .inr ⟨h0,hg⟩
 rintro _ w21 (⟨hnf,_⟩|⟨_,X4,Y4,c4,F5,rfl,hG5,_,_,sp21,hF5,o21,hA21⟩)
 ·exact absurd (show yj (es,[(t,m)]) t<1 by rw[hft];omega) hnf
 rw[hft]at hA21;have st21:St w w21 b db { S3 with now:=c4 } F5:=⟨sp21,fun k hk=>by
  rcases hF5 k hk with e|e
  ·exact st20.low k e
  ·exact Nat.le_trans st20.ext.size e,Only.ext st20.ext o21 st20.low⟩
 refine⟨(yF X4 Y4,0,()),rfl,?_⟩;refine yh (vs:=zF X4 Y4) (by rfl) (yw _ _) (fun r30 w22 hb22 he22 hr22=>?_) (by rfl);have st22:=st21.ext' he22;have hP22:Safe F5 w22 (fun w=>yK w X4 Y4 (es,[])/\Blk w r30 (zF X4 Y4) 30):=((hA21.mono fun _ h=>h.cat).ext he22).and (St.box st21.sp hb22 hr22);have hkids:∀ q∈zO es,zR S3.page q=[]:=by
  intro q hq;obtain⟨u1,_,u3⟩:=pl.root hq;have e1:=(g4 q hq).2;have e2:=k4 q (g1.good.well.root q (mem_append_right _ hq));unfold zR at u3 ⊢;rw[e2,e1];exact u3
 -- the tables' references go
 refine zy (fun q w'=>∃ (i:Nat) (S:Spa) (F:Nat->Prop),i<=es.length/\q=((i:Int),())/\St w w' b db S F/\zrF S3 es i S/\Safe F w' (fun w=>yK w X4 Y4 (es,[])/\Blk w r30 (zF X4 Y4) 30)) (fun q=>(es.length-q.1).toNat)
  ⟨0,_,F5,by omega,rfl,st22,⟨⟨_,rfl⟩,hG5⟩,hP22⟩ ?_
 rintro _ w23 ⟨j,S,F6,hj,rfl,st23,⟨⟨c6,hSc⟩,dg⟩,hP23⟩;dsimp only;obtain⟨q3,q4⟩:=hP23.now;have hXl:es.length=X4.2.1:=q3.xlen.1;have hYl:0=Y4.2.1:=q3.xlen.2;refine zJ X4 q4 (by rfl) ?_
 by_cases hlti:j<es.length
 ·refine zf (decide_eq_true (by omega)) (zJ X4 q4 (by rfl) ?_);have hw:wrap .i64 ((j:Int)+1)=((j+1:Nat):Int):=by rw[wrap_i64 (by omega) (by omega)];rfl
  rw[hw];have e:=zji hlti;refine q3.root hlti ?_;show za (((es.getD j zQ).2.2.1:Int) !=0) _ _ w23
  by_cases h0:(es.getD j zQ).2.2.1=0
  ·rw[if_pos h0,nil_append]at e;exact zd (bne_eq_false_iff_eq.2 (by omega)) ⟨⟨j+1,S,F6,by omega,rfl,st23,⟨⟨c6,hSc⟩,by rw[<- e];exact dg⟩,hP23⟩,by omega⟩
  ·rw[if_neg h0]at e;refine zf (bne_iff_ne.2 (by omega)) (zJ X4 q4 (by rfl) ?_);refine q3.root hlti ?_;have hone:=zov (r:=(es.getD j zQ).2.2.1) dg.good (fun q hq=>by rw[hSc];exact hkids q hq) pl.nodup (by rw[e];simp);have dg':=dg;rw[e]at dg';have hr32:(es.getD j zQ).2.2.1<4294967296:=by
    have:=dg'.good.well.lt (dg'.good.well.root _ mem_cons_self);have:=dg'.good.dims.n;omega
   show ze _ _ [_,.int .u32 ((es.getD j zQ).2.2.1:Int)] _ _ w23;refine zb (zn9 st23.sp hr32) ?_;rintro _ w24 ⟨rfl,hw24⟩;refine⟨_,rfl,?_⟩;rw[hw24,hone];refine zd (by rfl) (zJ X4 q4 (by rfl) ?_);refine q3.root hlti ?_;show ze _ _ [_,.int .u32 ((es.getD j zQ).2.2.1:Int)] _ _ w23;refine zb (zfS st23.sp dg') ?_;rintro _ w25 ⟨rfl,c',hG',hst',hD,hle⟩;obtain⟨F7,st25,keep⟩:=st23.step hst';exact⟨_,rfl,zd (by rfl) ⟨⟨j+1,_,F7,by omega,rfl,st25,⟨⟨c',by rw[hSc]⟩,hG'⟩,keep _ hP23⟩,by omega⟩⟩
 obtain rfl:j=es.length:=by omega
 refine zd (decide_eq_false (by omega)) ?_;rw[List.drop_eq_nil_of_le (Nat.le_refl _)]at dg;have dg:Great S [] [] none:=dg;refine zf (by rfl) (zm 1 Y4 q4 (by rfl) ?_);refine zf (beq_iff_eq.2 (by omega)) ?_;have hmk:Mk S0 S1 (zO es):=pl.mk_;have hS3sup:S3.sup=S1.sup:=hOk2.made.sup.trans hS2sup;have hfree:S.zY=251:=by
  refine zml dg ?_ ?_ ?_
  ·rw[hSc];show S3.mark=none;rw[hOk2.made.mark];show S2.mark=none;rw[hmk2.mark];show S1.mark=none;rw[hmk.mark];rfl
  ·rw[hSc];show S3.sup.pages.length=3;rw[hS3sup];exact f1
  ·rw[hSc];show S3.sup.blocks.toNat=256;rw[hS3sup,hmk.sup];rfl
 refine zb (zjH st23.sp) ?_;rintro _ w24 ⟨rfl,he24⟩;refine⟨_,rfl,?_⟩;rw[hfree,zbA];refine zf (by rfl) ?_;have st24:=st23.ext' he24;refine zb (zlR st24.zc2 dg.good) ?_;rintro _ w25 ⟨rfl,he25⟩;exact⟨_,rfl,rfl,st24.ext.trans he25⟩
end V
end Go.Proofs.YtpagephahcnijaaGreat
