/- Texts of mine, merged (wip/tool/mergep.py): KShare, KGet6, CatN, KSnaps, KSnaps2, KSnaps3, KCell, KSchema3, KRChk, L, L2, L3, L4, LStay. -/
import Derived.Test.YtpagephahcnijaaGreatM6
import Derived.Test.YtpagephahcnijaaGreatM1
import Derived.Test.YtpagephahcnijaaGreatChecked
import Derived.Test.YtpagephahcnijaaGreatM3
import Derived.Test.YtpagephahcnijaaGreatM5
open Go.IntKind (wrap)
open Go.Proofs.Tryz (prog)
open List (mem_cons_self mem_cons_of_mem mem_cons length_cons map_map mem_append mem_append_left mem_append_right drop_drop mem_range mem_of_getElem? getElem_mem mem_iff_getElem map_cons mem_map append_assoc nodup_cons foldl_cons length_nil append_nil length_map nil_append length_set eq_nil_of_length_eq_zero range_succ map_congr_left length_append drop_of_length_le take_of_length_le getD_eq_getElem?_getD mem_singleton length_take drop_eq_getElem_cons length_drop take_succ_eq_append_getElem take_add_one not_mem_nil map_append take_left' length_replicate drop_left' flatMap_cons length_range getElem_range flatMap_append length_singleton count_cons count_eq_zero)
set_option linter.unusedVariables false
set_option linter.unusedSimpArgs false
namespace Go.Proofs.YtpagephahcnijaaGreat
/- Contracts of the package catalog:Share. -/
namespace V
open Go Go.Proofs Go.RowKit Crc
variable {w w':World} {b db:Nat} {S:Spa} {F:Nat->Prop} {R H:List Nat} {M:Option (List Nat)}
theorem zd2 (x y:SLC) (c:Cat):(z7 x y c).map (fun p=>p.2.2)=z8 c:=by
 have:=zcd x y c;unfold z8;rw[<- this,map_map];rfl
theorem zmg {x y:SLC} {c:Cat} {Asp:Option Addr} {n k i:Nat} {B0:Nat} {K:Int->WP} (hC:yJ w x y c) (hs:Owni spE 135 w B0 Asp n k ((z7 x y c).map spP)) (hi:i<(z7 x y c).length) (hn:n=(z7 x y c).length)
  (hK:∀ w' (p:Spt),Ext w w'->(z7 x y c)[i]?=some p->K (p.2.2:Int) w'):
  (zc (0<=(i:Int)/\(i:Int)<((n:Nat):Int))<|
   zh Asp fun(p5:Addr)=>
   zl [(.int .u64),.ptr] (p5.add (Int.toNat (i:Int)*2)) fun(u6:(Int×Option Addr×Unit))=>
   zi (.cells #[(.int .u64 (0:Int)),(.pointer none)] 135) fun(r7:Nat)=>
   zc ((#[(.int .u64 u6.1),(.pointer u6.2.1)]:Array Value).size=2)<|
   zq (aD r7) [(.int .u64 u6.1),(.pointer u6.2.1)]<|
   ldW .ptr ((aD r7).add 1) fun(u8:Option Addr)=>
   zh u8 fun(p9:Addr)=>ldW (.int .u32) p9 K) w:=by
 have eg:(z7 x y c)[i]?=some ((z7 x y c)[i]'hi):=List.getElem?_eq_getElem hi;have hmem:(z7 x y c)[i]'hi∈z7 x y c:=getElem_mem hi;generalize (z7 x y c)[i]'hi=p at *;refine xQ hs.sl (by omega) (x:=spP p) (by rw[Int.toNat_natCast,List.getElem?_map,eg];rfl) rfl ?_;intro pa hpa hca;refine qn (ls:=[.int .u64,.ptr]) (x:=((p.1:Int),some p.2.1,())) hca ?_;refine yi (vs:=[.int .u64 (p.1:Int),.pointer (some p.2.1)]) (by rfl) (by
  intro v hv
  simp only [mem_cons,not_mem_nil,or_false]at hv
  rcases hv with rfl|rfl<;>rfl) (fun r7 w1 hb1 he1 hr1=>?_) (by rfl)
 refine zm 1 (some p.2.1) hb1 (by rfl) (zu ?_);exact zaV (l:=.int .u32) (x:=((p.2.2:Nat):Int)) (he1.cell (zbc hC p hmem)) (hK w1 p he1 eg)
theorem zf2 (h:zY w b db S F) {x y:SLC} {c:Cat} (hC:Safe F w fun w=>yJ w x y c) (h1:c.1.length<=1000) (h2:c.2.length<=1000) (hg:Great S R H M) (hu:∀ v∈z8 c,zK S.sup.pages S.now v=true) (h6:∀ v∈z8 c,S.now.getD v 0+(z8 c).length<65535):
  Calls prog 35 #[.pointer (some ⟨b,0,none⟩),.agg (zG x y).toArray] w (Ret fun v w'=>v=.int .i64 0/\∃ c':List Nat,Great { S with now:=c' } (z8 c++R) H M/\yM w b db F { S with now:=c' } w'/\∀ k,c'.getD k 0=S.now.getD k 0+(z8 c).count k):=by
 apply zpi;unfold S35;have hFlt:=h.lt;refine zp fun r1 w1 hb1 he1 hr1 hz1=>?_;have hb1:Blk w1 r1 (zG x y) 30:=hb1;refine zb (zbb hb1 (hC.now.ext he1) h1 h2) ?_;rintro _ w2 ⟨Asp,ksp,rfl,hsp,he2⟩;refine⟨(Asp,(z7 x y c).length,ksp),rfl,?_⟩;have he02:=he1.trans he2;have hs1:=he1.size;have hrs:=zd2 x y c;have hspl:=zaO x y c;have hkv:=zfi c;have hrl:(z8 c).length=(z7 x y c).length:=by rw[<- hrs,length_map]
 have hsafe:Safe F w2 (fun w=>yJ w x y c/\Owni spE 135 w w1.heap.size Asp (z7 x y c).length ksp ((z7 x y c).map spP)):=fun w3 o=>⟨(hC.ext he02) w3 o,hsp.only o (fun j hj hf=>by have:=hsp.row j hj;have:=hFlt j hf;omega)⟩;refine zy (fun q w'=>∃ (i:Nat) (F':Nat->Prop) (c':List Nat),i<=(z7 x y c).length/\q=((i:Int),())/\zY w' b db { S with now:=c' } F'/\(∀ k,F' k->F k\/w.heap.size<=k)/\Only F w w'/\Great { S with now:=c' } (((z8 c).take i).reverse++R) H M/\(∀ k,c'.getD k 0=S.now.getD k 0+((z8 c).take i).count k)/\Safe F' w' (fun w=>yJ w x y c/\Owni spE 135 w w1.heap.size Asp (z7 x y c).length ksp ((z7 x y c).map spP))) (fun q=>((z7 x y c).length-q.1).toNat)
  ⟨0,F,S.now,by omega,rfl,h.ext he02,fun k hk=>.inl hk,Only.zB he02,by exact hg,fun k=>by simp,hsafe⟩ ?_
 rintro _ w3 ⟨i,F',c',hi,rfl,g1,g2,g3,g4,g5,g6⟩;dsimp only
 by_cases hlt:i<(z7 x y c).length
 ·refine zf (decide_eq_true (by omega)) ?_;refine zmg g6.now.1 g6.now.2 hlt rfl ?_;intro w4 p he4 hp;have hpr:(z8 c)[i]?=some p.2.2:=by rw[<- hrs,List.getElem?_map,hp];rfl
  have hmem:=mem_of_getElem? hpr;have hcnt:((z8 c).take i).count p.2.2<=(z8 c).length:=by
   have:=List.count_le_length (a:=p.2.2) (l:=(z8 c).take i);rw[length_take]at this;omega
  have h6':=h6 _ hmem;have huu:=hu _ hmem;have hu':zK S.sup.pages c' p.2.2=true:=by
   obtain⟨u1,u2,u3⟩:=zI.1 huu;exact zI.2 ⟨u1,u2,by rw[g5];omega⟩
  have h65:c'.getD p.2.2 0<65535:=by rw[g5];omega
  refine zb (zhV (g1.ext he4) (n:=p.2.2) g4 (by exact hu') (by exact h65)) ?_;rintro _ w5 ⟨rfl,hG,F5,k1,k2,k3⟩;refine⟨_,rfl,zd (by rfl) ?_⟩;have hw:wrap .i64 ((i:Int)+1)=((i+1:Nat):Int):=by rw[wrap_i64 (by omega) (by omega)];rfl
  rw[hw];have o35:Only F' w3 w5:=Only.trans (Only.zB he4) k3 (fun j hj=>.inl hj);have hs4:=he4.size;have htk:(z8 c).take (i+1)=(z8 c).take i++[p.2.2]:=by
   have hlt':i<(z8 c).length:=by omega
   rw[take_succ_eq_append_getElem hlt'];rw[List.getElem?_eq_getElem hlt']at hpr;injection hpr with hpr
   rw[hpr]
  have hnN:p.2.2<c'.length:=by
   have h1:=g4.good.well.lt hu';have h2:=g4.good.ok.now;have h3:({ S with now:=c' }:Spa).now.length=({ S with now:=c' }:Spa).N:=h2;have h4:p.2.2<({ S with now:=c' }:Spa).N:=h1;have h5:c'.length=({ S with now:=c' }:Spa).N:=h3;omega
  refine⟨⟨i+1,F5,_,by omega,rfl,k1,fun k hk=>?_,Only.trans g3 o35 (fun j hj=>by
   have:=g2 j hj
   exact this),by rw[htk,List.reverse_append];exact hG,fun k=>?_,g6.step o35 (fun k hk=>?_)⟩,by omega⟩
  ·rcases k2 k hk with e|e
   ·exact g2 k e
   ·have:=g3.2.2.2.1;exact .inr (by omega)
  ·rw[yg,htk,List.count_append,List.count_singleton]
   by_cases e:p.2.2=k
   ·subst e;rw[if_pos ⟨rfl,hnN⟩,g5];simp;omega
   ·rw[if_neg (fun e'=>e e'.1),g5];simp[e]
  ·rcases k2 k hk with e|e
   ·exact .inl e
   ·exact .inr (by omega)
 ·obtain rfl:i=(z7 x y c).length:=by omega
  refine zd (decide_eq_false (by omega)) ?_;rw[take_of_length_le (by omega)]at g4 g5;exact⟨rfl,c',g4.perm (by exact(List.reverse_perm _).append_right R),⟨F',g1,g2,g3⟩,g5⟩
end V
/- Contracts of the package catalog:Get of no page;of a page that can not be got. -/
namespace V
open Go Go.Proofs Go.RowKit Crc
variable {w w':World} {b db:Nat} {S:Spa} {F:Nat->Prop} {R:List Nat}
theorem zgT (w:World) (p:Option Addr):Calls prog 43 #[.pointer p,.int .u32 0] w (Ret fun v w'=>v=.tuple #[.agg (zG (none,0,0) (none,0,0)).toArray,.int .i64 0]/\Ext w w'):=by
 apply zfG;unfold S43;refine zp fun r1 w1 hb1 he1 hr1 hz1=>?_;refine zf (by rfl) ?_;refine refill (vs:=zG (none,0,0) (none,0,0)) hb1 (by rfl) (yF _ _) (by rfl) ?_;intro w2 hb2 hx2 hk2 hz2;refine zR (ls:=yV) (yT (none,0,0) (none,0,0)) hb2 (by rfl) ⟨rfl,hx2 w he1 (by omega)⟩
theorem zop (h:zY w b db S F) {n:Nat} (hn:n<4294967296) (he:(S.get n).2≠0):
  Calls prog 157 #[.pointer (some ⟨b,0,none⟩),.int .u32 (n:Int)] w (Ret fun v w'=>(∃ a1 a2 a3 a4:Value,v=.tuple #[.agg #[.int .u8 0,.slice none 0 0,.slice none 0 0,.slice none 0 0],.int .i64 (S.get n).2])/\Ext w w'):=by
 apply zhv;unfold S157;refine zp fun r1 w1 hb1 he1 hr1 hz1=>?_;refine zb (zc8 (h.ext he1) hn) ?_;rintro _ w2 ⟨y,rfl,ho,he2⟩;refine⟨(pgT (S.get n).1 y,(S.get n).2,()),rfl,?_⟩;refine yi (vs:=pgV (S.get n).1 y) (by rfl) (qJ _ _) (fun r2 w3 hb3 he3 hr3=>?_) (by rfl);refine zf (bne_iff_ne.2 he) ?_;refine refill (vs:=[.int .u8 0,.slice none 0 0,.slice none 0 0,.slice none 0 0]) ((hb1.ext he2).ext he3) (by rfl) (by
  intro v hv
  simp only [mem_cons,not_mem_nil,or_false]at hv
  rcases hv with rfl|rfl|rfl|rfl<;>rfl) (by rfl) ?_
 intro w4 hb4 hx4 hk4 hz4;exact zR (ls:=[.int .u8,.slc,.slc,.slc]) (0,(none,0,0),(none,0,0),(none,0,0),()) hb4 (by rfl) ⟨⟨.bool true,.bool true,.bool true,.bool true,rfl⟩,hx4 w ((he1.trans he2).trans he3) (by omega)⟩
theorem zoq (h:zY w b db S F) {n:Nat} (hn:n<4294967296) (he:(S.get n).2≠0):
  Calls prog 126 #[.pointer (some ⟨b,0,none⟩),.int .u32 (n:Int),.int .i64 1,.bool true] w (Ret fun v w'=>v=.tuple #[.agg #[.int .i64 0,.int .u64 0,.int .u64 0,.int .u8 0,.int .i64 0],.int .i64 (S.get n).2]/\Ext w w'):=by
 apply zei;unfold S126;have one5:∀ v∈[Value.int .i64 0,.int .u64 0,.int .u64 0,.int .u8 0,.int .i64 0],v.oneCell'=true:=by
  intro v hv;simp only [mem_cons,not_mem_nil,or_false]at hv;rcases hv with rfl|rfl|rfl|rfl|rfl<;>rfl
 refine zp fun r1 w1 hb1 he1 hr1 hz1=>?_;refine zb (zop (h.ext he1) hn he) ?_;rintro _ w2 ⟨⟨_,_,_,_,rfl⟩,he2⟩;refine⟨((0,(none,0,0),(none,0,0),(none,0,0),()),(S.get n).2,()),rfl,?_⟩;refine yi (vs:=[.int .u8 0,.slice none 0 0,.slice none 0 0,.slice none 0 0]) (by rfl) (by
  intro v hv
  simp only [mem_cons,not_mem_nil,or_false]at hv
  rcases hv with rfl|rfl|rfl|rfl<;>rfl) (fun r3 w3 hb3 he3 hr3=>?_) (by rfl)
 refine zf (bne_iff_ne.2 he) ?_;have hb1':=(hb1.ext he2).ext he3;refine zR (ls:=[.int .i64,.int .u64,.int .u64,.int .u8,.int .i64]) (0,0,0,0,0,()) hb1' (by rfl) ?_;refine refill (vs:=[.int .i64 0,.int .u64 0,.int .u64 0,.int .u8 0,.int .i64 0]) hb1' (by rfl) one5 (by rfl) ?_;intro w4 hb4 hx4 hk4 hz4;exact zR (ls:=[.int .i64,.int .u64,.int .u64,.int .u8,.int .i64]) (0,0,0,0,0,()) hb4 (by rfl) ⟨rfl,hx4 w ((he1.trans he2).trans he3) (by omega)⟩
theorem zkY (h:zY w b db S F) {n:Nat} (hn:n<4294967296) (hn0:n≠0) (he:(S.get n).2≠0):
  Calls prog 85 #[.pointer (some ⟨b,0,none⟩),.int .u32 (n:Int)] w (Ret fun v w'=>v=.int .i64 (S.get n).2/\Ext w w'):=by
 apply zju;unfold S85;refine zd (by rfl) (zd (beq_eq_false_iff_ne.2 (by omega)) ?_);refine zb (zoq h hn he) ?_;rintro _ w1 ⟨rfl,he1⟩;refine⟨((0,0,0,0,0,()),(S.get n).2,()),rfl,?_⟩;refine yi (vs:=[.int .i64 0,.int .u64 0,.int .u64 0,.int .u8 0,.int .i64 0]) (by rfl) (by
  intro v hv
  simp only [mem_cons,not_mem_nil,or_false]at hv
  rcases hv with rfl|rfl|rfl|rfl|rfl<;>rfl) (fun r3 w3 hb3 he3 hr3=>?_) (by rfl)
 exact⟨rfl,he1.trans he3⟩
theorem zkZ (h:zY w b db S F) {n:Nat} (hn:n<4294967296) (hn0:n≠0) (he:(S.get n).2≠0):
  Calls prog 43 #[.pointer (some ⟨b,0,none⟩),.int .u32 (n:Int)] w (Ret fun v w'=>v=.tuple #[.agg (zG (none,0,0) (none,0,0)).toArray,.int .i64 (S.get n).2]/\Ext w w'):=by
 apply zfG;unfold S43;refine zp fun r1 w1 hb1 he1 hr1 hz1=>?_;refine zd (beq_eq_false_iff_ne.2 (by omega)) ?_;refine zb (zkY (h.ext he1) hn hn0 he) ?_;rintro _ w2 ⟨rfl,he2⟩;refine⟨_,rfl,zf (bne_iff_ne.2 he) ?_⟩;refine refill (vs:=zG (none,0,0) (none,0,0)) (hb1.ext he2) (by rfl) (yF _ _) (by rfl) ?_;intro w3 hb3 hx3 hk3 hz3;refine zR (ls:=yV) (yT (none,0,0) (none,0,0)) hb3 (by rfl) ⟨rfl,hx3 w (he1.trans he2) (by omega)⟩
end V
/- Catalogs' names,in order:plain. -/
namespace V
open Go Go.Proofs Go.RowKit Crc
end V
/- Contracts of the package snaps:Find,Names,Tables. -/
namespace V
open Go Go.Proofs Go.RowKit Crc
variable {w w':World} {b db:Nat} {S:Spa} {F:Nat->Prop} {R H:List Nat} {M:Option (List Nat)}
def zrh (g:FuncId) (cap:Array Value) (q:Nat->Bool) (w:World) (l:List Snp):Prop:=∀ (w':World) i,Ext w w'->i<l.length->Calls prog g ([Value.agg (zF.f (l.getD i zO)).toArray]++cap.toList).toArray w' (Ret fun v w''=>v=.bool (q i)/\Ext w' w'')
theorem zdl {x:SLC} {l:List Snp} {g:FuncId} {cap:Array Value} {q:Nat->Bool} (hg:enterable prog g=true) (h:Sli zF w x.1 x.2.1 l) (ht:zrh g cap q w l):
  Calls prog 33 #[.slice x.1 x.2.1 x.2.2,.func (.func g) #[] cap] w (Ret fun v w'=>v=.int .i64 (if yR q l.length<l.length then (yR q l.length:Int) else -1)/\Ext w w'):=by
 have hl:=h.len;have hle:=h.le;apply zpg;unfold S33;refine zy (fun y w'=>∃ i:Nat,i<=l.length/\y=((i:Int),())/\Ext w w'/\i<=yR q l.length) (fun y=>(l.length-y.1).toNat) ⟨0,by omega,rfl,Ext.refl w,by omega⟩ ?_;rintro _ w1 ⟨i,hi,rfl,he1,hf⟩;dsimp only
 by_cases hlt:i<l.length
 ·refine zf (decide_eq_true (by omega)) ?_;refine vm (E:=zF) za4 zO (h.ext he1) (fun _=>rfl) rfl (by omega) (by omega) ?_;rw[Int.toNat_natCast];refine xm hg ?_;refine zb (ht w1 i he1 hlt) ?_;rintro _ w2 ⟨rfl,he2⟩;refine⟨_,rfl,?_⟩;refine zg (fun hd=>?_) (fun hd=>?_)
  ·have hfi:yR q l.length=i:=by
    rcases Nat.lt_or_ge i (yR q l.length) with h1|h1
    ·have:=zb8 h1;rw[hd]at this;cases this
    ·omega
   refine⟨?_,he1.trans he2⟩;rw[hfi,if_pos hlt]
  ·rw[wrap_i64 (by omega) (by omega)];refine⟨⟨i+1,by omega,rfl,he1.trans he2,?_⟩,by omega⟩;rcases Nat.lt_or_ge i (yR q l.length) with h1|h1
   ·omega
   ·have hfi:yR q l.length=i:=by omega
    have:=zdh (q:=q) (n:=l.length) (by omega);rw[hfi,hd]at this;cases this
 ·obtain rfl:i=l.length:=by omega
  refine zd (decide_eq_false (by omega)) ?_;exact⟨by rw[if_neg (by omega)],he1⟩
def yB (c:Cat) (s:ByteArray):Nat:=yR (fun j=>decide (B (c.2.getD j zO).1=B s)) c.2.length
def jA (c:Cat) (s:ByteArray):Int×Int:=if yB c s<c.2.length then ((yB c s:Int),0) else (0,211)
theorem ziA {r:Snp} {b:Nat} {s:ByteArray} {t:TypeId} (hb:Blk w b [.string s] t):Calls prog 52 #[.agg (zF.f r).toArray,.pointer (some ⟨b,0,none⟩)] w (Ret fun v w'=>v=.bool (decide (B r.1=B s))/\Ext w w'):=by
 apply zpx;unfold S52;refine zp fun r1 w1 hb1 he1 hr1 hz1=>?_;have hb1:Blk w1 r1 (zF.f r) 64:=hb1;refine zJ r.1 hb1 (by rfl) (zJ s (hb.ext he1) (by rfl) ?_);exact⟨by rw[qh],he1⟩
theorem zd3 {x y:SLC} {c:Cat} (h:yJ w x y c) (s:ByteArray):
  Calls prog 23 #[.agg (zG x y).toArray,.string s] w (Ret fun v w'=>v=.tuple #[.int .i64 (jA c s).1,.int .i64 (jA c s).2]/\Ext w w'):=by
 obtain⟨⟨raws,hT⟩,hs,hcx,hcy⟩:=h;apply zo7;unfold S23;refine zp fun r1 w1 hb1 he1 hr1 hz1=>?_;have hb1:Blk w1 r1 (zG x y) 30:=hb1;refine zp fun r2 w2 hb2 he2 hr2 hz2=>?_;have he:=he1.trans he2;refine zm 1 y (hb1.ext he2) (by rfl) ?_;refine zb (zdl (q:=fun j=>decide (B (c.2.getD j zO).1=B s)) (by kernel_rfl) (hs.ext he) (fun w' i he' hi=>ziA (hb2.ext he'))) ?_;rintro _ w3 ⟨rfl,he3⟩;refine⟨_,rfl,?_⟩;have hq:yR (fun j=>decide (B (c.2.getD j zO).1=B s)) c.2.length=yB c s:=rfl;rw[hq];unfold jA
 by_cases hlt:yB c s<c.2.length
 ·rw[if_pos hlt,if_pos hlt];exact zd (decide_eq_false (by omega)) ⟨rfl,he.trans he3⟩
 ·rw[if_neg hlt,if_neg hlt];exact zf (by rfl) ⟨rfl,he.trans he3⟩
theorem ziB {r:Snp}:Calls prog 51 #[.agg (zF.f r).toArray] w (Ret fun v w'=>v=.string r.1/\Ext w w'):=by
 apply zpw;unfold S51;refine zp fun r1 w1 hb1 he1 hr1 hz1=>?_;exact zJ r.1 hb1 (by rfl) ⟨rfl,he1⟩
theorem ziC {x y:SLC} {c:Cat} (h:yJ w x y c) (hn:c.2.length<=1000):
  Calls prog 22 #[.agg (zG x y).toArray] w (Ret fun v w'=>(∃ A k,v=.slice A c.2.length k/\Owni yN 9 w' w.heap.size A c.2.length k (c.2.map fun s=>s.1))/\Ext w w'):=by
 obtain⟨_,hs,hcx,hcy⟩:=h;have hyl:=hs.len;apply zo6;unfold S22;refine zp fun r1 w1 hb1 he1 hr1 hz1=>?_;have hb1:Blk w1 r1 (zG x y) 30:=hb1;refine zm 1 y hb1 (by rfl) ?_;refine zb (R:=fun v w'=>(∃ A k,v=.slice A c.2.length k/\Owni yN 9 w' w.heap.size A c.2.length k (c.2.map fun s=>s.1))/\Ext w w') ?_ ?_
 ·apply zpv;unfold S50;have hs1:=he1.size;refine zy (fun q w'=>∃ (i:Nat) (A:Option Addr) (k:Nat),i<=c.2.length/\q=((A,i,k),(i:Int),())/\Ext w w'/\Owni yN 9 w' w.heap.size A i k ((c.2.take i).map fun s=>s.1)) (fun q=>(c.2.length-q.2.1).toNat) ⟨0,none,0,by omega,rfl,he1,Owni.nil _ _ _⟩ ?_;rintro _ w2 ⟨i,A,k,hi,rfl,he2,ho⟩;dsimp only
  by_cases hlt:i<c.2.length
  ·refine zf (decide_eq_true (by omega)) ?_;refine vm (E:=zF) za4 zO (hs.ext he2) (fun _=>rfl) rfl (by omega) (by omega) ?_;rw[Int.toNat_natCast];refine yi (vs:=zF.f (c.2.getD i zO)) (by rfl) (zF.one _) (fun r5 w3 hb3 he3 hr3=>?_) (by rfl);refine zR (ls:=zfe) (za4 (c.2.getD i zO)) hb3 (by rfl) ?_;refine xm (by kernel_rfl) ?_;refine zb ziB ?_;rintro _ w4 ⟨rfl,he4⟩;refine⟨_,rfl,?_⟩;have he24:=he3.trans he4;have hw:wrap .i64 ((i:Int)+1)=((i+1:Nat):Int):=by rw[wrap_i64 (by omega) (by omega)];rfl
   rw[hw];refine yS (E:=yN) (ys:=[(c.2.getD i zO).1]) (by rfl) rfl zka (ho.ext he24) (he2.trans he24).size (by omega) (by omega) ?_;intro A' k' w5 ho5 hg5;refine⟨⟨i+1,A',k',by omega,rfl,(he2.trans he24).grown hg5.grown ho.row,?_⟩,by omega⟩;rw[zdz (d:=zO) hlt,map_append];exact ho5
  ·obtain rfl:i=c.2.length:=by omega
   refine zd (decide_eq_false (by omega)) ?_;rw[take_of_length_le (Nat.le_refl _)]at ho;exact⟨⟨A,k,rfl,ho⟩,he2⟩
 ·rintro _ w2 ⟨⟨A,k,rfl,ho⟩,he2⟩;exact⟨(A,c.2.length,k),rfl,⟨A,k,rfl,ho⟩,he2⟩
inductive zdm (S:Spa) (n:Nat):Cat->Int->Prop
 |none:n=0->zdm S n zb5 0
 |cat {c:Cat} {R:List Nat}:zfj S n c->Good S R->zK S.sup.pages S.now n=true->zdm S n c 0
 |bad:n≠0->n<4294967296->(S.get n).2≠0->zdm S n zb5 (S.get n).2
theorem zmh (h:zY w b db S F) {n:Nat} {c:Cat} {e:Int} (hg:zdm S n c e):
  Calls prog 43 #[.pointer (some ⟨b,0,none⟩),.int .u32 (n:Int)] w (Ret fun v w'=>(∃ x y,v=.tuple #[.agg (zG x y).toArray,.int .i64 e]/\yo w' w.heap.size x y c)/\Ext w w'):=by
 cases hg with
 |none h0=>
  subst h0;refine(zgT w (some ⟨b,0,Option.none⟩)).mono (Ret.mono ?_);rintro v w' ⟨rfl,he⟩;exact⟨⟨_,_,rfl,zca _ _⟩,he⟩
 |cat hp hG hu=>exact zit h hG hp hu
 |bad h0 h1 h2=>
  refine(zkZ h h1 h0 h2).mono (Ret.mono ?_);rintro v w' ⟨rfl,he⟩;exact⟨⟨_,_,rfl,zca _ _⟩,he⟩
theorem zgU (h:zY w b db S F) {x y:SLC} {c:Cat} (hC:yJ w x y c) {s:ByteArray} (hs:B s≠[]) {f:Cat} {e:Int} (hf:yB c s<c.2.length->zdm S (c.2.getD (yB c s) zO).2 f e):
  Calls prog 15 #[.pointer (some ⟨b,0,none⟩),.agg (zG x y).toArray,.string s] w (Ret fun v w'=>((yB c s<c.2.length/\e=0/\∃ X Y,v=.tuple #[.slice X.1 X.2.1 X.2.2,.int .i64 0]/\yo w' w.heap.size X Y f)\/(yB c s<c.2.length/\e≠0/\v=.tuple #[.slice none 0 0,.int .i64 e])\/(¬yB c s<c.2.length/\v=.tuple #[.slice none 0 0,.int .i64 211]))/\Ext w w'):=by
 have hyl:=hC.2.1.len;apply zoZ;unfold S15;refine zp fun r1 w1 hb1 he1 hr1 hz1=>?_;have hb1:Blk w1 r1 (zG x y) 30:=hb1;refine zd (by rw[zgx,decide_eq_false hs]) ?_;refine zR (ls:=yV) (yT x y) hb1 (by rfl) ?_;refine zb (zd3 (hC.ext he1) s) ?_;rintro _ w2 ⟨rfl,he2⟩;refine⟨((jA c s).1,(jA c s).2,()),rfl,?_⟩;have he02:=he1.trans he2
 by_cases hlt:yB c s<c.2.length
 ·have e1:jA c s=((yB c s:Int),0):=by unfold jA;rw[if_pos hlt]
  rw[e1];refine zd (by rfl) (zm 1 y (hb1.ext he2) (by rfl) ?_);dsimp only;refine zaF (E:=zF) 1 (fun e:Snp=>((e.2:Nat):Int)) zO (hC.2.1.ext he02) (fun _=>rfl) rfl (by omega) (by omega) ?_;rw[Int.toNat_natCast];refine zb (zmh (h.ext he02) (hf hlt)) ?_;rintro _ w3 ⟨⟨X,Y,rfl,hO⟩,he3⟩;refine⟨(yT X Y,e,()),rfl,?_⟩;refine yi (vs:=zG X Y) (by rfl) (yF _ _) (fun r10 w4 hb4 he4 hr4=>?_) (by rfl);have he04:=(he02.trans he3).trans he4;refine zg (fun hq=>⟨.inr (.inl ⟨hlt,bne_iff_ne.1 hq,rfl⟩),he04⟩) (fun hq=>?_);refine zJ X hb4 (by rfl) ⟨.inl ⟨hlt,bne_eq_false_iff_eq.1 hq,X,Y,rfl,(hO.ext he4).lower he02.size⟩,he04⟩
 ·have e1:jA c s=(0,211):=by unfold jA;rw[if_neg hlt]
  rw[e1];exact zf (by rfl) ⟨.inr (.inr ⟨hlt,rfl⟩),he02⟩
end V
/- Contracts of the package snaps:Freeze,Leave. -/
namespace V
open Go Go.Proofs Go.RowKit Crc
variable {w w':World} {b db:Nat} {S:Spa} {F:Nat->Prop} {R H:List Nat} {M:Option (List Nat)}
theorem yo.box {B0 r:Nat} {X Y:SLC} {c:Cat} {cs:List Value} (h:yo w B0 X Y c) (hb:Blk w r cs 30) (o:Only (fun k=>k=r) w w'):yo w' B0 X Y c:=by
 obtain⟨⟨raws,hT⟩,hS⟩:=h;refine⟨⟨raws,hT.row.only o (fun j hj e=>Owni.neB hT.row hb (by decide) j hj e),hT.len,fun i hi=>?_⟩,hS.only o (fun j hj e=>Owni.neB hS hb (by decide) j hj e)⟩;have hE:=hT.at_ i hi;exact⟨hE.name,hE.rest,hE.cols.only o (fun j hj e=>Owni.neB hE.cols hb (by decide) j hj e)⟩
theorem yA.snap {B0 B1 n k:Nat} {X:SLC} {raws:List Raw} {es:List Ent} {A:Option Addr} {ss:List Snp} (h:yA w B0 X raws es) (hs:Owni zF 64 w B1 A n k ss) (o:Only (fun k=>orow A=some k) w w'):yA w' B0 X raws es:=
 ⟨h.row.only o (fun q hq e=>h.row.ne hs (by decide) q hq e),h.len,fun i hi=>⟨(h.at_ i hi).name,(h.at_ i hi).rest,(h.at_ i hi).cols.only o (fun q hq e=>(h.at_ i hi).cols.ne hs (by decide) q hq e)⟩⟩
def jo (c:Cat) (s:ByteArray):Nat:=yR (fun j=>!(ltB (B (c.2.getD j zO).1) (B s))) c.2.length
def uo (c:Cat) (s:ByteArray):Prop:=jo c s<c.2.length/\B (c.2.getD (jo c s) zO).1=B s
theorem zf3 {r:Snp} {b:Nat} {s:ByteArray} {t:TypeId} (hb:Blk w b [.string s] t):Calls prog 34 #[.agg (zF.f r).toArray,.pointer (some ⟨b,0,none⟩)] w (Ret fun v w'=>v=.bool (!(ltB (B r.1) (B s)))/\Ext w w'):=by
 apply zph;unfold S34;refine zp fun r1 w1 hb1 he1 hr1 hz1=>?_;have hb1:Blk w1 r1 (zF.f r) 64:=hb1;refine zJ r.1 hb1 (by rfl) (zJ s (hb.ext he1) (by rfl) ?_);exact⟨by rw[zav],he1⟩
def alone (c:Cat):Cat:=(c.1,[])
structure zor (S:Spa) (c:Cat) (R H:List Nat) (M:Option (List Nat)):Prop where
 great:Great S R H M
 ok:xZ (alone c)=true
 used:∀ v∈z8 (alone c),zK S.sup.pages S.now v=true
 cnt:∀ v∈z8 (alone c),S.now.getD v 0+1000<65535
 pen:S.dev.pen.length<=500000
 r0:204<=S.r0
 most:(x6 (alone c)).length<=qC S.r0
 free:S.sup.pages.length+nparts S.r0 (x6 (alone c)).length+4<=S.zZ
structure zk0 (S S':Spa) (c:Cat) (n:Nat) (R H:List Nat) (M:Option (List Nat)) (c1 ls:List Nat):Prop where
 cnt:∀ k,c1.getD k 0=S.now.getD k 0+(z8 (alone c)).count k
 made:Mk { S with now:=c1 } S' ls
 few:ls.length<=nparts S.r0 (x6 (alone c)).length+4
 out:(c.1=[]/\n=0/\Great S' R H M)\/(c.1≠[]/\Great S' (n::R) H M/\zfj S' n (alone c))
theorem zk1 {S:Spa} {c1 l:List Nat} {R H:List Nat} {M:Option (List Nat)} (hu:∀ v∈l,zK S.sup.pages S.now v=true) (hc:∀ k,c1.getD k 0=S.now.getD k 0+l.count k):({ S with now:=c1 }:Spa).zZ=S.zZ:=by
 have hf:∀ n,({ S with now:=c1 }:Spa).yG n=S.yG n:=by
  intro n;rw[Bool.eq_iff_iff,zW,zW];show c1.getD n 0=0/\_↔_;rw[hc];constructor
  ·rintro⟨h1,h2⟩;exact⟨by omega,h2⟩
  ·rintro⟨h1,h2⟩;refine⟨?_,h2⟩;have:l.count n=0:=by
    apply count_eq_zero.2;intro hm;have:=(zI.1 (hu n hm)).2.2;omega
   omega
 exact Nat.le_antisymm (uF rfl fun n hn=>by rw[<- hf];exact hn) (uF rfl fun n hn=>by rw[hf];exact hn)
def zri (w:World) (b db:Nat) (S:Spa) (F:Nat->Prop) (c:Cat) (s:ByteArray) (R H:List Nat) (M:Option (List Nat)) (v:Value) (w':World):Prop:=
 (yk (B s)≠0/\v=.tuple #[.agg (zG (none,0,0) (none,0,0)).toArray,.int .i64 (yk (B s))]/\Ext w w')\/
 (yk (B s)=0/\uo c s/\v=.tuple #[.agg (zG (none,0,0) (none,0,0)).toArray,.int .i64 6]/\Ext w w')\/
 (yk (B s)=0/\¬uo c s/\16<=c.2.length/\v=.tuple #[.agg (zG (none,0,0) (none,0,0)).toArray,.int .i64 12]/\Ext w w')\/
 (yk (B s)=0/\¬uo c s/\c.2.length<16/\∃ X Y S' n c1 ls F',v=.tuple #[.agg (zG X Y).toArray,.int .i64 0]/\zk0 S S' c n R H M c1 ls/\zY w' b db S' F'/\(∀ k,F' k->F k\/w.heap.size<=k)/\Only F w w'/\Safe F' w' (fun w=>yo w 0 X Y (c.1,c.2.insertIdx (jo c s) (s,n))))
theorem vQ {w:World} {b n:Nat} {cs vs:List Value} {t:TypeId} {us:Array Value} {K:WP} (h:Blk w b cs t) (hl:vs.length=cs.length) (hv:∀ v∈vs,v.oneCell'=true) (hu:us.size=n)
  (hK:∀ w',Blk w' b vs t->Only (fun k=>k=b) w w'->K w'):(zc (us.size=n)<|zq (aD b) vs K) w:=by
 obtain⟨hst,hbl,hg⟩:=uS h (o:=0) (vs:=vs) (by omega) hv;refine⟨hu,hst,hK _ ?_ (Only.zT hg (fun j hj=>.inl (by injection hj with hj;exact hj.symm)))⟩;rw[List.take_zero,nil_append,Nat.zero_add,List.drop_eq_nil_of_le (by omega),append_nil]at hbl;exact hbl
theorem zdn (h:zY w b db S F) {x y:SLC} {c:Cat} {s:ByteArray} (hC:Safe F w fun w=>yJ w x y c) (hlt:zfm c) (hH:yk (B s)=0->¬uo c s->c.2.length<16->zor S c R H M):
  Calls prog 13 #[.pointer (some ⟨b,0,none⟩),.agg (zG x y).toArray,.string s] w (Ret (zri w b db S F c s R H M)):=by
 obtain⟨hl1,hl2,hl3⟩:=id hlt;have hC0:=hC.now;have hyl:=hC0.2.1.len;have hFlt:=h.lt;have one2:∀ v∈zG (none,0,0) (none,0,0),v.oneCell'=true:=yF _ _;apply zoX;unfold S13;refine zp fun r1 w1 hb1 he1 hr1 hz1=>?_;have hb1:Blk w1 r1 (zG x y) 30:=hb1;refine zp fun r2 w2 hb2 he2 hr2 hz2=>?_;refine zp fun r3 w3 hb3 he3 hr3 hz3=>?_;have hb3:Blk w3 r3 (zG (none,0,0) (none,0,0)) 30:=hb3;have hb13:=(hb1.ext he2).ext he3;have hb23:=hb2.ext he3;have he03:=(he1.trans he2).trans he3;have hs03:=he03.size;have err:∀ {w4:World} {e:Int} {K:Value->WP},Ext w3 w4->(∀ w',Ext w w'->K (.tuple #[.agg (zG (none,0,0) (none,0,0)).toArray,.int .i64 e]) w')->
   (zc ((#[(.slice none 0 0),(.slice none 0 0)]:Array Value).size=2)<|
    zq (aD r3) [(.slice none 0 0),(.slice none 0 0)]<|
    zl [.slc,.slc] (aD r3) fun(u6:(SLC×SLC×Unit))=>K (.tuple #[(.agg #[(.slice u6.1.1 u6.1.2.1 u6.1.2.2),(.slice u6.2.1.1 u6.2.1.2.1 u6.2.1.2.2)]),(.int .i64 e)])) w4:=by
  intro w4 e K he hK;refine refill (vs:=zG (none,0,0) (none,0,0)) (hb3.ext he) (by rfl) one2 (by rfl) ?_;intro w5 hb5 hx5 hk5 hz5;exact zR (ls:=yV) (yT (none,0,0) (none,0,0)) hb5 (by rfl) (hK w5 (hx5 w (he03.trans he) (by omega)))
 refine zJ s hb23 (by rfl) ?_;refine zb (uJ w3 s) ?_;rintro _ w4 ⟨rfl,he4⟩;refine⟨_,rfl,?_⟩;refine zg (fun hq=>err he4 fun w' he=>.inl ⟨bne_iff_ne.1 hq,rfl,he⟩) (fun hq=>?_);have hn0:yk (B s)=0:=bne_eq_false_iff_eq.1 hq;have he04:=he03.trans he4;refine zm 1 y (hb13.ext he4) (by rfl) ?_;refine zb (zdl (q:=fun j=>!(ltB (B (c.2.getD j zO).1) (B s))) (by kernel_rfl) (hC0.2.1.ext he04) (fun w' i he' hi=>zf3 ((hb23.ext he4).ext he'))) ?_;rintro _ w5 ⟨rfl,he5⟩;refine⟨_,rfl,?_⟩;have hpl:yR (fun j=>!(ltB (B (c.2.getD j zO).1) (B s))) c.2.length=jo c s:=rfl;rw[hpl];have hple:jo c s<=c.2.length:=zgw;have he35:=he4.trans he5;have hb15:=hb13.ext he35;have hb25:=hb23.ext he35;refine yq (fun q w'=>q=((jo c s:Int),())/\w'=w5) ?_ (fun J hJ=>?_);rotate_left
 ·by_cases hlt:jo c s<c.2.length
  ·rw[if_pos hlt];exact zd (decide_eq_false (by omega)) (hJ _ _ ⟨rfl,rfl⟩)
  ·rw[if_neg hlt];refine zf (by rfl) (zm 1 y hb15 (by rfl) (hJ _ _ ⟨?_,rfl⟩));rw[show y.2.1=jo c s by omega]
 rintro _ w5' ⟨rfl,hw5⟩;rw[hw5];dsimp only
 -- what is refused
 refine yq (fun _ w'=>Ext w5 w'/\¬uo c s/\c.2.length<16) ?_ (fun J12 hJ12=>?_);rotate_left
 ·refine yq (fun q w'=>∃ t:Bool,q=(t,())/\Ext w5 w'/\(t=true↔uo c s)) ?_ (fun J14 hJ14=>?_)
  ·rintro _ w6 ⟨t,rfl,he6,ht⟩;dsimp only;cases t with
   |true=>exact zf rfl (err (he35.trans he6) fun w' he=>.inr (.inl ⟨hn0,ht.1 rfl,rfl,he⟩))
   |false=>
    have hnt:¬uo c s:=fun hh=>by have:=ht.2 hh;cases this
    refine zd rfl (zm 1 y (hb15.ext he6) (by rfl) ?_);refine zg (fun hq=>err (he35.trans he6) fun w' he=>.inr (.inr (.inl ⟨hn0,hnt,by have:=of_decide_eq_true hq;omega,rfl,he⟩))) (fun hq=>?_);have:=of_decide_eq_false hq;exact hJ12 _ _ ⟨he6,hnt,by omega⟩
  ·refine zM fun w6 he6 hz6 hh6=>?_;refine zm 1 y (hb15.ext he6) (by rfl) ?_
   by_cases hlt:jo c s<c.2.length
   ·refine zf (decide_eq_true (by omega)) (zm 1 y (hb15.ext he6) (by rfl) ?_);refine kD (E:=zF) (fun e:Snp=>e.1) zO (hC0.2.1.ext ((he03.trans he35).trans he6)) (fun _=>rfl) rfl (by omega) (by omega) ?_;rw[Int.toNat_natCast];refine zJ s (hb25.ext he6) (by rfl) ?_;rw[qh];refine hJ14 _ _ ⟨_,rfl,he6,?_⟩;rw[decide_eq_true_iff];exact⟨fun e=>⟨hlt,e⟩,fun e=>e.2⟩
   ·refine zd (decide_eq_false (by omega)) (hJ14 _ _ ⟨false,rfl,he6,?_⟩);constructor
    ·intro e;cases e
    ·rintro⟨e,_⟩;exact absurd e hlt
 rintro _ w6 ⟨he6,hnt,hl16⟩;obtain⟨f1,f2,f3,f4,f5,f6,f7,f8⟩:=hH hn0 hnt hl16;have he36:=he35.trans he6;have he06:=he03.trans he36;have hb16:=hb15.ext he6;have hb26:=hb25.ext he6;refine zJ x hb16 (by rfl) ?_;refine yi (vs:=zG x (none,0,0)) (by rfl) (yF _ _) (fun r25 w7 hb7 he7 hr7=>?_) (by rfl);have he07:=he06.trans he7;have hCa:Safe F w7 (fun w=>yJ w x (none,0,0) (alone c)):=(hC.ext he07).mono fun w3 hc=>⟨hc.1,Sli.nil _ _,hc.2.2.1,Nat.le_refl _⟩;refine zR (ls:=yV) (yT x (none,0,0)) hb7 (by rfl) ?_;have hrl:(z8 (alone c)).length<=16:=by
  have h1:=zfi (alone c);have h2:=(jt.1 f2).tabs;have h3:(z8 (alone c)).length=(kvC (alone c)).length:=by unfold z8;rw[length_map]
  have h4:(alone c).2.length=0:=rfl;omega
 refine zb (zf2 (c:=alone c) (h.ext he07) hCa (by show c.1.length<=1000;omega) (by show 0<=1000;omega) f1 f3 (fun v hv=>by have:=f4 v hv;omega)) ?_;rintro _ w8 ⟨rfl,c1,hG1,hst8,hc1⟩;refine⟨_,rfl,zd (by rfl) ?_⟩;obtain⟨F8,h8,hF8,o8⟩:=hst8;have hr1F:∀ {k:Nat},w.heap.size<=k->k<w7.heap.size->¬F8 k:=fun hk hk2 hf=>by
  rcases hF8 _ hf with e|e
  ·have:=hFlt _ e;omega
  ·omega
 have hs36:=he36.size;have hs7:=he7.size;have hb18:=(hb16.ext he7).only o8 (fun hf=>by have:=hFlt _ hf;omega);have hb28:=(hb26.ext he7).only o8 (fun hf=>by have:=hFlt _ hf;omega);have hb38:=((hb3.ext he36).ext he7).only o8 (fun hf=>by have:=hFlt _ hf;omega);have hb78:=hb7.only o8 (fun hf=>by have:=hFlt _ hf;omega);have hC8:=(hC.ext he07).step o8 hF8;have hCa8:Safe F8 w8 (fun w=>yJ w x (none,0,0) (alone c)):=hCa.step o8 hF8;refine zR (ls:=yV) (yT x (none,0,0)) hb78 (by rfl) ?_;have hfn:({ S with now:=c1 }:Spa).zZ=S.zZ:=zk1 (R:=R) (H:=H) (M:=M) f3 hc1;have hr0:({ S with now:=c1 }:Spa).r0=S.r0:=rfl;refine zb (zig (c:=alone c) h8 hCa8 f2 hG1 f5 f6 f7 (by rw[hfn];exact f8) (fun v hv=>by
  show c1.getD v 0<65535
  rw[hc1]
  have:=f4 v hv
  have:=List.count_le_length (a:=v) (l:=z8 (alone c))
  omega)) ?_
 intro v9 w9 hput;obtain⟨S',n,ls,rfl,hOk,hst9⟩:∃ (S':Spa) (n:Nat) (ls:List Nat),v9=.tuple #[.int .u32 (n:Int),.int .i64 0]/\zk0 S S' c n R H M c1 ls/\yM w8 b db F8 S' w9:=by
  rcases hput with ⟨h0,rfl,hst⟩|⟨h0,S',n,ls,rfl,hP,hst⟩
  ·have hc0:c.1=[]:=congrArg Prod.fst h0;refine⟨{ S with now:=c1 },0,[],rfl,⟨hc1,Mk.refl _,Nat.zero_le _,.inl ⟨hc0,rfl,?_⟩⟩,hst⟩;rw[h0]at hG1;exact hG1
  ·refine⟨S',n,ls,rfl,⟨hc1,hP.made,hP.few,.inr ⟨fun e=>h0 (Prod.ext e rfl),hP.great,hP.pg⟩⟩,hst⟩
 clear hput;refine⟨((n:Int),0,()),rfl,zd (by rfl) ?_⟩;obtain⟨F9,h9,hF9,o9⟩:=hst9;have hs8:=o8.2.2.2.1;have hnF8:∀ {k:Nat},w.heap.size<=k->k<w7.heap.size->¬F8 k:=hr1F;have hb19:=hb18.only o9 (hnF8 (by omega) (by omega));have hb29:=hb28.only o9 (hnF8 (by omega) (by omega));have hb39:=hb38.only o9 (hnF8 (by omega) (by omega));have hC9:=hC8.step o9 hF9;have hF9lt:=h9.lt;have hFF:∀ k,F9 k->F k\/w.heap.size<=k:=fun k hk=>by
  rcases hF9 k hk with e|e
  ·rcases hF8 k e with e|e
   ·exact .inl e
   ·exact .inr (by omega)
  ·exact .inr (by omega)
 have hOnly9:Only F w w9:=Only.trans (Only.trans (Only.zB he07) o8 (fun j hj=>.inl hj)) o9 (fun k hk=>by
  rcases hF8 k hk with e|e
  ·exact .inl e
  ·exact .inr (by omega))
 have hs9:=o9.2.2.2.1;refine zR (ls:=yV) (yT x y) hb19 (by rfl) ?_;refine zb (zcx hC9.now hlt) ?_;rintro _ w10 ⟨⟨X,Y,rfl,hO10⟩,he10⟩;refine⟨yT X Y,rfl,?_⟩;refine yi (vs:=zG X Y) (by rfl) (yF _ _) (fun r34 w11 hb11 he11 hr11=>?_) (by rfl);have hO11:=hO10.ext he11;have he911:=he10.trans he11;refine zm 1 Y hb11 (by rfl) (zJ s (hb29.ext he911) (by rfl) ?_);refine zp fun r37 w12 hb12 he12 hr12 hz12=>?_;have hO12:=hO11.ext he12;have he912:=he911.trans he12;have hs912:=he912.size;obtain⟨⟨raws,hT12⟩,hS12⟩:=hO12;have hYl:c.2.length=Y.2.1:=hS12.len;refine zb (zgS (x:=(s,n)) (i:=jo c s) hS12 (by omega) (by omega) (by omega) hb12 (fun e=>by have:=(hO11.2).yd _ e;omega)) ?_;rintro _ w13 ⟨A',k',rfl,ho13,o13⟩;refine⟨(A',Y.2.1+1,k'),rfl,?_⟩;have hT13:=hT12.snap hS12 o13;have hb3413:=(hb11.ext he12).only o13 (fun e=>Owni.neB hS12 (hb11.ext he12) (by decide) _ e rfl);have hrow:=hS12.row;have hb313:=(hb39.ext he912).only o13 (fun e=>Owni.neB hS12 (hb39.ext he912) (by decide) _ e rfl);show stW ((aD r34).add 1) _ _ w13;rw[zx];refine stE (o:=1) hb3413 rfl (by show 1<2;omega) ?_;intro w14 hb14 o14;have hb14:Blk w14 r34 (zG X (A',Y.2.1+1,k')) 30:=hb14;have hO13:yo w13 w9.heap.size X (A',Y.2.1+1,k') (c.1,c.2.insertIdx (jo c s) (s,n)):=⟨⟨raws,hT13⟩,ho13⟩;have hO14:=hO13.box hb3413 o14;refine zR (ls:=yV) (yT X (A',Y.2.1+1,k')) hb14 (by rfl) ?_;have h39:r3<w9.heap.size:=hb39.lt;have hb314:=hb313.only o14 (fun e=>by have:r3=r34:=e;have:=he10.size;omega);refine vQ (vs:=zG X (A',Y.2.1+1,k')) hb314 (by rfl) (yF _ _) (by rfl) ?_;intro w15 hb15' hOx;have hlt3:r3<w14.heap.size:=hb314.lt;have hF9w:∀ {k:Nat},F9 k->k<w9.heap.size:=fun hf=>hF9lt _ hf;have o1214:Only (fun k=>w9.heap.size<=k) w9 w14:=by
  refine Only.trans (Only.trans (Only.zB he912) o13 (fun j hj=>.inl (hrow j hj))) o14 (fun j hj=>.inl ?_);have:j=r34:=hj;have:=he10.size;omega
 have hO15:=hO14.only hOx (fun k hk=>by have:k=r3:=hk;omega);have h915:Only (fun k=>w9.heap.size<=k\/k=r3) w9 w15:=Only.trans (o1214.mono fun k hk=>.inl hk) hOx (fun j hj=>.inl (.inr hj));refine zR (ls:=yV) (yT X (A',Y.2.1+1,k')) hb15' (by rfl) ?_;refine .inr (.inr (.inr ⟨hn0,hnt,hl16,X,(A',Y.2.1+1,k'),S',n,c1,ls,F9,rfl,hOk,h9.only h915 (fun k hk e=>?_),hFF,Only.trans hOnly9 h915 (fun k hk=>?_),fun w16 o16=>(hO15.only o16 (fun k hk=>hF9w hk)).lower (Nat.zero_le _)⟩))
 ·have:=hF9w hk;rcases e with e|e
  ·omega
  ·subst e;rcases hFF _ hk with e|e
   ·have:=hFlt _ e;omega
   ·rcases hF9 _ hk with e2|e2
    ·exact hnF8 (by omega) (by omega) e2
    ·omega
 ·rcases hk with e|e
  ·exact .inr (by have:=hOnly9.2.2.2.1;omega)
  ·exact .inr (by omega)
end V
/- Contracts of the package snaps:Leave. -/
namespace V
open Go Go.Proofs Go.RowKit Crc
variable {w w':World} {b db:Nat} {S:Spa} {F:Nat->Prop} {R H:List Nat} {M:Option (List Nat)}
def zrA (w:World) (b db:Nat) (S:Spa) (F:Nat->Prop) (c:Cat) (s:ByteArray) (R H:List Nat) (M:Option (List Nat)) (v:Value) (w':World):Prop:=
 (¬yB c s<c.2.length/\v=.tuple #[.agg (zG (none,0,0) (none,0,0)).toArray,.int .i64 211]/\Ext w w')\/
 (yB c s<c.2.length/\∃ X Y c' F',v=.tuple #[.agg (zG X Y).toArray,.int .i64 0]/\Great { S with now:=c' } R H M/\(∀ k,c'.getD k 0<=S.now.getD k 0)/\((c.2.getD (yB c s) zO).2≠0->Drp S.asked S.page S.now [(c.2.getD (yB c s) zO).2] c' 0)/\zY w' b db { S with now:=c' } F'/\(∀ k,F' k->F k\/w.heap.size<=k)/\Only F w w'/\Safe F' w' (fun w=>yo w 0 X Y (c.1,c.2.eraseIdx (yB c s))))
theorem zji (h:zY w b db S F) {x y:SLC} {c:Cat} {s:ByteArray} (hC:Safe F w fun w=>yJ w x y c) (hlt:zfm c) (hH:yB c s<c.2.length->((c.2.getD (yB c s) zO).2=0/\Great S R H M)\/((c.2.getD (yB c s) zO).2≠0/\Great S ((c.2.getD (yB c s) zO).2::R) H M)):
  Calls prog 19 #[.pointer (some ⟨b,0,none⟩),.agg (zG x y).toArray,.string s] w (Ret (zrA w b db S F c s R H M)):=by
 obtain⟨hl1,hl2,hl3⟩:=id hlt;have hC0:=hC.now;have hyl:=hC0.2.1.len;have hFlt:=h.lt;apply zo3;unfold S19;refine zp fun r1 w1 hb1 he1 hr1 hz1=>?_;have hb1:Blk w1 r1 (zG x y) 30:=hb1;refine zp fun r2 w2 hb2 he2 hr2 hz2=>?_;have hb2:Blk w2 r2 (zG (none,0,0) (none,0,0)) 30:=hb2;have hb12:=hb1.ext he2;have he02:=he1.trans he2;have hs02:=he02.size;refine zR (ls:=yV) (yT x y) hb12 (by rfl) ?_;refine zb (zd3 (hC0.ext he02) s) ?_;rintro _ w3 ⟨rfl,he3⟩;refine⟨((jA c s).1,(jA c s).2,()),rfl,?_⟩;have he03:=he02.trans he3
 by_cases hf:yB c s<c.2.length
 rotate_left
 ·have e1:jA c s=(0,211):=by unfold jA;rw[if_neg hf]
  rw[e1];refine zf (by rfl) ?_;refine vQ (vs:=zG (none,0,0) (none,0,0)) (hb2.ext he3) (by rfl) (yF _ _) (by rfl) ?_;intro w4 hb4 o4;exact zR (ls:=yV) (yT (none,0,0) (none,0,0)) hb4 (by rfl) (.inl ⟨hf,rfl,Only.ext he03 o4 (fun j hj=>by have:j=r2:=hj;omega)⟩)
 have e1:jA c s=((yB c s:Int),0):=by unfold jA;rw[if_pos hf]
 rw[e1];refine zd (by rfl) ?_;dsimp only;have hb13:=hb12.ext he3;have hb23:=hb2.ext he3;have hH:=hH hf;have hmem:c.2.getD (yB c s) zO∈c.2:=by rw[getD_eq_getElem?_getD,List.getElem?_eq_getElem hf];exact getElem_mem _
 generalize hn:(c.2.getD (yB c s) zO).2=n at *;have hs3:=he3.size;refine yq (fun _ w'=>∃ c' F',Great { S with now:=c' } R H M/\(∀ k,c'.getD k 0<=S.now.getD k 0)/\(n≠0->Drp S.asked S.page S.now [n] c' 0)/\zY w' b db { S with now:=c' } F'/\(∀ k,F' k->F k\/w3.heap.size<=k)/\Only F w3 w') ?_ (fun J hJ=>?_);rotate_left
 ·refine zm 1 y hb13 (by rfl) ?_;refine zaF (E:=zF) 1 (fun e:Snp=>((e.2:Nat):Int)) zO (hC0.2.1.ext he03) (fun _=>rfl) rfl (by omega) (by omega) ?_;rw[Int.toNat_natCast,hn];rcases hH with ⟨h0,hG⟩|⟨h0,hG⟩
  ·refine zd (bne_eq_false_iff_eq.2 (by omega)) (hJ _ _ ⟨S.now,F,hG,fun k=>Nat.le_refl _,fun e=>absurd h0 e,h.ext he03,fun k hk=>.inl hk,Only.refl F _⟩)
  ·refine zf (bne_iff_ne.2 (by omega)) ?_;refine zb (zfP (h.ext he03) hG) ?_;rintro _ w4 ⟨rfl,c',hG',⟨F',k1,k2,k3⟩,hD,hle⟩;exact⟨_,rfl,zd (by rfl) (hJ _ _ ⟨c',F',hG',hle,fun _=>hD,k1,k2,k3⟩)⟩
 rintro _ w4 ⟨c',F',hG',hle,hD,h4,hF4,o4⟩;have hF4w:∀ k,F' k->F k\/w.heap.size<=k:=fun k hk=>by
  rcases hF4 k hk with e|e
  ·exact .inl e
  ·exact .inr (by omega)
 have nF:∀ {k:Nat},w.heap.size<=k->¬F k:=fun hk hf=>by have:=hFlt _ hf;omega
 have hO04:Only F w w4:=Only.trans (Only.zB he03) o4 (fun j hj=>.inl hj);have hC4:=(hC.ext he03).step o4 hF4;have hs4:=o4.2.2.2.1;have hb14:=hb13.only o4 (nF (by omega));have hb24:=hb23.only o4 (nF (by omega));have hF4lt:=h4.lt;refine zR (ls:=yV) (yT x y) hb14 (by rfl) ?_;refine zb (zcx hC4.now hlt) ?_;rintro _ w5 ⟨⟨X,Y,rfl,hO5⟩,he5⟩;refine⟨yT X Y,rfl,?_⟩;refine yi (vs:=zG X Y) (by rfl) (yF _ _) (fun r15 w6 hb6 he6 hr6=>?_) (by rfl);have hO6:=hO5.ext he6;have he46:=he5.trans he6;have hs46:=he46.size;refine zm 1 Y hb6 (by rfl) ?_;obtain⟨⟨raws,hT6⟩,hS6⟩:=hO6;have hYl:c.2.length=Y.2.1:=hS6.len;have hw1:wrap .i64 (((yB c s:Nat):Int)+1)=((yB c s+1:Nat):Int):=by rw[wrap_i64 (by omega) (by omega)];rfl
 rw[hw1];refine zb (zgR (i:=yB c s) hS6 (by omega) (by omega)) ?_;rintro _ w7 ⟨rfl,ho7,o7⟩;refine⟨(Y.1,Y.2.1-1,Y.2.2),rfl,?_⟩;have hT7:=hT6.snap hS6 o7;have hrow:=hS6.row;have hb67:=hb6.only o7 (fun e=>Owni.neB hS6 hb6 (by decide) _ e rfl);have hb26:=hb24.ext he46;have hb27:=hb26.only o7 (fun e=>Owni.neB hS6 hb26 (by decide) _ e rfl);show stW ((aD r15).add 1) _ _ w7;rw[zx];refine stE (o:=1) hb67 rfl (by show 1<2;omega) ?_;intro w8 hb8 o8;have hb8:Blk w8 r15 (zG X (Y.1,Y.2.1-1,Y.2.2)) 30:=hb8;have hO7:yo w7 w4.heap.size X (Y.1,Y.2.1-1,Y.2.2) (c.1,c.2.eraseIdx (yB c s)):=⟨⟨raws,hT7⟩,ho7⟩;have hO8:=hO7.box hb67 o8;refine zR (ls:=yV) (yT X (Y.1,Y.2.1-1,Y.2.2)) hb8 (by rfl) ?_;have h24:r2<w4.heap.size:=hb24.lt;have hb28:=hb27.only o8 (fun e=>by have:r2=r15:=e;have:=he5.size;omega);refine vQ (vs:=zG X (Y.1,Y.2.1-1,Y.2.2)) hb28 (by rfl) (yF _ _) (by rfl) ?_;intro w9 hb9 o9;have o48:Only (fun k=>w4.heap.size<=k) w4 w8:=by
  refine Only.trans (Only.trans (Only.zB he46) o7 (fun j hj=>.inl (hrow j hj))) o8 (fun j hj=>.inl ?_);have:j=r15:=hj;have:=he5.size;omega
 have hO9:=hO8.only o9 (fun k hk=>by have:k=r2:=hk;omega);have h49:Only (fun k=>w4.heap.size<=k\/k=r2) w4 w9:=Only.trans (o48.mono fun k hk=>.inl hk) o9 (fun j hj=>.inl (.inr hj));refine zR (ls:=yV) (yT X (Y.1,Y.2.1-1,Y.2.2)) hb9 (by rfl) ?_;refine .inr ⟨hf,X,(Y.1,Y.2.1-1,Y.2.2),c',F',rfl,hG',hle,by rw[hn];exact hD,h4.only h49 (fun k hk e=>?_),hF4w,Only.trans hO04 h49 (fun k hk=>?_),fun w16 o16=>(hO9.only o16 (fun k hk=>hF4lt k hk)).lower (Nat.zero_le _)⟩
 ·have:=hF4lt k hk;rcases e with e|e
  ·omega
  ·subst e;rcases hF4 _ hk with e|e
   ·exact nF (by omega) e
   ·have:=hb23.lt;omega
 ·rcases hk with e|e
  ·exact .inr (by have:=hO04.2.2.2.1;omega)
  ·exact .inr (by omega)
end V
/- Cells,and whether they may be:contracts of value.Check and of the document's answer. -/
namespace V
open Go Go.Proofs Go.RowKit
end V
/- Contracts of rows,of what is taken and picked (schema),and of the document's answer. -/
set_option maxRecDepth 100000
namespace V
open Go Go.Proofs Go.RowKit
def vz:Col:=(ByteArray.empty,0,false)
theorem zci {α:Type} {xs:List α} {i:Nat} {d:α} (h:i<xs.length):xs.getD i d=xs[i]:=by simp[h]
theorem zf4 {cs:List Col} {i:Nat} {s:ByteArray} (h:∀ k,k<i->k<cs.length->B (cs.getD k vz).1≠B s):((cs.take i).any fun d=>decide (B d.1=B s))=false:=by
 rw[List.any_eq_false];intro d hd;obtain⟨k,hk,rfl⟩:=mem_iff_getElem.1 hd;rw[length_take]at hk;have:=h k (by omega) (by omega);rw[zci (by omega)]at this
 simpa using this
theorem zgV {w:World} {A:Option Addr} {n c:Nat} {cs:List Col} (h:Sli qe w A n cs):
  Calls prog 72 #[.slice A n c] w (Ret fun v w'=>v=.int .i64 (xo cs)/\Ext w w'):=by
 apply zpO;unfold S72 xo;have hl:=h.len;refine zg (fun h1=>?_) (fun h1=>?_)
 ·have h1:=of_decide_eq_true h1;rw[if_pos (by omega)];exact⟨rfl,Ext.refl w⟩
 refine zg (fun h2=>?_) (fun h2=>?_)
 ·have h2:=of_decide_eq_true h2;rw[if_pos (by omega)];exact⟨rfl,Ext.refl w⟩
 have h1:=of_decide_eq_false h1;have h2:=of_decide_eq_false h2;rw[if_neg (by omega)];refine zy (fun x w'=>Ext w w'/\∃ i:Nat,i<=n/\x=((i:Int),())/\qf [] cs=qf (cs.take i) (cs.drop i)) (fun x=>(n-x.1).toNat) ⟨Ext.refl w,0,by omega,rfl,rfl⟩ ?_;rintro _ w' ⟨he,i,hi,rfl,hf⟩;dsimp only
 by_cases hlt:i<n
 ·refine zf (decide_eq_true (by omega)) ?_;have hg:cs.getD i vz=cs[i]:=zci (by omega);have hdrop:cs.drop i=cs.getD i vz::cs.drop (i+1):=by rw[hg];exact drop_eq_getElem_cons (by omega)
  have htake:cs.take (i+1)=cs.take i++[cs.getD i vz]:=by rw[hg];exact take_succ_eq_append_getElem (by omega)
  rw[hdrop,qf]at hf;refine kD (l:=.str) (fun c=>c.1) vz (h.ext he) (fun _=>rfl) rfl (by omega) (by omega) ?_;rw[Int.toNat_natCast];refine zb (uc w' _) ?_;rintro _ w1 ⟨rfl,he1⟩;refine⟨_,rfl,?_⟩;have he1:=he.trans he1;refine zg (fun hn=>?_) (fun hn=>?_)
  ·have hn:yk (B (cs.getD i vz).1)≠0:=by simpa using hn
   rw[hf,if_pos hn];exact⟨rfl,he1⟩
  have hn:yk (B (cs.getD i vz).1)=0:=by simpa using hn
  rw[if_neg (fun hh=>hh hn)]at hf;refine zaF (l:=.int .i64) 1 (fun c=>c.2.1) vz (h.ext he1) (fun _=>rfl) rfl (by omega) (by omega) ?_;rw[Int.toNat_natCast];refine zg (fun hk=>?_) (fun hk=>?_)
  ·have hk:=of_decide_eq_true hk;rw[hf,if_pos (.inl hk)];exact⟨rfl,he1⟩
  have hk:=of_decide_eq_false hk;refine zaF (l:=.int .i64) 1 (fun c=>c.2.1) vz (h.ext he1) (fun _=>rfl) rfl (by omega) (by omega) ?_;rw[Int.toNat_natCast];refine zg (fun hk2=>?_) (fun hk2=>?_)
  ·have hk2:=of_decide_eq_true hk2;rw[hf,if_pos (.inr (.inl hk2))];exact⟨rfl,he1⟩
  have hk2:=of_decide_eq_false hk2;refine zy (fun x w'=>Ext w w'/\∃ k:Nat,k<=i/\x=((k:Int),())/\∀ j,j<k->j<cs.length->B (cs.getD j vz).1≠B (cs.getD i vz).1) (fun x=>(i-x.1).toNat) ⟨he1,0,by omega,rfl,fun j hj=>by omega⟩ ?_;rintro _ w2 ⟨he2,k,hki,rfl,hall⟩;dsimp only
  by_cases hkl:k<i
  ·refine zf (decide_eq_true (by omega)) ?_;refine zM fun w3 he3 _ _=>?_;have he3:=he2.trans he3;refine kD (l:=.str) (fun c=>c.1) vz (h.ext he3) (fun _=>rfl) rfl (by omega) (by omega) ?_;refine kD (l:=.str) (fun c=>c.1) vz (h.ext he3) (fun _=>rfl) rfl (by omega) (by omega) ?_;rw[Int.toNat_natCast,Int.toNat_natCast,qh];refine zg (fun hd=>?_) (fun hd=>?_)
   ·have hd:=of_decide_eq_true hd;rw[hf,if_pos]
    ·exact⟨rfl,he3⟩
    ·refine .inr (.inr (List.any_eq_true.2 ⟨cs.getD k vz,?_,decide_eq_true hd⟩));rw[zci (show k<cs.length by omega)];exact mem_iff_getElem.2 ⟨k,by simp;omega,by simp⟩
   ·have hd:=of_decide_eq_false hd;rw[wrap_i64 (by omega) (by omega)];refine⟨⟨he3,k+1,by omega,rfl,fun j hj hjl=>?_⟩,by omega⟩
    by_cases hjk:j=k
    ·subst hjk;exact hd
    ·exact hall j (by omega) hjl
  ·obtain rfl:k=i:=by omega
   refine zd (decide_eq_false (by omega)) ?_;rw[wrap_i64 (by omega) (by omega)];rw[if_neg (by
    rintro(h3|h3|h3)
    ·exact hk h3
    ·exact hk2 h3
    ·rw[zf4 hall]at h3;cases h3)]at hf
   exact⟨⟨he2,k+1,by omega,rfl,by rw[htake];exact hf⟩,by omega⟩
 ·obtain rfl:i=n:=by omega
  refine zd (decide_eq_false (by omega)) ?_;rw[drop_of_length_le (by omega)]at hf;exact⟨by rw[hf];rfl,he⟩
end V
/- Contracts of the package shadowbookref24:Check. -/
namespace V
open Go Go.Proofs Go.RowKit Crc
variable {w w':World}
theorem uq {α:Type} {f:α->ByteArray} {d:α}:∀ {l:List α},yY f l=true↔∀ i,i+1<l.length->ltB (B (f (l.getD i d))) (B (f (l.getD (i+1) d)))=true
 |[]=>by simp[yY]
 |[_]=>by simp[yY]
 |x::y::r=>by
  have ih:=uq (f:=f) (d:=d) (l:=y::r);simp only [yY,Bool.and_eq_true];constructor
  ·rintro⟨h1,h2⟩ i hi;cases i with
   |zero=>exact h1
   |succ i=>exact ih.1 h2 i (by simpa using hi)
  ·intro h;exact⟨h 0 (by simp),ih.2 fun i hi=>h (i+1) (by simpa using hi)⟩
def zk2 (c:Cat) (i:Nat):Prop:=yk (B (c.1.getD i zz).1)=0/\(i=0\/ltB (B (c.1.getD (i-1) zz).1) (B (c.1.getD i zz).1)=true)/\jx (c.1.getD i zz)=true
def zk3 (c:Cat) (i:Nat):Prop:=yk (B (c.2.getD i zO).1)=0/\(i=0\/ltB (B (c.2.getD (i-1) zO).1) (B (c.2.getD i zO).1)=true)
theorem zcj {α:Type} {l:List α} {d x:α} (h:x∈l):∃ i,i<l.length/\l.getD i d=x:=by
 obtain⟨i,hi,e⟩:=mem_iff_getElem.1 h;exact⟨i,hi,by rw[getD_eq_getElem?_getD,List.getElem?_eq_getElem hi];exact e⟩
theorem ur {α:Type} {l:List α} {d:α} {i:Nat} (h:i<l.length):l.getD i d∈l:=by rw[getD_eq_getElem?_getD,List.getElem?_eq_getElem h];exact getElem_mem _
theorem zbB {c:Cat}:xZ c=true↔(c.1.length<=16/\c.2.length<=16)/\(∀ i,i<c.1.length->zk2 c i)/\∀ i,i<c.2.length->zk3 c i:=by
 unfold xZ yK zet;simp only [Bool.and_eq_true,decide_eq_true_iff,List.all_eq_true];constructor
 ·rintro⟨h0,⟨h1,h2⟩,⟨h3,h4⟩,h5⟩;refine⟨h0,fun i hi=>⟨h1 _ (ur hi),?_,h5 _ (ur hi)⟩,fun i hi=>⟨h3 _ (ur hi),?_⟩⟩
  ·cases i with
   |zero=>exact .inl rfl
   |succ i=>exact .inr ((uq (d:=zz)).1 h2 i hi)
  ·cases i with
   |zero=>exact .inl rfl
   |succ i=>exact .inr ((uq (d:=zO)).1 h4 i hi)
 ·rintro⟨h0,h1,h2⟩;refine⟨h0,⟨fun e he=>?_,(uq (d:=zz)).2 fun i hi=>?_⟩,⟨fun e he=>?_,(uq (d:=zO)).2 fun i hi=>?_⟩,fun e he=>?_⟩
  ·obtain⟨i,hi,rfl⟩:=zcj (d:=zz) he;exact(h1 i hi).1
  ·exact((h1 (i+1) hi).2.1).resolve_left (by omega)
  ·obtain⟨i,hi,rfl⟩:=zcj (d:=zO) he;exact(h2 i hi).1
  ·exact((h2 (i+1) hi).2).resolve_left (by omega)
  ·obtain⟨i,hi,rfl⟩:=zcj (d:=zz) he;exact(h1 i hi).2.2
theorem zqI {c:Cat} (h:¬xZ c=true):(if xZ c=true then (0:Int) else 240)=240:=if_neg h
theorem zf5 {x y:SLC} {c:Cat} (h:yJ w x y c):
  Calls prog 31 #[.agg (zG x y).toArray] w (Ret fun v w'=>v=.int .i64 (if xZ c then 0 else 240)/\Ext w w'):=by
 obtain⟨⟨raws,hT⟩,hs,hcx,hcy⟩:=h;have hl:=hT.len;have hxl:=hT.sl.len;have hyl:=hs.len;apply zpe;unfold S31;refine zp fun r1 w1 hb1 he1 hr1 hz1=>?_;have hb1:Blk w1 r1 (zG x y) 30:=hb1;have no:∀ {w2:World},Ext w1 w2->¬xZ c=true->(fun v w'=>v=Value.int .i64 (if xZ c then 0 else 240)/\Ext w w') (.int .i64 240) w2:=fun he hc=>⟨by rw[zqI hc],he1.trans he⟩;refine zJ x hb1 (by rfl) ?_;refine zg (fun hq=>no (Ext.refl _) (fun hc=>?_)) (fun hq1=>?_)
 ·have:=(zbB.1 hc).1.1;have:=of_decide_eq_true hq;omega
 have hq1:=of_decide_eq_false hq1;refine zm 1 y hb1 (by rfl) ?_;refine zg (fun hq=>no (Ext.refl _) (fun hc=>?_)) (fun hq2=>?_)
 ·have:=(zbB.1 hc).1.2;have:=of_decide_eq_true hq;omega
 have hq2:=of_decide_eq_false hq2;refine zy (fun q w'=>∃ i:Nat,i<=c.1.length/\q=((i:Int),())/\Ext w1 w'/\∀ j,j<i->zk2 c j) (fun q=>(c.1.length-q.1).toNat) ⟨0,by omega,rfl,Ext.refl _,fun j hj=>by omega⟩ ?_;rintro _ w2 ⟨i,hi,rfl,he2,hok⟩;dsimp only;have hb2:=hb1.ext he2;refine zJ x hb2 (by rfl) ?_
 by_cases hlt:i<c.1.length
 ·refine zf (decide_eq_true (by omega)) (zJ x hb2 (by rfl) ?_);have hE:=(hT.at_ i hlt).ext (he1.trans he2);have eg:raws[i]?=some (raws.getD i yI):=by rw[getD_eq_getElem?_getD,List.getElem?_eq_getElem (by omega)];rfl
  have hok_:zk2 c i↔yk (B (c.1.getD i zz).1)=0/\(i=0\/ltB (B (c.1.getD (i-1) zz).1) (B (c.1.getD i zz).1)=true)/\jx (c.1.getD i zz)=true:=Iff.rfl;generalize c.1.getD i zz=e at *;generalize raws.getD i yI=p at *;refine xQ (hT.sl.ext (he1.trans he2)) (by omega) (x:=p) (by rw[Int.toNat_natCast];exact eg) rfl ?_;intro pa hpa hca;refine qn (ls:=zb6) (x:=zau p) hca ?_;refine yi (vs:=yu.f p) (by rfl) (yu.one _) (fun r10 w3 hb3 he3 hr3=>?_) (by rfl);have hw:wrap .i64 ((i:Int)+1)=((i+1:Nat):Int):=by rw[wrap_i64 (by omega) (by omega)];rfl
  rw[hw];refine yq (fun q w'=>∃ bad:Bool,q=(bad,())/\Ext w3 w'/\(bad=true↔¬zk2 c i)) ?_ (fun J hJ=>?_)
  ·rintro _ w4 ⟨bad,rfl,he4,hbad⟩;have he24:=he2.trans (he3.trans he4);dsimp only;cases bad with
   |true=>exact zf rfl (no he24 (fun hc=>hbad.1 rfl ((zbB.1 hc).2.1 i hlt)))
   |false=>
    refine zd rfl ⟨⟨i+1,by omega,rfl,he24,fun j hj=>?_⟩,by omega⟩
    by_cases hji:j=i
    ·rw[hji];apply Classical.byContradiction;intro hn;have:=hbad.2 hn;cases this
    ·exact hok j (by omega)
  ·refine zM fun w4 he4 hz4 hh4=>?_;have hb4:Blk w4 r10 (yu.f p) 42:=hb3.ext he4;have e1:p.1=e.1:=hE.name;refine zJ p.1 hb4 (by rfl) ?_;rw[e1];refine zb (uc w4 e.1) ?_;rintro _ w5 ⟨rfl,he5⟩;refine⟨_,rfl,?_⟩;have he35:=he4.trans he5;have hb5:=hb4.ext he5;refine zg (fun hq=>?_) (fun hq=>?_)
   ·have hq:=bne_iff_ne.1 hq;exact hJ _ _ ⟨true,rfl,he35,by simp;exact fun hh=>hq (hok_.1 hh).1⟩
   have hn0:yk (B e.1)=0:=bne_eq_false_iff_eq.1 hq;have hcols:=hE.cols.ext (he3.trans he35);have rest:∀ {w6:World},Ext w5 w6->(i=0\/ltB (B (c.1.getD (i-1) zz).1) (B e.1)=true)->
     (ldW .slc ((aD r10).add 1) fun(u26:SLC)=>
      ze prog 72 [(.slice u26.1 u26.2.1 u26.2.2)] (.one (.one (.int .i64))) fun(u27:Int)=>
      za (u27 !=(0:Int)) (J (true,()))<|
      ldW (.int .i64) ((aD r10).add 4) fun(u28:Int)=>
      za (decide (u28<(0:Int))) (J (true,()))<|
      ldW (.int .i64) ((aD r10).add 4) fun(u29:Int)=>
      za (decide (u29>(4096:Int))) (J (true,()))<|
      ldW (.int .u32) ((aD r10).add 2) fun(u30:Int)=>
      ldW (.int .i64) ((aD r10).add 4) fun(u31:Int)=>
      za (!((u30==(0:Int))==(u31==(0:Int)))) (J (true,()))<|
      ldW (.int .u64) ((aD r10).add 3) fun(u32:Int)=>J ((decide (u32>=(1099511627776:Int))),())) w6:=by
    intro w6 he6 hlt2;have hb6:=hb5.ext he6;have e2:p.2.2=e.2.2:=hE.rest;have eOK:jx e=true↔xo e.2.1=0/\(0<=p.2.2.2.2/\p.2.2.2.2<=4096)/\(p.2.2.1=0↔p.2.2.2.2=0)/\p.2.2.2.1<1099511627776:=by
     unfold jx;rw[e2];simp only [Bool.and_eq_true,decide_eq_true_iff]
    refine zm 1 p.2.1 hb6 (by rfl) ?_;refine zb (zgV (hcols.ext he6)) ?_;rintro _ w7 ⟨rfl,he7⟩;refine⟨_,rfl,?_⟩;have hb7:=hb6.ext he7;have he37:=(he35.trans he6).trans he7;have bad:¬jx e=true->J (true,()) w7:=fun hne=>hJ _ _ ⟨true,rfl,he37,by simp;exact fun hh=>hne (hok_.1 hh).2.2⟩;refine zg (fun hq=>bad fun hh=>bne_iff_ne.1 hq (eOK.1 hh).1) (fun hq3=>?_);refine zm 4 p.2.2.2.2 hb7 (by rfl) ?_;refine zg (fun hq=>bad fun hh=>by have:=(eOK.1 hh).2.1;have:=of_decide_eq_true hq;omega) (fun hq4=>?_);refine zm 4 p.2.2.2.2 hb7 (by rfl) ?_;refine zg (fun hq=>bad fun hh=>by have:=(eOK.1 hh).2.1;have:=of_decide_eq_true hq;omega) (fun hq5=>?_);refine zm 2 ((p.2.2.1:Nat):Int) hb7 (by rfl) (zm 4 p.2.2.2.2 hb7 (by rfl) ?_);have hiff:(((p.2.2.1:Int)==(0:Int))==(p.2.2.2.2==(0:Int)))=true↔(p.2.2.1=0↔p.2.2.2.2=0):=by
     rw[beq_iff_eq,Bool.eq_iff_iff,beq_iff_eq,beq_iff_eq];constructor
     ·intro hh;exact⟨fun e=>hh.1 (by omega),fun e=>by have:=hh.2 e;omega⟩
     ·intro hh;exact⟨fun e=>hh.1 (by omega),fun e=>by have:=hh.2 e;omega⟩
    refine zg (fun hq=>bad fun hh=>?_) (fun hq6=>?_)
    ·rw[hiff.2 (eOK.1 hh).2.2.1]at hq;cases hq
    have h6:(p.2.2.1=0↔p.2.2.2.2=0):=hiff.1 (by simpa using hq6);refine zm 3 ((p.2.2.2.1:Nat):Int) hb7 (by rfl) ?_;refine hJ _ _ ⟨_,rfl,he37,?_⟩;rw[decide_eq_true_iff,hok_,eOK];have h3:=bne_eq_false_iff_eq.1 hq3;have h4:=of_decide_eq_false hq4;have h5:=of_decide_eq_false hq5;constructor
    ·rintro h7 ⟨_,_,_,_,_,h8⟩;omega
    ·intro h7;apply Classical.byContradiction;intro h8;exact h7 ⟨hn0,hlt2,h3,by omega,h6,by omega⟩
   by_cases h0:i=0
   ·refine zd (decide_eq_false (by omega)) ?_;exact rest (Ext.refl _) (.inl h0)
   ·refine zf (decide_eq_true (by omega)) (zJ x ((hb2.ext he3).ext he35) (by rfl) ?_);rw[show wrap .i64 ((i:Int)-1)=((i-1:Nat):Int) by rw[wrap_i64 (by omega) (by omega)];omega];refine kD (E:=yu) (fun e:Raw=>e.1) yI (hT.sl.ext ((he1.trans he2).trans (he3.trans he35))) (fun _=>rfl) rfl (by omega) (by omega) ?_;rw[Int.toNat_natCast,(hT.at_ (i-1) (by omega)).name];refine zJ p.1 hb5 (by rfl) ?_;rw[e1,zav];refine zg (fun hq=>?_) (fun hq=>?_)
    ·have hq:ltB (B (c.1.getD (i-1) zz).1) (B e.1)=false:=by simpa using hq
     refine hJ _ _ ⟨true,rfl,he35,?_⟩;simp;intro hh;rcases (hok_.1 hh).2.1 with h|h
     ·exact h0 h
     ·rw[hq]at h;cases h
    ·exact rest (Ext.refl _) (.inr (by simpa using hq))
 obtain rfl:i=c.1.length:=by omega
 refine zd (decide_eq_false (by omega)) ?_;refine zy (fun q w'=>∃ i:Nat,i<=c.2.length/\q=((i:Int),())/\Ext w1 w'/\∀ j,j<i->zk3 c j) (fun q=>(c.2.length-q.1).toNat) ⟨0,by omega,rfl,he2,fun j hj=>by omega⟩ ?_;rintro _ w3 ⟨i,hi,rfl,he3,hok2⟩;dsimp only;have hb3:=hb1.ext he3;refine zm 1 y hb3 (by rfl) ?_
 by_cases hlt:i<c.2.length
 ·refine zf (decide_eq_true (by omega)) ?_;refine zM fun w4 he4 hz4 hh4=>?_;have hb4:=hb3.ext he4;have he14:=he3.trans he4;refine zm 1 y hb4 (by rfl) ?_;refine kD (E:=zF) (fun e:Snp=>e.1) zO (hs.ext (he1.trans he14)) (fun _=>rfl) rfl (by omega) (by omega) ?_;rw[Int.toNat_natCast];refine zb (uc w4 _) ?_;rintro _ w5 ⟨rfl,he5⟩;refine⟨_,rfl,?_⟩;have he15:=he14.trans he5;have hb5:=hb4.ext he5;have hw:wrap .i64 ((i:Int)+1)=((i+1:Nat):Int):=by rw[wrap_i64 (by omega) (by omega)];rfl
  rw[hw];refine zg (fun hq=>no he15 (fun hc=>bne_iff_ne.1 hq ((zbB.1 hc).2.2 i hlt).1)) (fun hq=>?_);have hn0:=bne_eq_false_iff_eq.1 hq;have fin:zk3 c i->∀ j,j<i+1->zk3 c j:=fun hh j hj=>by
   by_cases e:j=i
   ·rw[e];exact hh
   ·exact hok2 j (by omega)
  by_cases h0:i=0
  ·refine zd (decide_eq_false (by omega)) ?_;exact⟨⟨i+1,by omega,rfl,he15,fin ⟨hn0,.inl h0⟩⟩,by omega⟩
  ·refine zf (decide_eq_true (by omega)) (zm 1 y hb5 (by rfl) ?_);rw[show wrap .i64 ((i:Int)-1)=((i-1:Nat):Int) by rw[wrap_i64 (by omega) (by omega)];omega];refine kD (E:=zF) (fun e:Snp=>e.1) zO (hs.ext (he1.trans he15)) (fun _=>rfl) rfl (by omega) (by omega) ?_;refine zm 1 y hb5 (by rfl) ?_;refine kD (E:=zF) (fun e:Snp=>e.1) zO (hs.ext (he1.trans he15)) (fun _=>rfl) rfl (by omega) (by omega) ?_;rw[Int.toNat_natCast,Int.toNat_natCast,zav];refine zg (fun hq=>no he15 (fun hc=>?_)) (fun hq=>?_)
   ·have hq:ltB (B (c.2.getD (i-1) zO).1) (B (c.2.getD i zO).1)=false:=by simpa using hq
    rcases ((zbB.1 hc).2.2 i hlt).2 with h|h
    ·exact h0 h
    ·rw[hq]at h;cases h
   ·exact⟨⟨i+1,by omega,rfl,he15,fin ⟨hn0,.inr (by simpa using hq)⟩⟩,by omega⟩
 obtain rfl:i=c.2.length:=by omega
 refine zd (decide_eq_false (by omega)) ⟨?_,he1.trans he3⟩;rw[if_pos (zbB.2 ⟨⟨by omega,by omega⟩,hok,hok2⟩)]
end V
/- Law 26:the space that all begin with;catalogs of names. -/
namespace V
open Go Go.Proofs Go.RowKit Crc
variable {w0 w w':World} {b db:Nat} {S:Spa} {F:Nat->Prop} {R H:List Nat} {M:Option (List Nat)}
theorem zd4 (w:World):Calls prog 8 #[] w (Ret fun v w'=>∃ db b,v=.pointer (some ⟨b,0,none⟩)/\∃ F,St w w' b db S0 F):=by
 apply zqS;unfold S8;refine zb (zkb w 256 256) ?_;rintro _ w2 (⟨_,db,rfl,hd⟩|⟨hg,_⟩)
 ·refine⟨(some ⟨db,0,none⟩,0,()),rfl,?_⟩;refine zb (zmf hd) ?_;rintro _ w3 ⟨b,rfl,F,h3⟩;exact⟨(some ⟨b,0,none⟩,0,()),rfl,zd (by rfl) ⟨db,b,rfl,F,h3⟩⟩
 ·rw[zf1]at hg;cases hg
def zP (es:List Ent):List Nat:=es.filterMap fun e=>if e.2.2.1=0 then none else some e.2.2.1
theorem jG (es:List Ent) (e:Ent):zP (es++[e])=zP es++(if e.2.2.1=0 then [] else [e.2.2.1]):=by
 unfold zP;rw[List.filterMap_append];congr 1;split
 ·rename_i h;simp[h]
 ·rename_i h;simp[h]
theorem zgD (A:Option Addr) (es:List Ent):∀ i,i<=es.length->(spT A es i).map (fun p=>p.2.2)=zP (es.take i)
 |0,_=>rfl
 |i+1,h=>by
  rw[jz,map_append,zgD A es i (by omega),zdz (d:=zz) (by omega),jG];congr 1;split<;>rfl
theorem zbd (c:Cat):z8 (alone c)=zP c.1:=by
 rw[<- zd2 (none,0,0) (none,0,0)];unfold z7 alone;rw[map_append,zgD none c.1 _ (Nat.le_refl _),take_of_length_le (Nat.le_refl _)];simp[spS]
theorem zfp {es:List Ent} {r:Nat} (h:r∈zP es):∃ j,j<es.length/\(es.getD j zz).2.2.1=r/\r≠0:=by
 unfold zP at h;obtain⟨e,he,h2⟩:=List.mem_filterMap.1 h;split at h2
 ·cases h2
 ·rename_i hn;injection h2 with h2
  obtain⟨j,hj,e2⟩:=zcj (d:=zz) he;exact⟨j,hj,by rw[e2];exact h2,by omega⟩
def fM (m:Nat):Nat:=if m % 3=0 then 0 else if m % 3=1 then 2 else 1
structure xD (S:Spa) (es:List Ent) (xs:List ByteArray) (rows i:Nat):Prop where
 len:es.length=i
 great:Great S (zP es) [] none
 ent:∀ j,j<i->∃ r,es.getD j zz=(xs.getD j ByteArray.empty,ku,r,j,if r=0 then (0:Int) else ((1+j:Nat):Int))/\(r≠0->S.page r=(((7:UInt8),[],xs.getD j ByteArray.empty),0)/\S.now.getD r 0=1)
 nodup:(zP es).Nodup
 mk_:Mk S0 S (zP es)
 many:3*(zP es).length+fM (rows+i)=2*i+fM rows
theorem xD.init (xs:List ByteArray) (rows:Nat):xD S0 [] xs rows 0:=⟨rfl,zax,fun j hj=>by omega,List.nodup_nil,Mk.refl _,by show 3*0+fM (rows+0)=2*0+fM rows;rw[Nat.add_zero]⟩
theorem xD.none_ {es:List Ent} {xs:List ByteArray} {rows i:Nat} (h:xD S es xs rows i) (hm:(rows+i) % 3=0):xD S (es++[(xs.getD i ByteArray.empty,ku,0,i,0)]) xs rows (i+1):=by
 have hr:zP (es++[(xs.getD i ByteArray.empty,ku,0,i,0)])=zP es:=by rw[jG,if_pos rfl,append_nil]
 refine⟨by rw[length_append,h.len];rfl,by rw[hr];exact h.great,fun j hj=>?_,by rw[hr];exact h.nodup,by rw[hr];exact h.mk_,?_⟩
 ·rw[uk h.len]
  by_cases e:j<i
  ·rw[if_pos e];exact h.ent j e
  ·have e2:j=i:=by omega
   subst e2;rw[if_neg e,if_pos rfl];exact⟨0,by rw[if_pos rfl],fun hh=>absurd rfl hh⟩
 ·rw[hr];have:=h.many;unfold fM at this ⊢;rw[if_pos hm]at this;rw[if_neg (by omega),if_pos (by omega)];omega
theorem xD.some_ {S':Spa} {es:List Ent} {xs:List ByteArray} {rows i k:Nat} (h:xD S es xs rows i) (hm:(rows+i) % 3≠0) (hP:kj S S' ((7:UInt8),[],xs.getD i ByteArray.empty) k) (hG:Great S' (k::zP es) [] none):xD S' (es++[(xs.getD i ByteArray.empty,ku,k,i,((1+i:Nat):Int))]) xs rows (i+1):=by
 have h2:=hP.two;have hk0:k≠0:=by omega
 have hr:zP (es++[(xs.getD i ByteArray.empty,ku,k,i,((1+i:Nat):Int))])=zP es++[k]:=by rw[jG,if_neg hk0]
 have hl:S.now.length=S.N:=h.great.good.ok.now;have hfr:=(zW.1 hP.free).1;have hnk:∀ {r j:Nat},j<i->(es.getD j zz).2.2.1=r->r≠0->r≠k:=fun hj he h0 e=>by
  obtain⟨r',e1,e2⟩:=h.ent _ hj;rw[e1]at he;have he:r'=_:=he;subst he;have:=(e2 h0).2;rw[e]at this;omega
 refine⟨by rw[length_append,h.len];rfl,?_,fun j hj=>?_,?_,?_,?_⟩
 ·rw[hr];exact hG.perm (List.perm_append_singleton k (zP es)).symm
 ·rw[uk h.len]
  by_cases e:j<i
  ·rw[if_pos e];obtain⟨r,e1,e2⟩:=h.ent j e;refine⟨r,e1,fun h0=>?_⟩;obtain⟨e3,e4⟩:=e2 h0;have hne:=hnk e (by rw[e1]) h0;have hlt:r<S.N:=by
    have hm:r∈zP es:=by
     unfold zP;refine List.mem_filterMap.2 ⟨es.getD j zz,ur (by rw[h.len];exact e),?_⟩;rw[e1,if_neg h0]
    exact h.great.good.well.lt (h.great.good.well.root r hm)
   refine⟨by rw[hP.other r hne hlt];exact e3,?_⟩;rw[hP.now,yg,if_neg (fun hh=>hne hh.1.symm)];exact e4
  ·have e2:j=i:=by omega
   subst e2;rw[if_neg e,if_pos rfl];refine⟨k,by rw[if_neg hk0],fun _=>⟨hP.page,?_⟩⟩;rw[hP.now,yg,if_pos ⟨rfl,by rw[hl];exact hP.lt⟩]
 ·rw[hr,List.nodup_append];refine⟨h.nodup,by simp,fun a ha c hc e=>?_⟩;rw[mem_singleton]at hc;obtain⟨j,hj,e1,e2⟩:=zfp ha;exact hnk (by rw[h.len]at hj;exact hj) e1 e2 (by omega)
 ·rw[hr];exact h.mk_.trans (hP.mk_ hl)
 ·rw[hr,length_append];have:=h.many;unfold fM at this ⊢;rw[if_neg hm]at this;show 3*((zP es).length+1)+_=_
  by_cases h1:(rows+i) % 3=1
  ·rw[if_pos h1]at this;rw[if_neg (by omega),if_neg (by omega)];omega
  ·rw[if_neg h1]at this;rw[if_pos (by omega)];omega
theorem xD.bound {es:List Ent} {xs:List ByteArray} {rows i:Nat} (h:xD S es xs rows i):i<=400/\(zP es).length<=251/\S.dev.pen.length<=251:=by
 have h1:=h.mk_.free;rw[zbA]at h1;have h2:=h.many;have h3:∀ m,fM m<=2:=fun m=>by unfold fM;split<;>(try split)<;>omega
 have:=h3 (rows+i);have:=h3 rows;have h4:=h.mk_.pen;rw[ziz]at h4;have:([]:List (Int×ByteArray)).length=0:=rfl;refine⟨by omega,by omega,by omega⟩
def zdo (x:SLC) (raws:List Raw) (k:Nat):Prop:=orow x.1=some k\/∃ i,i<raws.length/\orow (raws.getD i yI).2.1.1=some k
theorem yA.apart {G:Nat->Prop} {B0:Nat} {x:SLC} {raws:List Raw} {es:List Ent} (h:yA w B0 x raws es) (o:Only G w w') (hG:∀ k,zdo x raws k->¬G k):yA w' B0 x raws es:=
 ⟨h.row.only o (fun j hj=>hG j (.inl hj)),h.len,fun i hi=>⟨(h.at_ i hi).name,(h.at_ i hi).rest,(h.at_ i hi).cols.only o (fun j hj=>hG j (.inr ⟨i,by rw[h.len];exact hi,hj⟩))⟩⟩
theorem yA.rows {B0:Nat} {x:SLC} {raws:List Raw} {es:List Ent} (h:yA w B0 x raws es) {k:Nat} (hk:zdo x raws k):B0<=k/\k<w.heap.size:=by
 rcases hk with e|⟨i,hi,e⟩
 ·exact⟨h.row.row k e,h.row.yd k e⟩
 ·have hE:=h.at_ i (by rw[<- h.len];exact hi);exact⟨hE.cols.row k e,hE.cols.yd k e⟩
structure ud (w0 w:World) (b db r1 r2 B0:Nat) (S:Spa) (F:Nat->Prop) (x:SLC) (raws:List Raw) (es:List Ent):Prop where
 st:St w0 w b db S F
 b1:Blk w r1 (zG (none,0,0) (none,0,0)) 30
 b2:Blk w r2 (zG x (none,0,0)) 30
 tabs:yA w B0 x raws es
 nF:∀ k,F k->k≠r1/\k≠r2/\¬zdo x raws k
variable {r1 r2 B0 rows i:Nat} {xs:List ByteArray} {x:SLC} {raws:List Raw} {es:List Ent}
theorem ud.ext' (h:ud w0 w b db r1 r2 B0 S F x raws es) (he:Ext w w'):ud w0 w' b db r1 r2 B0 S F x raws es:=
 ⟨h.st.ext' he,h.b1.ext he,h.b2.ext he,h.tabs.ext he,h.nF⟩
def zf6 (w0:World) (b db:Nat) (xs:List ByteArray) (rows:Nat) (v:Value) (w':World):Prop:=
 ∃ (x y:SLC) (ok:Bool),v=.tuple #[.agg (zG x y).toArray,.bool ok]/\Ext w0 w'/\
  (ok=true->∃ S F es,y=(none,0,0)/\St w0 w' b db S F/\xD S es xs rows xs.length/\xs.length<=8/\xZ (es,[])=true/\Safe F w' (fun w=>yo w 0 x y (es,[])))
theorem zck {ok:Bool} (h:ud w0 w b db r1 r2 B0 S F x raws es) (h1:w0.heap.size<=r1) (hB:r1<B0) (hok:ok=true->xD S es xs rows xs.length/\xs.length<=8/\xZ (es,[])=true):
  (zc ((#[(.slice x.1 x.2.1 x.2.2),(.slice none 0 0)]:Array Value).size=2)<|
   zq (aD r1) [(.slice x.1 x.2.1 x.2.2),(.slice none 0 0)]<|
   zl [.slc,.slc] (aD r1) fun(u17:(SLC×SLC×Unit))=>zf6 w0 b db xs rows (.tuple #[(.agg #[(.slice u17.1.1 u17.1.2.1 u17.1.2.2),(.slice u17.2.1.1 u17.2.1.2.1 u17.2.1.2.2)]),(.bool ok)])) w:=by
 refine vQ (vs:=zG x (none,0,0)) h.b1 (by rfl) (yF _ _) (by rfl) ?_;intro w2 hb2 o2;refine zR (ls:=yV) (yT x (none,0,0)) hb2 (by rfl) ?_;have e2:Ext w0 w2:=Only.ext h.st.ext o2 (fun j hj=>by have:j=r1:=hj;omega);refine⟨x,(none,0,0),ok,rfl,e2,fun hh=>?_⟩;obtain⟨hpl,h8,hc⟩:=hok hh;have hsp:zY w2 b db S F:=h.st.sp.only o2 (fun k hk e=>(h.nF k hk).1 e);have ht:=h.tabs.apart o2 (fun k hk e=>by have:=(h.tabs.rows hk).1;have:k=r1:=e;omega);refine⟨S,F,es,rfl,⟨hsp,h.st.low,e2⟩,hpl,h8,hc,fun w3 o3=>⟨⟨raws,?_⟩,Owni.nil _ _ _⟩⟩;exact(ht.apart o3 (fun k hk hf=>(h.nF k hf).2.2 hk)).lower (Nat.zero_le _)
theorem ziD {r12:Nat} {e:Ent} {P:SLC} {N:WP} (h:ud w0 w b db r1 r2 B0 S F x raws es) (hl:es.length=i) (h12:r1<B0/\r2<B0/\r1≠r2) (hB:B0<=r12) (hb:Blk w r12 (yu.f (e.1,P,e.2.2)) 42) (hp:Owni qe 95 w B0 P.1 P.2.1 P.2.2 e.2.1) (hnP:∀ k,orow P.1=some k->¬F k) (hn:i<=1000) (hn12:¬F r12) (hw0:w0.heap.size<=r2/\w0.heap.size<=B0) (hpl:xD S (es++[e]) xs rows (i+1))
  (hN:∀ w' x' raws',ud w0 w' b db r1 r2 B0 S F x' raws' (es++[e])->N w'):
  (ldW .slc (aD r2) fun(u18:SLC)=>
   zl [.str,.slc,(.int .u32),(.int .u64),(.int .i64)] (aD r12) fun(u19:(ByteArray×SLC×Int×Int×Int×Unit))=>
   zi (.cells #[(.string u19.1),(.slice u19.2.1.1 u19.2.1.2.1 u19.2.1.2.2),(.int .u32 u19.2.2.1),(.int .u64 u19.2.2.2.1),(.int .i64 u19.2.2.2.2.1)] 42) fun(r20:Nat)=>
   zv prog (Builtin.append_ #[27,27] 27 #[(.slice u18.1 u18.2.1 u18.2.2),(.slice (some (aD r20)) 1 1)]) .slc fun(u21:SLC)=>
   stW (aD r2) (.slice u21.1 u21.2.1 u21.2.2)<|N) w:=by
 have hxl:=h.tabs.row.len;have hrl:=h.tabs.len;refine zJ x h.b2 (by rfl) ?_;refine zR (ls:=zb6) (zau (e.1,P,e.2.2)) hb (by rfl) ?_;refine yS (E:=yu) (ys:=[(e.1,P,e.2.2)]) (by rfl) rfl zev h.tabs.row (by have:=hb.lt;omega) (by omega) (by omega) ?_;intro A' c' w2 ho2 hg2;have hlt:=h.st.sp.lt;have hrow:=h.tabs.row.row;have hnx:∀ k,F k->orow x.1≠some k:=fun k hk e=>(h.nF k hk).2.2 (.inl e);have hsp2:zY w2 b db S F:=h.st.sp.only (G:=fun k=>orow x.1=some k) (Only.zT hg2.grown (fun j hj=>.inl hj)) (fun k hk e=>hnx k hk e);have hb12:=h.b1.grown hg2.grown (fun e=>by have:=hrow _ e.symm;omega);have hb22:=h.b2.grown hg2.grown (fun e=>by have:=hrow _ e.symm;omega);have e02:Ext w0 w2:=h.st.ext.grown hg2.grown (fun j hj=>by have:=hrow j hj;omega);refine stE (o:=0) hb22 rfl (by show 0<2;omega) ?_;intro w3 hb3 o3;have hx0:w.heap.size<=w2.heap.size:=hg2.grown.size;refine hN w3 (A',x.2.1+1,c') (raws++[(e.1,P,e.2.2)]) ⟨⟨hsp2.only o3 (fun k hk e=>(h.nF k hk).2.1 e),h.st.low,Only.ext e02 o3 (fun j hj=>by have:j=r2:=hj;omega)⟩,hb12.only o3 (fun e=>h12.2.2 e),hb3,?_,fun k hk=>⟨(h.nF k hk).1,(h.nF k hk).2.1,?_⟩⟩
 ·have hold:∀ j,j<es.length->xM w2 B0 (raws.getD j yI) (es.getD j zz):=fun j hj=>(h.tabs.at_ j hj).grown h.tabs.row hg2.grown;have hnew:xM w2 B0 ((e.1,P,e.2.2):Raw) e:=⟨rfl,rfl,hp.grown hg2.grown (fun j hj=>h.tabs.row.ne hp (by decide) j hj)⟩;have hT2:=h.tabs.snoc (c:=c') ho2 hold hnew;refine hT2.apart o3 (fun k hk e=>?_);have:=(hT2.rows hk).1;have:k=r2:=e;omega
 ·rintro(e|⟨j,hj,e⟩)
  ·rcases hg2.next k e with e|e
   ·exact hnx k hk e
   ·have:=hlt k hk;omega
  ·rw[uk (n:=raws.length) rfl]at e;rw[length_append]at hj;split at e
   ·rename_i hj2;exact(h.nF k hk).2.2 (.inr ⟨j,hj2,e⟩)
   ·split at e
    ·exact hnP k e hk
    ·rename_i h1 h2;have:j<raws.length+1:=hj;omega
end V
/- Law 26:catalogs of names,made. -/
namespace V
open Go Go.Proofs Go.RowKit Crc
variable {w0 w w':World} {b db:Nat} {S:Spa} {F:Nat->Prop}
variable {r1 r2 B0 rows i:Nat} {xs:List ByteArray} {x:SLC} {raws:List Raw} {es:List Ent}
theorem zrB (rows i:Nat) (h:rows+i<9223372036854775808):(Int.tmod (wrap .i64 ((rows:Int)+(i:Int))) (3:Int) !=(0:Int))=decide ((rows+i) % 3≠0):=by
 rw[wrap_i64 (by omega) (by omega),show(rows:Int)+(i:Int)=((rows+i:Nat):Int) by omega];have:Int.tmod ((rows+i:Nat):Int) (3:Int)=(((rows+i) % 3:Nat):Int):=rfl;rw[this]
 by_cases h:(rows+i) % 3=0
 ·rw[h];rfl
 ·rw[decide_eq_true h];exact bne_iff_ne.2 (by omega)
theorem zmi {A1:Option Addr} {n1 c1 r12:Nat} {P:SLC} {I:Int×Unit->WP} (hs:Sli yN w A1 n1 xs) (hi:i<n1) (hx:(xs.getD i ByteArray.empty).size<=30) (h:ud w0 w b db r1 r2 B0 S F x raws es) (pl:xD S es xs rows i) (hRow:¬zdo x raws r12) (h12:w0.heap.size<=r1/\w0.heap.size<=r2/\r1<B0/\r2<B0/\r1≠r2)
  (hb:Blk w r12 (yu.f (xs.getD i ByteArray.empty,P,0,i,0)) 42) (hB:B0<=r12) (hn12:¬F r12) (hp:Owni qe 95 w B0 P.1 P.2.1 P.2.2 ku) (hnP:∀ k,orow P.1=some k->¬F k) (hr3:rows<3) (hsb:∀ w',Ext w0 w'->Sli yN w' A1 n1 xs)
  (hI:∀ S' F' x' raws' es' w',ud w0 w' b db r1 r2 B0 S' F' x' raws' es'->xD S' es' xs rows (i+1)->I (((i+1:Nat):Int),()) w'):
  (za ((Int.tmod (wrap .i64 ((rows:Int)+(i:Int))) (3:Int)) !=(0:Int)) (zc (0<=(i:Int)/\(i:Int)<((n1:Nat):Int))<|
   zh A1 fun(p13:Addr)=>
   ldW .str (p13.add (Int.toNat (i:Int)*1)) fun(u14:ByteArray)=>
   ze prog 30 [(.pointer (some (aD b))),(.agg #[(.int .u8 (7:Int)),(.slice none 0 0),(.string u14)])] (.many [(.one (.int .u32)),(.one (.int .i64))]) fun(u15:Int×Int×Unit)=>
   za (u15.2.1 !=(0:Int)) (zl [.slc,.slc] (aD r2) fun(u16:(SLC×SLC×Unit))=>
   zc ((#[(.slice u16.1.1 u16.1.2.1 u16.1.2.2),(.slice u16.2.1.1 u16.2.1.2.1 u16.2.1.2.2)]:Array Value).size=2)<|
   zq (aD r1) [(.slice u16.1.1 u16.1.2.1 u16.1.2.2),(.slice u16.2.1.1 u16.2.1.2.1 u16.2.1.2.2)]<|
   zl [.slc,.slc] (aD r1) fun(u17:(SLC×SLC×Unit))=>zf6 w0 b db xs rows (.tuple #[(.agg #[(.slice u17.1.1 u17.1.2.1 u17.1.2.2),(.slice u17.2.1.1 u17.2.1.2.1 u17.2.1.2.2)]),(.bool false)]))<|
   stW ((aD r12).add 2) (.int .u32 u15.1)<|
   stW ((aD r12).add 4) (.int .i64 (wrap .i64 ((1:Int)+(i:Int))))<|
   ldW .slc (aD r2) fun(u18:SLC)=>
   zl [.str,.slc,(.int .u32),(.int .u64),(.int .i64)] (aD r12) fun(u19:(ByteArray×SLC×Int×Int×Int×Unit))=>
   zi (.cells #[(.string u19.1),(.slice u19.2.1.1 u19.2.1.2.1 u19.2.1.2.2),(.int .u32 u19.2.2.1),(.int .u64 u19.2.2.2.1),(.int .i64 u19.2.2.2.2.1)] 42) fun(r20:Nat)=>
   zv prog (Builtin.append_ #[27,27] 27 #[(.slice u18.1 u18.2.1 u18.2.2),(.slice (some (aD r20)) 1 1)]) .slc fun(u21:SLC)=>
   stW (aD r2) (.slice u21.1 u21.2.1 u21.2.2)<|I ((wrap .i64 ((i:Int)+(1:Int))),()))<|
   ldW .slc (aD r2) fun(u22:SLC)=>
   zl [.str,.slc,(.int .u32),(.int .u64),(.int .i64)] (aD r12) fun(u23:(ByteArray×SLC×Int×Int×Int×Unit))=>
   zi (.cells #[(.string u23.1),(.slice u23.2.1.1 u23.2.1.2.1 u23.2.1.2.2),(.int .u32 u23.2.2.1),(.int .u64 u23.2.2.2.1),(.int .i64 u23.2.2.2.2.1)] 42) fun(r24:Nat)=>
   zv prog (Builtin.append_ #[27,27] 27 #[(.slice u22.1 u22.2.1 u22.2.2),(.slice (some (aD r24)) 1 1)]) .slc fun(u25:SLC)=>
   stW (aD r2) (.slice u25.1 u25.2.1 u25.2.2)<|I ((wrap .i64 ((i:Int)+(1:Int))),())) w:=by
 obtain⟨hb400,hb251,hpen⟩:=pl.bound;have hw:wrap .i64 ((i:Int)+1)=((i+1:Nat):Int):=by rw[wrap_i64 (by omega) (by omega)];rfl
 have hw2:wrap .i64 ((1:Int)+(i:Int))=((1+i:Nat):Int):=by rw[wrap_i64 (by omega) (by omega)];omega
 rw[zrB rows i (by omega),hw,hw2]
 by_cases hm:(rows+i) % 3=0
 ·refine zd (decide_eq_false (by omega)) ?_;exact ziD (e:=(xs.getD i ByteArray.empty,ku,0,i,0)) (P:=P) h pl.len ⟨h12.2.2.1,h12.2.2.2.1,h12.2.2.2.2⟩ hB hb hp hnP (by omega) hn12 ⟨h12.2.1,by omega⟩ (pl.none_ hm) (fun w' x' raws' hh=>hI _ _ _ _ _ _ hh (pl.none_ hm))
 refine zf (decide_eq_true hm) ?_;refine uR hs (by omega) (by omega) ?_;rw[Int.toNat_natCast];have hroom:S.room 0=(238:Nat):=by
  have h1:=(xK pl.great.good.dims).1;have h2:=pl.mk_.r0;rw[zg5]at h2;rw[h1,h2]
 have hput:=zhU (p:=((7:UInt8),[],xs.getD i ByteArray.empty)) (A:=none) (n:=0) (c:=0) h.st.sp (by exact pl.great) (by omega) (Sli.nil _ _) (fun a ha=>by cases ha) (by show 3<=7;omega) (by rw[hroom];show(0:Int)<=_;decide) (by dsimp only;omega);refine zb hput ?_;rintro _ w2 ⟨S',k,e,rfl,hR,hst⟩;refine⟨((k:Int),e,()),rfl,?_⟩;obtain⟨F',g1,g2,g3⟩:=hst;have hlt:=h.st.sp.lt;have hs2:=g3.2.2.2.1;have hFw:∀ {k:Nat},F' k->F k\/w.heap.size<=k:=fun hk=>g2 _ hk;have hb1:=h.b1.only g3 (fun hf=>(h.nF _ hf).1 rfl);have hb2:=h.b2.only g3 (fun hf=>(h.nF _ hf).2.1 rfl);have hT:=h.tabs.apart g3 (fun k hk hf=>(h.nF k hf).2.2 hk);have hst2:St w0 w2 b db S' F':=⟨g1,fun k hk=>by
  rcases hFw hk with e|e
  ·exact h.st.low k e
  ·exact Nat.le_trans h.st.ext.size e,Only.ext h.st.ext g3 h.st.low⟩
 have hnF:∀ k,F' k->k≠r1/\k≠r2/\¬zdo x raws k:=fun k hk=>by
  rcases hFw hk with e|e
  ·exact h.nF k e
  ·have q1:=h.b1.lt;have q2:=h.b2.lt;refine⟨by omega,by omega,fun hr=>?_⟩;have:=(h.tabs.rows hr).2;omega
 rcases hR with ⟨_,_,_,hbig⟩|⟨rfl,rfl,rfl,_⟩|⟨rfl,hP,hG,_,_⟩
 ·rw[show(((7:UInt8),([]:List Nat),xs.getD i ByteArray.empty):Page).2.1.length=0 from rfl]at hbig;have:((238:Nat):Int)<((xs.getD i ByteArray.empty).size:Int):=by rw[<- hroom];exact hbig
  omega
 ·refine zf (by rfl) ?_;refine zR (ls:=yV) (yT x (none,0,0)) hb2 (by rfl) ?_;exact zck (ok:=false) ⟨hst2,hb1,hb2,hT,hnF⟩ h12.1 h12.2.2.1 (fun e=>by cases e)
 ·refine zd (by rfl) ?_;have hpl:=pl.some_ hm hP hG;have hb12:=hb.only g3 hn12;have hl12:=hb.lt;have hn12':¬F' r12:=fun hf=>by
   rcases hFw hf with e|e
   ·exact hn12 e
   ·omega
  have hp2:=hp.only g3 (fun j hj hf=>hnP j hj hf);have hnP':∀ k,orow P.1=some k->¬F' k:=fun k hk hf=>by
   rcases hFw hf with e|e
   ·exact hnP k hk e
   ·have:=hp.yd k hk;omega
  show stW ((aD r12).add 2) _ _ w2;rw[zx];refine stE (o:=2) hb12 rfl (by show 2<5;omega) ?_;intro w3 hb3 o3;show stW ((aD r12).add 4) _ _ w3;rw[zx];refine stE (o:=4) hb3 rfl (by show 4<5;omega) ?_;intro w4 hb4 o4;have hb4:Blk w4 r12 (yu.f (xs.getD i ByteArray.empty,P,k,i,((1+i:Nat):Int))) 42:=hb4;have o24:Only (fun j=>j=r12) w2 w4:=Only.trans o3 o4 (fun j hj=>.inl hj);have hne:∀ j,F' j->j≠r12:=fun j hj e=>hn12' (by rw[<- e];exact hj);have hst4:St w0 w4 b db S' F':=⟨hst2.sp.only o24 (fun j hj e=>hne j hj e),hst2.low,Only.ext hst2.ext o24 (fun j hj=>by have:j=r12:=hj;omega)⟩;have hb14:=hb1.only o24 (fun e=>by have:r1=r12:=e;omega);have hb24:=hb2.only o24 (fun e=>by have:r2=r12:=e;omega);have hT4:=hT.apart o24 (fun j hj e=>hRow (by have:j=r12:=e;rw[<- this];exact hj));have hp4:=hp2.only o24 (fun j hj e=>Owni.neB hp2 hb12 (by decide) j hj e);exact ziD (e:=(xs.getD i ByteArray.empty,ku,k,i,((1+i:Nat):Int))) (P:=P) ⟨hst4,hb14,hb24,hT4,hnF⟩ pl.len ⟨h12.2.2.1,h12.2.2.2.1,h12.2.2.2.2⟩ hB hb4 hp4 hnP' (by omega) hn12' ⟨h12.2.1,by omega⟩ hpl (fun w' x' raws' hh=>hI _ _ _ _ _ _ hh hpl)
theorem zk4 {A1:Option Addr} {n1 c1:Nat} (h:St w0 w b db S0 F) (hs:Sli yN w0 A1 n1 xs) (hr3:rows<3):
  Calls prog 10 #[.pointer (some ⟨b,0,none⟩),.slice A1 n1 c1,.int .i64 (rows:Int)] w (Ret (zf6 w0 b db xs rows)):=by
 have hl:=hs.len;have hle:=hs.le;have hFlt:=h.sp.lt;have hs0:=h.ext.size;apply zoU;unfold S10;refine zp fun r1 w1 hb1 he1 hr1 hz1=>?_;refine zp fun r2 w2 hb2 he2 hr2 hz2=>?_;have hb1:Blk w1 r1 (zG (none,0,0) (none,0,0)) 30:=hb1;have hb2:Blk w2 r2 (zG (none,0,0) (none,0,0)) 30:=hb2;have he02:=he1.trans he2;refine zy (fun q w'=>∃ (i:Nat) (S:Spa) (F':Nat->Prop) (x:SLC) (raws:List Raw) (es:List Ent),i<=n1/\q=((i:Int),())/\ud w0 w' b db r1 r2 w2.heap.size S F' x raws es/\xD S es xs rows i) (fun q=>(n1-q.1).toNat)
  ⟨0,S0,F,(none,0,0),[],[],by omega,rfl,⟨h.ext' he02,hb1.ext he2,hb2,⟨Owni.nil _ _ _,rfl,fun i hi=>by cases hi⟩,fun k hk=>⟨fun e=>by have:=hFlt k hk;omega,fun e=>by have:=hFlt k hk;omega,fun hr=>by
   rcases hr with e|⟨j,hj,_⟩
   ·cases e
   ·cases hj⟩⟩,xD.init xs rows⟩ ?_
 rintro _ w3 ⟨i,S,F',x,raws,es,hi,rfl,hM,pl⟩;dsimp only;obtain⟨hb400,hb251,hpen⟩:=pl.bound
 by_cases hlt:i<n1
 ·refine zf (decide_eq_true (by omega)) ?_;have hs3:=hs.ext hM.st.ext;refine uR hs3 (by omega) (by omega) ?_;rw[Int.toNat_natCast];refine zg (fun hq=>?_) (fun hq=>?_)
  ·refine zR (ls:=yV) (yT x (none,0,0)) hM.b2 (by rfl) ?_;exact zck (ok:=false) hM (by omega) (by omega) (fun e=>by cases e)
  have hq:=of_decide_eq_false hq;refine zM fun w4 he4 hz4 hh4=>?_;have hM4:=hM.ext' he4;have hs4:=hs3.ext he4;have eg:xs[i]?=some (xs.getD i ByteArray.empty):=by rw[getD_eq_getElem?_getD,List.getElem?_eq_getElem (by omega)];rfl
  refine xQ (E:=yN) hs4 (by omega) (x:=xs.getD i ByteArray.empty) (by rw[Int.toNat_natCast];exact eg) rfl ?_;intro pa hpa hca;rw[Int.toNat_natCast]at hca;refine zaV (l:=.str) (x:=xs.getD i ByteArray.empty) hca.1 ?_;have hcell:=hca.1;have hsz4:∀ k,F' k->k<w4.heap.size:=hM4.st.sp.lt;have hwu:wrap .u64 (i:Int)=(i:Int):=zE (by omega);rw[hwu];have one5:∀ P:SLC,∀ v∈yu.f (xs.getD i ByteArray.empty,P,0,i,0),v.oneCell'=true:=fun P=>yu.one _;have hBz:=hM4.b2.lt;have hB4:w2.heap.size<=w4.heap.size:=by
   have h1:=hM.b1.lt;have h2:=he4.size;have h3:r2<w4.heap.size:=hBz;omega
  have cont:∀ {w6:World} {r12:Nat} {P:SLC},Ext w4 w6->Blk w6 r12 (yu.f (xs.getD i ByteArray.empty,P,0,i,0)) 42->w4.heap.size<=r12->Owni qe 95 w6 w4.heap.size P.1 P.2.1 P.2.2 ku->_:=fun {w6 r12 P} he hb hr hp=>
   zmi (c1:=c1) (I:=fun q w'=>(∃ (i:Nat) (S:Spa) (F':Nat->Prop) (x:SLC) (raws:List Raw) (es:List Ent),i<=n1/\q=((i:Int),())/\ud w0 w' b db r1 r2 w2.heap.size S F' x raws es/\xD S es xs rows i)/\(n1-q.1).toNat<(n1-(i:Int)).toNat) (hs4.ext he) hlt (by omega) (hM4.ext' he) pl (fun hR=>by have:=(hM4.tabs.rows hR).2;omega) ⟨by omega,by omega,by omega,by omega,by omega⟩ hb (by omega) (fun hf=>by have:=hsz4 _ hf;omega) (hp.lower hB4) (fun k hk hf=>by have:=hsz4 _ hf;have:=hp.row k hk;omega) hr3 (fun w' e=>hs.ext e) (fun S' F'' x' raws' es' w' g1 g2=>⟨⟨i+1,S',F'',x',raws',es',by omega,rfl,g1,g2⟩,by omega⟩)
  refine⟨?_,?_⟩
  ·refine zb (zeD w4) ?_;rintro _ w5 ⟨rp,rfl,hp,he5⟩;refine⟨(some ⟨rp,0,none⟩,2,2),rfl,?_⟩;refine xx (fun q hq=>by rw[mem_singleton.1 hq];exact he5.cell hcell) ?_;refine yL ?_;have he6:Ext w5 (w5.alloc (.cells #[(.string ByteArray.empty),(.slice none 0 0),(.int .u32 (0:Int)),(.int .u64 (0:Int)),(.int .i64 (0:Int))] 42)):=(Ext.refl w5).alloc _;refine xx (fun q hq=>by rw[mem_singleton.1 hq];exact(he5.trans he6).cell hcell) ?_;refine vQ (vs:=yu.f (xs.getD i ByteArray.empty,(some ⟨rp,0,none⟩,2,2),0,i,0)) (Blk.new w5 _ _) (by rfl) (one5 _) (by rfl) ?_;intro w7 hb7 o7;have he57:Ext w5 w7:=Only.ext he6 o7 (fun j hj=>by have:j=w5.heap.size:=hj;omega);exact cont (he5.trans he57) hb7 he5.size (hp.ext he57)
  ·refine yL ?_;have he6:Ext w4 (w4.alloc (.cells #[(.string ByteArray.empty),(.slice none 0 0),(.int .u32 (0:Int)),(.int .u64 (0:Int)),(.int .i64 (0:Int))] 42)):=(Ext.refl w4).alloc _;have hbN:=Blk.new w4 #[(.string ByteArray.empty),(.slice none 0 0),(.int .u32 (0:Int)),(.int .u64 (0:Int)),(.int .i64 (0:Int))] 42;refine xx (fun q hq=>by rw[mem_singleton.1 hq];exact he6.cell hcell) ?_;refine zb (zeD _) ?_;rintro _ w5 ⟨rp,rfl,hp,he5⟩;refine⟨(some ⟨rp,0,none⟩,2,2),rfl,?_⟩;have he46:=he6.trans he5;refine xx (fun q hq=>by rw[mem_singleton.1 hq];exact he46.cell hcell) ?_;have hbN5:=Blk.ext hbN he5;refine vQ (vs:=yu.f (xs.getD i ByteArray.empty,(some ⟨rp,0,none⟩,2,2),0,i,0)) hbN5 (by rfl) (one5 _) (by rfl) ?_;intro w7 hb7 o7;have he47:Ext w4 w7:=Only.ext he46 o7 (fun j hj=>by have:j=w4.heap.size:=hj;omega);exact cont he47 hb7 (Nat.le_refl _) ((hp.only o7 (fun j hj e=>Owni.neB hp hbN5 (by decide) j hj e)).lower (by simp))
 obtain rfl:i=n1:=by omega
 refine zd (decide_eq_false (by omega)) ?_;refine zM fun w4 he4 hz4 hh4=>?_;have hM4:=hM.ext' he4;refine zR (ls:=yV) (yT x (none,0,0)) hM4.b2 (by rfl) ?_;refine zg (fun hq=>?_) (fun hq=>zck (ok:=false) hM4 (by omega) (by omega) (fun e=>by cases e));have hq:=of_decide_eq_true hq;refine zR (ls:=yV) (yT x (none,0,0)) hM4.b2 (by rfl) ?_;have hcat:yJ w4 x (none,0,0) (es,[]):=⟨⟨raws,hM4.tabs.row.sl,hM4.tabs.len,fun j hj=>⟨(hM4.tabs.at_ j hj).name,(hM4.tabs.at_ j hj).rest,(hM4.tabs.at_ j hj).cols.sl,(hM4.tabs.at_ j hj).cols.le.1⟩⟩,Sli.nil _ _,hM4.tabs.row.le.1,Nat.le_refl _⟩;refine zb (zf5 hcat) ?_;rintro _ w5 ⟨rfl,he5⟩;refine⟨_,rfl,?_⟩;have hM5:=hM4.ext' he5;refine xx (zds hM5.b2) ?_;refine zck hM5 (by omega) (by omega) (fun hh=>?_);rw[hl];refine⟨pl,by omega,?_⟩;cases hc:xZ (es,[]) with
 |true=>rfl
 |false=>rw[hc]at hh;cases hh
end V
/- Law 26:plain part;lives. -/
namespace V
open Go Go.Proofs Go.RowKit Crc
variable {w0 w w':World} {b db:Nat} {S S':Spa} {F:Nat->Prop} {R H:List Nat} {M:Option (List Nat)} {es:List Ent} {xs:List ByteArray} {rows:Nat}
theorem zfq {len:Nat} (h:len<=11000):nparts 238 len<=47:=by
 rcases Nat.lt_or_ge 47 (nparts 238 len) with h1|h1
 ·have:=(zaL (r:=238) (len:=len) (i:=47) (by omega)).1 h1;omega
 ·exact h1
theorem xD.root {i:Nat} (h:xD S es xs rows i) {r:Nat} (hr:r∈zP es):zK S.sup.pages S.now r=true/\S.now.getD r 0=1/\z6 S.page r=[]:=by
 obtain⟨j,hj,e1,e2⟩:=zfp hr;obtain⟨r',e3,e4⟩:=h.ent j (by rw[<- h.len];exact hj);rw[e3]at e1;have e1:r'=r:=e1;subst e1;obtain⟨e5,e6⟩:=e4 e2;exact⟨h.great.good.well.root _ hr,e6,by unfold z6;rw[e5]⟩
theorem xD.facts {i:Nat} (h:xD S es xs rows i) (h8:i<=8):S.sup.pages.length=3/\S.r0=238/\S.dev.pen.length<=251/\243<=S.zZ/\(zP es).length<=8:=by
 have h1:=h.mk_.free;rw[zbA]at h1;have h2:=h.mk_.r0;rw[zg5]at h2;have h3:(zP es).length<=es.length:=List.length_filterMap_le _ _;have h4:=h.len;exact⟨by rw[h.mk_.sup,zch],h2,h.bound.2.2,by omega,by omega⟩
theorem xD.frz {i:Nat} (h:xD S es xs rows i) (h8:i<=8) (hok:xZ (es,[])=true):zor S (es,[]) (zP es) [] none:=by
 obtain⟨f1,f2,f3,f4,f5⟩:=h.facts h8;have hal:alone (es,[])=(es,[]):=rfl;have hr:z8 (alone (es,[]))=zP es:=zbd (es,[]);have hlen:=(jt.1 hok).len;have hnp:=zfq hlen;refine⟨h.great,hok,fun v hv=>?_,fun v hv=>?_,by omega,by rw[f2];omega,?_,?_⟩
 ·rw[hr]at hv;exact(h.root hv).1
 ·rw[hr]at hv;have:=(h.root hv).2.1;omega
 ·rw[f2,zoH,hal];omega
 ·rw[f2,hal,f1];omega
theorem zqJ {n:Nat} {c':List Nat} (hg:Good S (n::R)) (h2:2<=S.now.getD n 0) (hD:Drp S.asked S.page S.now [n] c' 0):c'=S.now.set n (S.now.getD n 0-1):=by
 have hu:=hg.well.root n mem_cons_self;rcases hD.inv with ⟨_,a2,_,a4⟩|⟨_,_,a3⟩|⟨a1,_⟩|⟨a1,_⟩|⟨a1,_⟩
 ·exact absurd a4.symm a2
 ·rw[zaJ hg.well hu]at a3;cases a3;rfl
 ·omega
 ·omega
 ·omega
def nL (n:Nat):List Nat:=if n=0 then [] else [n]
theorem zbe {i:Nat} (h:i<es.length):zP (es.drop i)=(if (es.getD i zz).2.2.1=0 then [] else [(es.getD i zz).2.2.1])++zP (es.drop (i+1)):=by
 rw[drop_eq_getElem_cons h];have e:es[i]=es.getD i zz:=by rw[getD_eq_getElem?_getD,List.getElem?_eq_getElem h];rfl
 rw[e];unfold zP;rw[List.filterMap_cons];split
 ·rename_i hh;split at hh
  ·rename_i h0;rw[if_pos h0];rfl
  ·cases hh
 ·rename_i v hh;split at hh
  ·cases hh
  ·rename_i h0;injection hh with hh
   subst hh;rw[if_neg h0];rfl
theorem zk5 {i:Nat} (h:i<es.length) (h0:(es.getD i zz).2.2.1≠0):(es.getD i zz).2.2.1∈zP es:=by
 unfold zP;exact List.mem_filterMap.2 ⟨es.getD i zz,ur h,by rw[if_neg h0]⟩
theorem ziE (i:Nat):zP es=zP (es.take i)++zP (es.drop i):=by
 unfold zP;rw[<- List.filterMap_append,List.take_append_drop]
structure uL (S2:Spa) (es:List Ent) (nl:List Nat) (i:Nat) (S:Spa):Prop where
 is_:∃ c,S={ S2 with now:=c }
 great:Great S (nl++zP (es.drop i)) [] none
 one:∀ r∈zP (es.take i),S.now.getD r 0=1
 two:∀ r∈zP (es.drop i),S.now.getD r 0=2
theorem uL.skip {S2:Spa} {nl:List Nat} {i:Nat} (h:uL S2 es nl i S) (hi:i<es.length) (h0:(es.getD i zz).2.2.1=0):uL S2 es nl (i+1) S:=by
 have e:=zbe hi;rw[if_pos h0,nil_append]at e;have e2:zP (es.take (i+1))=zP (es.take i):=by rw[zdz (d:=zz) hi,jG,if_pos h0,append_nil]
 exact⟨h.is_,by rw[<- e];exact h.great,by rw[e2];exact h.one,by rw[<- e];exact h.two⟩
theorem uL.perm {S2:Spa} {nl:List Nat} {i:Nat} (h:uL S2 es nl i S) (hi:i<es.length) (h0:(es.getD i zz).2.2.1≠0):Great S ((es.getD i zz).2.2.1::(nl++zP (es.drop (i+1)))) [] none:=by
 have e:=zbe hi;rw[if_neg h0]at e;have hg:=h.great;rw[e]at hg;exact hg.perm List.perm_middle
theorem uL.step {S2:Spa} {nl c':List Nat} {i:Nat} (h:uL S2 es nl i S) (hnd:(zP es).Nodup) (hi:i<es.length) (h0:(es.getD i zz).2.2.1≠0) (hG:Great { S with now:=c' } (nl++zP (es.drop (i+1))) [] none) (hD:Drp S.asked S.page S.now [(es.getD i zz).2.2.1] c' 0):uL S2 es nl (i+1) { S with now:=c' }:=by
 have e:=zbe hi;rw[if_neg h0]at e;have e2:zP (es.take (i+1))=zP (es.take i)++[(es.getD i zz).2.2.1]:=by rw[zdz (d:=zz) hi,jG,if_neg h0]
 have hP:=h.perm hi h0;have htwo:=h.two (es.getD i zz).2.2.1 (by rw[e];simp);have hc:=zqJ hP.good (by omega) hD;rw[htwo]at hc;have hlt:=hP.good.well.lt (hP.good.well.root _ mem_cons_self);have hl:S.now.length=S.N:=hP.good.ok.now;obtain⟨c,hS⟩:=h.is_;have hsp:=ziE (es:=es) i;rw[e]at hsp;rw[hsp]at hnd;obtain⟨nd1,nd2,nd3⟩:=List.nodup_append.1 hnd;have nd4:(es.getD i zz).2.2.1∉zP (es.drop (i+1)):=(nodup_cons.1 nd2).1;generalize (es.getD i zz).2.2.1=r at *;refine⟨⟨c',by rw[hS]⟩,hG,fun q hq=>?_,fun q hq=>?_⟩
 ·show c'.getD q 0=1;rw[hc,yg]
  by_cases eq:r=q
  ·rw[if_pos ⟨eq,by omega⟩]
  ·rw[if_neg (fun hh=>eq hh.1)];rw[e2]at hq;rcases mem_append.1 hq with hq|hq
   ·exact h.one q hq
   ·exact absurd (mem_singleton.1 hq).symm eq
 ·show c'.getD q 0=2;rw[hc,yg,if_neg (fun hh=>nd4 (by rw[hh.1];exact hq))];exact h.two q (by rw[e];exact mem_append_right _ hq)
theorem zmj {n i:Nat} {c1 ls:List Nat} (h:xD S es xs rows i) (hF:zk0 S S' (es,[]) n (zP es) [] none c1 ls):Great S' (nL n++zP es) [] none/\(n≠0->zfj S' n (es,[])/\n∉zP es)/\(n=0->es=[])/\(∀ r∈zP es,S'.now.getD r 0=2/\S'.page r=S.page r):=by
 have hr:z8 (alone (es,[]))=zP es:=zbd (es,[]);have hroots:∀ r∈zP es,S'.now.getD r 0=2/\S'.page r=S.page r:=by
  intro r hm;obtain⟨u1,u2,u3⟩:=h.root hm;have hcnt:=hF.cnt r;rw[hr,u2,h.nodup.count,if_pos hm]at hcnt;have hnl:r∉ls:=fun hk=>by
   have:=(zW.1 (hF.made.mem hk).2.2).1;have:c1.getD r 0=0:=this;omega
  refine⟨?_,hF.made.other r (by exact h.great.good.well.lt u1) hnl⟩;rw[hF.made.now,if_neg hnl];exact hcnt
 rcases hF.out with ⟨e1,e2,e3⟩|⟨e1,e2,e3⟩
 ·refine⟨?_,fun h0=>absurd e2 h0,fun _=>e1,hroots⟩;unfold nL;rw[if_pos e2];exact e3
 ·have hn2:=(zI.1 (e2.good.well.root n mem_cons_self)).1;refine⟨?_,fun _=>⟨e3,fun hm=>?_⟩,fun h0=>by omega,hroots⟩
  ·unfold nL;rw[if_neg (by omega)];exact e2
  ·-- a tree is no leaf of data
   obtain⟨k1,k2,k3⟩:=h.root hm;have hpg:=(hroots n hm).2;obtain⟨_,bn,bks,ht,_⟩:=e3;have hkid:z6 S'.page n≠[]:=by
    cases ht with
    |one hA=>
     unfold z6;rw[hA.1];simp
    |two m a c' h1 h2 h3 h4 h5 h6 h7 h8=>
     unfold z6;rw[h6];simp
   apply hkid;unfold z6 at k3 ⊢;rw[hpg];exact k3
theorem zmk (hg:Great S [] [] none) (hm:S.mark=none) (hs:S.sup.pages.length=3) (hN:S.N=256):S.zZ=251:=by
 have:=zfo hg hm;omega
end V
/- Law 26:lives;SnapsStay. -/
namespace V
open Go Go.Proofs Go.RowKit Crc
variable {w0 w w':World} {b db:Nat} {S S':Spa} {F:Nat->Prop} {R H:List Nat} {M:Option (List Nat)} {es:List Ent} {xs:List ByteArray} {rows:Nat}
def strt:ByteArray:=ByteArray.mk #[116]
def strs:ByteArray:=ByteArray.mk #[115]
def vR (k:Nat):Ent:=(strt,ku,k,1,1)
theorem zrj {k:Nat} (hk:k≠0):xZ ([vR k],[])=true:=by
 refine jt.2 ⟨by show 1<=16;omega,by show 0<=16;omega,fun e he=>?_,(fun s hs=>by cases hs),rfl,rfl⟩;rw[mem_singleton.1 he];exact⟨by kernel_rfl,zqH,⟨by show(0:Int)<=1;omega,by show(1:Int)<=4096;omega⟩,⟨fun e=>absurd e hk,fun e=>by cases e⟩,by show 1<_;omega⟩
theorem zjj (h:zY w b db S0 F):
  Calls prog 24 #[.pointer (some ⟨b,0,none⟩)] w (Ret fun v w'=>∃ x y S' k F',v=.agg (zG x y).toArray/\kj S0 S' ((7:UInt8),[],strt) k/\Great S' [k] [] none/\zY w' b db S' F'/\(∀ k,F' k->F k\/w.heap.size<=k)/\Only F w w'/\Safe F' w' (fun w=>yo w 0 x y ([vR k],[]))):=by
 have hFlt:=h.lt;apply zo8;unfold S24;refine zp fun r1 w1 hb1 he1 hr1 hz1=>?_;have hroom:S0.room 0=(238:Nat):=by rw[(xK zax.good.dims).1,zg5]
 refine zb (zhU (p:=((7:UInt8),[],strt)) (A:=none) (n:=0) (c:=0) (h.ext he1) (by exact zax) (by rw[ziz];simp) (Sli.nil _ _) (fun a ha=>by cases ha) (by show 3<=7;omega) (by rw[hroom];show(0:Int)<=_;decide) (by show 1<=1000000000;omega)) ?_;rintro _ w2 ⟨S',k,e,rfl,hR,F',g1,g2,g3⟩;rcases hR with ⟨_,_,_,hbig⟩|⟨_,_,_,hfull⟩|⟨rfl,hP,hG,_,_⟩
 ·have:((238:Nat):Int)<((strt.size:Nat):Int):=by rw[<- hroom];exact hbig
  have:strt.size=1:=by kernel_rfl
  omega
 ·rw[zbA,zch]at hfull;omega
 refine⟨((k:Int),0,()),rfl,?_⟩;have hs1:=he1.size;have hlt':=g1.lt;have hb12:=hb1.only g3 (fun hf=>by have:=hFlt _ hf;omega);refine zb (zeD w2) ?_;rintro _ w3 ⟨n,rfl,ho,he3⟩;refine⟨(some ⟨n,0,none⟩,2,2),rfl,?_⟩;refine zp fun r4 w4 hb4 he4 hr4 hz4=>?_;have he24:=he3.trans he4;refine vQ (vs:=zG (some ⟨r4,0,none⟩,1,1) (none,0,0)) (hb12.ext he24) (by rfl) (yF _ _) (by rfl) ?_;intro w5 hb5 o5;have hs2:=g3.2.2.2.1;have hs3:=he3.size;have hb45:Blk w5 r4 (yu.flat [(strt,(some ⟨n,0,none⟩,2,2),k,1,1)]) 42:=by
  have:Blk w4 r4 (yu.flat [(strt,(some ⟨n,0,none⟩,2,2),k,1,1)]) 42:=hb4;exact this.only o5 (fun e=>by have:r4=r1:=e;have:=hb1.lt;omega)
 have hor:=ho.row;have ho5:=(ho.ext he4).only o5 (fun j hj e=>by have:=hor j hj;have:j=r1:=e;have:=hb1.lt;omega);have hO:yo w5 w2.heap.size (some ⟨r4,0,none⟩,1,1) (none,0,0) ([vR k],[]):=by
  refine⟨⟨[(strt,(some ⟨n,0,none⟩,2,2),k,1,1)],vY hb45 rfl (by show 1<=9223372036854775807;omega) (by omega),rfl,fun i hi=>?_⟩,Owni.nil _ _ _⟩;have hi:i<1:=hi;obtain rfl:i=0:=by omega
  exact⟨rfl,rfl,ho5⟩
 have o25:Only (fun k=>k=r1) w2 w5:=Only.trans (Only.zB he24) o5 (fun j hj=>.inl hj);have hF1:∀ k,F' k->k≠r1:=fun j hj e=>by
  rcases g2 j hj with e1|e1
  ·have:=hFlt _ e1;omega
  ·have:=hb1.lt;omega
 refine zR (ls:=yV) (yT (some ⟨r4,0,none⟩,1,1) (none,0,0)) hb5 (by rfl) ⟨_,_,S',k,F',rfl,hP,hG,g1.only o25 (fun j hj e=>hF1 j hj e),fun j hj=>?_,?_,fun w6 o6=>(hO.only o6 (fun j hj=>hlt' j hj)).lower (Nat.zero_le _)⟩
 ·rcases g2 j hj with e|e
  ·exact .inl e
  ·exact .inr (by omega)
 ·refine Only.trans (Only.trans (Only.zB he1) g3 (fun j hj=>.inl hj)) o25 (fun j hj=>?_);have:j=r1:=hj;exact .inr (by omega)
theorem zqK {k:Nat} (hP:kj S0 S ((7:UInt8),[],strt) k) (hG:Great S [k] [] none):zor S ([vR k],[]) [k] [] none/\zP [vR k]=[k]:=by
 have h2:=hP.two;have hk0:k≠0:=by omega
 have hrt:zP [vR k]=[k]:=by
  show zP ([]++[vR k])=_;rw[jG,if_neg (show ¬(vR k).2.2.1=0 from hk0)];rfl
 have hr:z8 (alone ([vR k],[]))=[k]:=(zbd ([vR k],[])).trans hrt;have hl:S0.now.length=S0.N:=zax.good.ok.now;have hok:=zrj hk0;have hlen:=(jt.1 hok).len;have hnp:=zfq hlen;have hmk:=hP.mk_ hl;have hf:=hmk.free;rw[zbA]at hf;have hf1:([k]:List Nat).length=1:=rfl;have hr0:S.r0=238:=by rw[hmk.r0,zg5]
 have hp:=hP.pen;rw[ziz]at hp;have hp0:([]:List (Int×ByteArray)).length=0:=rfl;refine⟨⟨hG,hok,fun v hv=>?_,fun v hv=>?_,by omega,by rw[hr0];omega,by rw[hr0,zoH];show(x6 ([vR k],[])).length<=_;omega,?_⟩,hrt⟩
 ·rw[hr]at hv;exact hG.good.well.root v hv
 ·rw[hr,mem_singleton]at hv;subst hv;rw[hP.now,yg,if_pos ⟨rfl,by rw[hl];exact hP.lt⟩];omega
 ·rw[hr0,hP.sup,zch];show 3+nparts 238 (x6 ([vR k],[])).length+4<=_;omega
theorem zml (es:List Ent) (s:ByteArray):jo (es,[]) s=0:=Nat.le_zero.1 zgw
theorem zmm (es:List Ent) (s:ByteArray):¬uo (es,[]) s:=by
 rintro⟨h,_⟩;rw[zml]at h;cases h
theorem zrk (es:List Ent) (s:ByteArray) (n:Nat):(([]:List Snp).insertIdx (jo (es,[]) s) (s,n))=[(s,n)]:=by rw[zml];rfl
theorem zjk (w:World):Calls prog 7 #[] w (Ret fun v w'=>v=.bool true/\Ext w w'):=by
 apply zqR;unfold S7;refine zb (zd4 w) ?_;rintro _ w1 ⟨db,b,rfl,F,h1⟩;refine⟨some ⟨b,0,none⟩,rfl,zd (by rfl) ?_⟩;refine zb (zjj h1.sp) ?_;rintro _ w2 ⟨x,y,S2,k,F2,rfl,hP,hG,h2,hF2,o2,hC⟩;refine⟨yT x y,rfl,?_⟩;obtain⟨hfz,hrt⟩:=zqK hP hG;have hnm:yk (B (ByteArray.mk #[115]))=0:=by kernel_rfl
 refine zb (zdn (c:=([vR k],[])) (R:=[k]) (H:=[]) (M:=none) h2 (hC.mono fun _ h=>h.cat) ⟨by show 1<=1000;omega,by show 0<=1000;omega,fun e he=>by rw[mem_singleton.1 he];show 2<=1000;omega⟩ (fun _ _ _=>hfz)) ?_;rintro _ w3 (⟨hne,_⟩|⟨_,hth,_⟩|⟨_,_,h16,_⟩|⟨_,_,_,X,Y,S3,n,c1,ls,F3,rfl,hOk,h3,hF3,o3,hC3⟩)
 ·exact absurd hnm hne
 ·exact absurd hth (zmm _ _)
 ·cases h16
 refine⟨(yT X Y,0,()),rfl,?_⟩;rw[zrk]at hC3;have hC3:=hC3.now;have hx3:Ext w w3:=by
  refine Only.ext (Only.ext h1.ext o2 h1.low) o3 (fun j hj=>?_);rcases hF2 j hj with e|e
  ·exact h1.low j e
  ·have:=h1.ext.size;omega
 refine yi (vs:=zG X Y) (by rfl) (yF _ _) (fun r4 w4 hb4 he4 hr4=>?_) (by rfl);refine zf (by rfl) ?_;refine zR (ls:=yV) (yT X Y) hb4 (by rfl) ?_;refine zb (ziC (hC3.ext he4).cat (by show 1<=1000;omega)) ?_;rintro _ w5 ⟨⟨A,kk,rfl,ho⟩,he5⟩;refine⟨(A,1,kk),rfl,?_⟩;refine zp fun r7 w6 hb6 he6 hr6 hz6=>?_;have hs6:Sli yN w6 (some ⟨r7,0,none⟩) 1 [strs]:=Sli.xI (E:=yN) (xs:=[strs]) (by exact hb6) rfl (by omega);refine zb (zgL (ho.ext he6).sl hs6) ?_;rintro _ w7 ⟨rfl,he7⟩;exact⟨_,rfl,rfl,((hx3.trans he4).trans he5).trans (he6.trans he7)⟩
theorem yJ.tables {x y z:SLC} {es:List Ent} {ss:List Snp} (h:yJ w x y (es,ss)) (hz:z=(none,0,0)):yJ w x z (es,[]):=by
 subst hz;exact⟨h.1,Sli.nil _ _,h.2.2.1,Nat.le_refl _⟩
theorem yJ.root {x y:SLC} {c:Cat} {i:Nat} {K:Int->WP} (h:yJ w x y c) (hi:i<c.1.length) (hK:K ((c.1.getD i zz).2.2.1:Int) w):
  (zc (0<=(i:Int)/\(i:Int)<((x.2.1:Nat):Int))<|zh x.1 fun(p15:Addr)=>ldW (.int .u32) ((p15.add (Int.toNat (i:Int)*5)).add 2) K) w:=by
 obtain⟨⟨raws,hT⟩,_⟩:=h;have hl:=hT.len;have hxl:=hT.sl.len;refine zaF (E:=yu) 2 (fun e:Raw=>((e.2.2.1:Nat):Int)) yI hT.sl (fun _=>rfl) rfl (by omega) (by omega) ?_;rw[Int.toNat_natCast,show(raws.getD i yI).2.2.1=(c.1.getD i zz).2.2.1 by rw[(hT.at_ i hi).rest]];exact hK
theorem yJ.nm {x y:SLC} {c:Cat} {i:Nat} {K:ByteArray->WP} (h:yJ w x y c) (hi:i<c.1.length) (hK:K (c.1.getD i zz).1 w):
  (zc (0<=(i:Int)/\(i:Int)<((x.2.1:Nat):Int))<|zh x.1 fun(p15:Addr)=>ldW .str (p15.add (Int.toNat (i:Int)*5)) K) w:=by
 obtain⟨⟨raws,hT⟩,_⟩:=h;have hl:=hT.len;have hxl:=hT.sl.len;refine kD (E:=yu) (fun e:Raw=>e.1) yI hT.sl (fun _=>rfl) rfl (by omega) (by omega) ?_;rw[Int.toNat_natCast,(hT.at_ i hi).name];exact hK
theorem yJ.xlen {x y:SLC} {c:Cat} (h:yJ w x y c):c.1.length=x.2.1/\c.2.length=y.2.1:=by
 obtain⟨⟨raws,hT⟩,hs,_⟩:=h;exact⟨by rw[<- hT.len];exact hT.sl.len,hs.len⟩
theorem zrC (n:Int):∃ r:Nat,pick n 3=(r:Int)/\r<3:=by
 unfold pick;rw[if_neg (by omega)];exact⟨(n % 3).toNat,by omega,by omega⟩
end V
/- Law 26:SnapsStay. -/
namespace V
open Go Go.Proofs Go.RowKit Crc
variable {w0 w w':World} {b db:Nat} {S S':Spa} {F:Nat->Prop} {es:List Ent} {xs:List ByteArray} {rows:Nat}
theorem St.box {r:Nat} {cs:List Value} {t:TypeId} (h:zY w b db S F) (hb:Blk w' r cs t) (hr:w.heap.size<=r):Safe F w' (fun w=>Blk w r cs t):=fun w2 o=>hb.only o (fun hf=>by have:=h.lt _ hf;omega)
theorem Safe.and {P Q:World->Prop} (h:Safe F w P) (k:Safe F w Q):Safe F w (fun w=>P w/\Q w):=fun w' o=>⟨h w' o,k w' o⟩
theorem Safe.not {r:Nat} {cs:List Value} {t:TypeId} (h:Safe F w (fun w=>Blk w r cs t)):¬F r:=fun hf=>by
 have h1:=h (yw w r (.deferred none)) (Only.yw hf);have h2:(yw w r (.deferred none)).heap[r]?=some (.cells cs.toArray t (0,0)):=h1;have hlt:=h.now.lt;unfold yw at h2;simp[hlt]at h2
theorem Safe.row {α:Type} {E:Enc α} {e:TypeId} {B n c:Nat} {A:Option Addr} {l:List α} (h:Safe F w (fun w=>Owni E e w B A n c l)):∀ k,orow A=some k->¬F k:=by
 intro k hk hf;have hlt:=h.now.yd k hk;have h1:=h (yw w k (.deferred none)) (Only.yw hf);rcases h1.2 with ⟨hv,_⟩|⟨g,cap,cur,hv,_,hg,_⟩
 ·injection hv with hv
  rw[hv]at hk;cases hk
 ·injection hv with hv
  rw[hv]at hk;have e1:g=k:=Option.some.inj hk;subst e1;unfold yw at hg;simp[hlt]at hg
theorem zqL {s:ByteArray} (h:yk (B s)=0):B s≠[]:=by
 intro e;have:=qv h;rw[e]at this;simp at this
theorem zos (es:List Ent) (s:ByteArray) (n:Nat):yB (es,[(s,n)]) s=0:=by
 unfold yB yR;show((List.range 1).findIdx _)=0;simp[List.range,List.range.loop,List.findIdx_cons]
theorem zk6 (w:World) {A1:Option Addr} {n1 c1:Nat} (hs:Sli yN w A1 n1 xs) {x1:Int} (hx0:-9223372036854775808<=x1) (hx1:x1<9223372036854775808) (s:ByteArray):
  Calls prog 3 #[.slice A1 n1 c1,.int .i64 x1,.string s] w (Ret fun v w'=>v=.bool true/\Ext w w'):=by
 apply zqQ;unfold S3;refine zb (zjk w) ?_;rintro _ w1 ⟨rfl,he1⟩;refine⟨_,rfl,zd (by rfl) ?_⟩;refine zb (zd4 w1) ?_;rintro _ w2 ⟨db,b,rfl,F,h2⟩;have h2:=St.pre he1 h2;refine⟨some ⟨b,0,none⟩,rfl,zd (by rfl) ?_⟩;refine zb (zjF h2.sp) ?_;rintro _ w3 ⟨rfl,he3⟩;refine⟨_,rfl,?_⟩;have h3:=h2.ext' he3;obtain⟨rows,hrow,hr3⟩:=zrC x1;refine zb (zj3 w3 hx0 hx1 (by omega)) ?_;rintro _ w4 ⟨rfl,hw4⟩;refine⟨_,rfl,?_⟩;rw[hw4,hrow];refine zb (zk4 (c1:=c1) h3 hs hr3) ?_;rintro _ w5 ⟨x,y,ok,rfl,he5,hok⟩;refine⟨(yT x y,ok,()),rfl,?_⟩;refine yi (vs:=zG x y) (by rfl) (yF _ _) (fun r6 w6 hb6 he6 hr6=>?_) (by rfl);have he06:=he5.trans he6;cases ok with
 |false=>exact zf (by rfl) ⟨rfl,he06⟩
 |true=>
 refine zd (by rfl) ?_;obtain⟨S1,F1,es,hy,st5,pl,h8,hcat,hC5⟩:=hok rfl;obtain⟨f1,f2,f3,f4,f5⟩:=pl.facts h8;have hesl:=pl.len;refine zb (uc w6 s) ?_;rintro _ w7 ⟨rfl,he7⟩;refine⟨_,rfl,?_⟩;refine zg (fun _=>⟨rfl,he06.trans he7⟩) (fun hq=>?_);have hnm:yk (B s)=0:=bne_eq_false_iff_eq.1 hq;have he67:=he6.trans he7;have st7:=st5.ext' he67;have hC7:=hC5.ext he67;have hB7:Safe F1 w7 (fun w=>Blk w r6 (zG x y) 30):=St.box st5.sp (hb6.ext he7) hr6;refine zR (ls:=yV) (yT x y) hB7.now (by rfl) ?_;have hlt:zfm (es,[]):=by
  refine⟨by show es.length<=1000;omega,by show 0<=1000;omega,fun e he=>?_⟩;have:=((jt.1 hcat).ents e he).2.1;have:=(zaM this).1;omega
 have hCat7:Safe F1 w7 (fun w=>yJ w x y (es,[])):=hC7.mono fun _ h=>h.cat;refine zb (zdn (c:=(es,[])) (R:=zP es) (H:=[]) (M:=none) st7.sp hCat7 hlt (fun _ _ _=>pl.frz h8 hcat)) ?_;rintro _ w8 (⟨hne,_⟩|⟨_,hth,_⟩|⟨_,_,h16,_⟩|⟨_,_,_,X,Y,S2,n,c1',ls,F2,rfl,hOk,h8',hF2,o8,hA8⟩)
 ·exact absurd hnm hne
 ·exact absurd hth (zmm _ _)
 ·cases h16
 rw[zrk]at hA8;obtain⟨g1,g2,g3,g4⟩:=zmj pl hOk;have st8:St w w8 b db S2 F2:=⟨h8',fun k hk=>by
  rcases hF2 k hk with e|e
  ·exact st7.low k e
  ·exact Nat.le_trans st7.ext.size e,Only.ext st7.ext o8 st7.low⟩
 have hP8:=((hB7.and hC7).step o8 hF2).and hA8;refine⟨(yT X Y,0,()),rfl,?_⟩;refine yi (vs:=zG X Y) (by rfl) (yF _ _) (fun r10 w9 hb9 he9 hr9=>?_) (by rfl);refine zd (by rfl) ?_;have st9:=st8.ext' he9;have hP9:=(hP8.ext he9).and (St.box st8.sp hb9 hr9)
 -- the tables' references go
 refine zy (fun q w'=>∃ (i:Nat) (S:Spa) (F:Nat->Prop),i<=es.length/\q=((i:Int),())/\St w w' b db S F/\uL S2 es (nL n) i S/\Safe F w' (fun w=>((Blk w r6 (zG x y) 30/\yo w 0 x y (es,[]))/\yo w 0 X Y (es,[(s,n)]))/\Blk w r10 (zG X Y) 30)) (fun q=>(es.length-q.1).toNat)
  ⟨0,S2,F2,by omega,rfl,st9,⟨⟨_,rfl⟩,g1,(fun r hr=>by cases hr),fun r hr=>(g4 r hr).1⟩,hP9⟩ ?_
 rintro _ w10 ⟨i,S,F3,hi,rfl,st10,dp,hP10⟩;dsimp only;obtain⟨⟨⟨q1,q2⟩,q3⟩,q4⟩:=hP10.now;have q3o:=q3;have q3:=q3.cat;have hXl:=q3.xlen.1;have hXl:es.length=X.2.1:=hXl;refine zJ X q4 (by rfl) ?_
 by_cases hlti:i<es.length
 ·refine zf (decide_eq_true (by omega)) (zJ X q4 (by rfl) ?_);have hw:wrap .i64 ((i:Int)+1)=((i+1:Nat):Int):=by rw[wrap_i64 (by omega) (by omega)];rfl
  rw[hw];refine q3.root hlti ?_;show za (((es.getD i zz).2.2.1:Int) !=0) _ _ w10
  by_cases h0:(es.getD i zz).2.2.1=0
  ·refine zd (bne_eq_false_iff_eq.2 (by omega)) ⟨⟨i+1,S,F3,by omega,rfl,st10,dp.skip hlti h0,hP10⟩,by omega⟩
  ·refine zf (bne_iff_ne.2 (by omega)) (zJ X q4 (by rfl) ?_);refine q3.root hlti ?_;show ze _ _ [_,.int .u32 ((es.getD i zz).2.2.1:Int)] _ _ w10;refine zb (zfP st10.sp (dp.perm hlti h0)) ?_;rintro _ w11 ⟨rfl,c',hG',hst,hD,hle⟩;obtain⟨F4,st11,keep⟩:=st10.step hst;exact⟨_,rfl,zd (by rfl) ⟨⟨i+1,_,F4,by omega,rfl,st11,dp.step pl.nodup hlti h0 hG' hD,keep _ hP10⟩,by omega⟩⟩
 obtain rfl:i=es.length:=by omega
 refine zd (decide_eq_false (by omega)) ?_;obtain⟨⟨c2,hSc⟩,dg,done,_⟩:=dp;rw[List.drop_eq_nil_of_le (Nat.le_refl _)]at dg;rw[take_of_length_le (Nat.le_refl _)]at done;have dg:Great S (nL n) [] none:=by
  have e:nL n++zP []=nL n:=by simp[zP]
  rw[e]at dg;exact dg
 -- the catalog without its tables
 have hn10:¬F3 r10:=(hP10.mono fun _ h=>h.2).not;have hlt10:=st10.sp.lt;have hxr:w.heap.size<=r10:=Nat.le_trans st8.ext.size hr9;refine stE (o:=0) q4 rfl (by show 0<2;omega) ?_;intro w11 hb11 o11;have hb11:Blk w11 r10 (zG (none,0,0) Y) 30:=hb11;have st11:St w w11 b db S F3:=⟨st10.sp.only o11 (fun k hk e=>hn10 (by have:k=r10:=e;rw[<- this];exact hk)),st10.low,Only.ext st10.ext o11 (fun j hj=>by have:j=r10:=hj;omega)⟩;have hYrow:Safe F3 w10 (fun w=>Owni zF 64 w 0 Y.1 Y.2.1 Y.2.2 [(s,n)]):=hP10.mono fun _ h=>h.1.2.2;have hYn:=hYrow.row;have hx11:=(q2.box q4 o11).cat;have hY11:=hYrow.now.only o11 (fun j hj e=>Owni.neB hYrow.now q4 (by decide) j hj e);have hA11:Safe F3 w11 (fun w=>yJ w (none,0,0) Y ([],[(s,n)])):=fun w2 o=>by
  have hh:=hY11.only o (fun j hj hf=>hYn j hj hf);exact⟨⟨[],Sli.nil _ _,rfl,fun i hi=>by cases hi⟩,hh.sl,Nat.le_refl _,hh.le.1⟩
 refine zR (ls:=yV) (yT (none,0,0) Y) hb11 (by rfl) ?_
 -- what the snapshot tells
 have hgot:zdm S n (es,[]) 0:=by
  by_cases h0:n=0
  ·have:=g3 h0;rw[this];exact zdm.none h0
  ·have hcp:=(g2 h0).1;have hu:zK S.sup.pages S.now n=true:=dg.good.well.root n (by unfold nL;rw[if_neg h0];exact mem_singleton.2 rfl);refine zdm.cat ?_ dg.good hu;rw[hSc];obtain⟨bn,bks,ht,hb⟩:=hcp.tree;exact⟨hcp.isC,bn,bks,ht.keep (fun k _=>rfl),hb.keep rfl (fun k _=>rfl)⟩
 have hfi:yB ([],[(s,n)]) s=0:=zos [] s n;refine zb (zgU (c:=([],[(s,n)])) (s:=s) st11.sp hA11.now (zqL hnm) (f:=(es,[])) (e:=0) (fun _=>by rw[hfi];exact hgot)) ?_;rintro _ w12 ⟨⟨_,_,X',Y',rfl,hO12⟩|⟨_,hne,_⟩|⟨hnf,_⟩,he12⟩;rotate_left
 ·exact absurd rfl hne
 ·exact absurd (show yB ([],[(s,n)]) s<1 by rw[hfi];omega) hnf
 refine⟨(X',0,()),rfl,zd (by rfl) ?_⟩;have hb611:=q1.only o11 (fun e=>by have:r6=r10:=e;have:=hB7.now.lt;have:=o8.2.2.2.1;omega);refine zJ x (hb611.ext he12) (by rfl) ?_;have hx12:=hx11.ext he12;refine zb (zkR (x:=X') (y:=(none,0,0)) (x2:=x) (y2:=(none,0,0)) (c:=(es,[])) (c2:=(es,[])) (hO12.cat.tables rfl) (hx12.tables rfl)) ?_;rintro _ w13 ⟨⟨vb,rfl,hvb⟩,he13⟩;refine⟨_,rfl,zd (by rw[hvb.2 rfl];rfl) ?_⟩;have he1113:=he12.trans he13;have hO13:=hO12.ext he13;have hX13:=hO13.cat;have hXl':es.length=X'.2.1:=hX13.xlen.1;have hS2sup:S.sup=S1.sup:=by rw[hSc];exact hOk.made.sup
 refine zy (fun q w'=>∃ i:Nat,i<=es.length/\q=((i:Int),())/\Ext w13 w') (fun q=>(es.length-q.1).toNat) ⟨0,by omega,rfl,Ext.refl _⟩ ?_;rintro _ w14 ⟨i,hi,rfl,he14⟩;dsimp only;have st14:=st11.ext' (he1113.trans he14);have hX14:=hX13.ext he14
 by_cases hlti:i<es.length
 ·refine zf (decide_eq_true (by omega)) ?_;have hw:wrap .i64 ((i:Int)+1)=((i+1:Nat):Int):=by rw[wrap_i64 (by omega) (by omega)];rfl
  rw[hw];refine hX14.root hlti ?_;show za (((es.getD i zz).2.2.1:Int)==0) _ _ w14
  by_cases h0:(es.getD i zz).2.2.1=0
  ·exact zf (beq_iff_eq.2 (by omega)) ⟨⟨i+1,by omega,rfl,he14⟩,by omega⟩
  refine zd (beq_eq_false_iff_ne.2 (by omega)) ?_;refine hX14.root hlti ?_;have hm:=zk5 hlti h0;obtain⟨u1,u2,u3⟩:=pl.root hm;have hr32:(es.getD i zz).2.2.1<4294967296:=by
   have:=pl.great.good.well.lt u1;have:=pl.great.good.dims.n;omega
  have hnow:=done _ hm;have husd:zK S.sup.pages S.now (es.getD i zz).2.2.1=true:=by
   obtain⟨k1,k2,k3⟩:=zI.1 u1;exact zI.2 ⟨k1,by rw[hS2sup];exact k2,by rw[hnow];omega⟩
  have hpage:S.page (es.getD i zz).2.2.1=(((7:UInt8),[],(es.getD i zz).1),0):=by
   have e1:=(g4 _ hm).2;obtain⟨r',e3,e4⟩:=pl.ent i (by omega);have e5:r'=(es.getD i zz).2.2.1:=by rw[e3]
   have e6:=(e4 (by rw[e5];exact h0)).1;have e7:(es.getD i zz).1=xs.getD i ByteArray.empty:=by rw[e3]
   rw[e7,<- e5,<- e6,e5,<- e1,hSc];rfl
  have hget:S.get (es.getD i zz).2.2.1=(((7:UInt8),[],(es.getD i zz).1),0):=by rw[(dg.good.get husd).1,hpage]
  have hsg:=zc8 st14.sp hr32;rw[hget]at hsg;show ze _ _ [_,.int .u32 ((es.getD i zz).2.2.1:Int)] _ _ w14;refine zb hsg ?_;rintro _ w15 ⟨yy,rfl,hoy,he15⟩;refine⟨(pgT ((7:UInt8),[],(es.getD i zz).1) yy,0,()),rfl,?_⟩;refine yi (vs:=pgV ((7:UInt8),[],(es.getD i zz).1) yy) (by rfl) (qJ _ _) (fun r32 w16 hb16 he16 hr16=>?_) (by rfl);refine zM fun w17 he17 hz17 hh17=>?_;have he1417:=(he15.trans he16).trans he17;refine zd (by rfl) (zm 2 (es.getD i zz).1 (hb16.ext he17) (by rfl) ?_);have hX17:=hX14.ext he1417;refine hX17.nm hlti ?_;show za (!((es.getD i zz).1.toList==(es.getD i zz).1.toList)) _ _ w17;refine zd (by rw[qh,decide_eq_true rfl];rfl) ?_;refine hX17.root hlti ?_;show ze _ _ [_,.int .u32 ((es.getD i zz).2.2.1:Int)] _ _ w17;refine zb (zn7 (st14.ext' he1417).sp hr32) ?_;rintro _ w18 ⟨rfl,hw18⟩;refine⟨_,rfl,?_⟩;rw[hw18,hnow];exact zd (by rfl) ⟨⟨i+1,by omega,rfl,he14.trans he1417⟩,by omega⟩
 obtain rfl:i=es.length:=by omega
 refine zd (decide_eq_false (by omega)) ?_;have he1114:=he1113.trans he14;refine zR (ls:=yV) (yT (none,0,0) Y) (hb11.ext he1114) (by rfl) ?_;have hlv:(([],[(s,n)]):Cat).2.getD (yB ([],[(s,n)]) s) zO=(s,n):=by rw[hfi];rfl
 refine zb (zji (c:=([],[(s,n)])) (s:=s) (R:=[]) (H:=[]) (M:=none) st14.sp (hA11.ext he1114) ⟨by show 0<=1000;omega,by show 1<=1000;omega,fun e he=>by cases he⟩ (fun _=>?_)) ?_
 ·rw[hlv]
  by_cases h0:n=0
  ·refine .inl ⟨h0,?_⟩;unfold nL at dg;rw[if_pos h0]at dg;exact dg
  ·refine .inr ⟨h0,?_⟩;unfold nL at dg;rw[if_neg h0]at dg;exact dg
 rintro _ w15 (⟨hnf,_⟩|⟨_,X9,Y9,c9,F9,rfl,hG9,_,_,sp9,hF9,o9,hA9⟩)
 ·exact absurd (show yB ([],[(s,n)]) s<1 by rw[hfi];omega) hnf
 refine⟨(yT X9 Y9,0,()),rfl,?_⟩;refine yi (vs:=zG X9 Y9) (by rfl) (yF _ _) (fun r41 w16 hb16 he16 hr16=>?_) (by rfl);have hA9:=hA9.now;have hY9:Y9.2.1=0:=by
  have h1:=hA9.cat.xlen.2;rw[hfi]at h1;exact h1.symm
 refine zf (by rfl) (zm 1 Y9 hb16 (by rfl) ?_);refine zf (beq_iff_eq.2 (by omega)) ?_;have st16:St w w16 b db { S with now:=c9 } F9:=⟨sp9.ext he16,fun k hk=>by
  rcases hF9 k hk with e|e
  ·exact st14.low k e
  ·exact Nat.le_trans st14.ext.size e,(Only.ext st14.ext o9 st14.low).trans he16⟩
 have hmk:Mk S0 S1 (zP es):=pl.mk_;have hfree:({ S with now:=c9 }:Spa).zZ=251:=by
  refine zmk hG9 ?_ ?_ ?_
  ·show S.mark=none;rw[hSc];show S2.mark=none;rw[hOk.made.mark];show S1.mark=none;rw[hmk.mark];rfl
  ·show S.sup.pages.length=3;rw[hS2sup];exact f1
  ·show S.sup.blocks.toNat=256;rw[hS2sup,hmk.sup];rfl
 refine zb (zjF st16.sp) ?_;rintro _ w17 ⟨rfl,he17⟩;refine⟨_,rfl,?_⟩;rw[hfree,zbA];refine zf (by rfl) ?_;have st17:=st16.ext' he17;refine zb (zlQ st17.zcY hG9.good) ?_;rintro _ w18 ⟨rfl,he18⟩;exact⟨_,rfl,rfl,st17.ext.trans he18⟩
end V
end Go.Proofs.YtpagephahcnijaaGreat
