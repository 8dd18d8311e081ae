/- Texts of mine, merged (wip/tool/mergep.py): KRefB2, KRefR, KRefP, KRefR2, KRefR3, KRefR4, LCalls. -/
import Derived.Test.YtplgodmmmppmeaaGreatM6
import Derived.Test.YtplgodmmmppmeaaGreatM4
open Go.IntKind (wrap)
open Go.Proofs.Tryz (prog)
open List (mem_cons_self mem_cons_of_mem mem_cons length_cons map_map mem_append mem_append_left drop_drop mem_range mem_of_getElem? getElem_mem mem_iff_getElem map_cons mem_map append_assoc nodup_cons foldl_cons length_nil append_nil length_map length_set eq_nil_of_length_eq_zero range_succ map_congr_left length_append drop_of_length_le take_of_length_le getD_eq_getElem?_getD drop_eq_getElem_cons mem_singleton not_mem_nil take_succ_eq_append_getElem all_eq_true flatMap_cons length_take length_drop take_add_one length_replicate take_left' drop_left' length_singleton map_append length_range getElem_range flatMap_append)
set_option linter.unusedVariables false
set_option linter.unusedSimpArgs false
namespace Go.Proofs.YtplgodmmmppmeaaGreat
/- Contracts of the document's answer for catalogs:Bytes. -/
namespace V
open Go Go.Proofs Go.RowKit Crc
variable {w:World}
theorem zfH {x y:SLC} {c:Cat} (h:qj w x y c):Calls prog 15 #[.agg (zN x y).toArray] w (Ret fun v w'=>v=.tuple #[.string (jG c).1,.int .i64 (jG c).2]/\Ext w w'):=by
 obtain⟨⟨raws,hT⟩,hs,hcx,hcy⟩:=id h;have hxl:=hT.sl.len;have hyl:=hs.len;have hlr:=hT.len;apply zn4;unfold S15;refine zs fun r1 w1 hb1 he1 hr1 hz1=>?_;have hb1:Blk w1 r1 (zN x y) 25:=hb1;refine zR (ls:=xh) (xk x y) hb1 (by rfl) ?_;refine zb (vI (h.ext he1)) ?_;rintro _ w2 ⟨rfl,he2⟩;refine⟨_,rfl,?_⟩;have he02:=he1.trans he2;have hb2:=hb1.ext he2;unfold jG;cases hok:qp c with
 |false=>exact zf (by rfl) ⟨rfl,he02⟩
 |true=>
 have hC:=vX.1 hok;have hlen:=hC.len;have ht16:=hC.tabs;have hs16:=hC.snaps;refine zd (by rfl) ?_;refine zC x hb2 (by rfl) ?_;rw[yN,<- hxl,hlr];refine zdb (B:=w2.heap.size) (Nat.le_refl _) (by simp) fun r5 w3 ho0 he3 hr5 hz3=>?_;have ho0:Own 5 w3 w2.heap.size (some ⟨r5,0,none⟩) 1 1 (bV [UInt8.ofNat c.1.length]):=ho0;have he03:=he02.trans he3;have hb3:=hb2.ext he3;have hs2:=he02.size;have hr1l:=hb2.lt;have hcl:(xV c).length=(c.1.flatMap xP).length+((c.2.flatMap ql).length+2):=by
  unfold xV;rw[length_cons,length_append,length_cons];omega
 refine zu (fun q w'=>∃ (i:Nat) (A:Option Addr) (m k:Nat),i<=c.1.length/\q=((A,m,k),(i:Int),())/\Ext w w'/\w3.heap.size<=w'.heap.size/\Blk w' r1 (zN x y) 25/\Own 5 w' w2.heap.size A m k (bV (UInt8.ofNat c.1.length::(c.1.take i).flatMap xP))) (fun q=>(c.1.length-q.2.1).toNat)
  ⟨0,_,1,1,by omega,rfl,he03,Nat.le_refl _,hb3,ho0⟩ ?_
 rintro _ w4 ⟨i,A,m,k,hi,rfl,he4,hs4,hb4,ho⟩;dsimp only;have hm:=ho.sl.blen;rw[length_cons]at hm;have hle:=jP xP c.1 i;refine zC x hb4 (by rfl) ?_
 by_cases hlt:i<c.1.length
 ·refine zf (decide_eq_true (by omega)) (zC x hb4 (by rfl) ?_);refine vM (E:=zX) uj yl (hT.sl.ext he4) (fun _=>rfl) rfl (by omega) (by omega) ?_;rw[Int.toNat_natCast];have hE:=(hT.at_ i hlt).ext he4;have hmem:c.1.getD i zI∈c.1:=by rw[getD_eq_getElem?_getD,List.getElem?_eq_getElem hlt];exact getElem_mem _
  have htk:c.1.take (i+1)=c.1.take i++[c.1.getD i zI]:=by rw[take_succ_eq_append_getElem hlt,getD_eq_getElem?_getD,List.getElem?_eq_getElem hlt];rfl
  generalize c.1.getD i zI=e at *;generalize raws.getD i yl=r at *;obtain⟨n1,n2⟩:=zjh hC e hmem;obtain⟨g1,g2,g3,g4,g5⟩:=hC.ents e hmem;refine yt (vs:=zX.f r) (by rfl) (zX.one _) (fun r11 w5 hb5 he5 hr5=>?_) (by rfl);have hE5:=hE.ext he5;refine zk 1 r.2.1 hb5 (by rfl) ?_;refine zb (zh5 hE5.cols) ?_;rintro _ w6 ⟨rfl,he6⟩;have eB:kA e.2.1=(yq e.2.1,0):=by unfold kA;rw[if_pos g2]
  rw[eB];refine⟨((⟨(yq e.2.1).toArray⟩:ByteArray),0,()),rfl,?_⟩;have hb6:=hb5.ext he6;have he46:=he5.trans he6;have ho6:=ho.ext he46;have hb16:=hb4.ext he46;have hs46:=he46.size;refine zC r.1 hb6 (by rfl) ?_;rw[hE.name];refine zb (zb5 (s:=e.1) ho6 (by omega) (by omega) (by omega)) ?_;rintro _ w7 ⟨x7,rfl,ho7,g7⟩;refine⟨x7,rfl,?_⟩;have hs7:=g7.grown.size;have hm7:=ho7.sl.blen;rw[length_append,ki,length_cons]at hm7;have hb7:=hb6.grown g7.grown (fun hh=>ho6.neB hb6 (by decide) _ hh.symm rfl);have hb17:=hb16.grown g7.grown (fun hh=>ho6.neB hb16 (by decide) _ hh.symm rfl);have e7:Ext w w7:=(he4.trans he46).grown g7.grown (fun j hj=>by have:=ho6.row' j hj;omega);have hszB:(⟨(yq e.2.1).toArray⟩:ByteArray).size=(yq e.2.1).length:=by rw[zP];rfl
  refine ka xE (by kernel_rfl) ho7 (by omega) (by dsimp only;omega) ?_;intro A8 c8 w8 ho8 g8;have hs8:=g8.grown.size;have hm8:=ho8.sl.blen;have hb8:=hb7.grown g8.grown (fun hh=>ho7.neB hb7 (by decide) _ hh.symm rfl);have hb18:=hb17.grown g8.grown (fun hh=>ho7.neB hb17 (by decide) _ hh.symm rfl);have e8:Ext w w8:=e7.grown g8.grown (fun j hj=>by have:=ho7.row' j hj;omega);refine zK fun w9 he9 hz9 hh9=>?_;have ho9:=ho8.ext he9;have hb9:=hb8.ext he9;have hb19:=hb18.ext he9;have e9:=e8.trans he9;refine zk 3 ((r.2.2.2.1:Nat):Int) hb9 (by rfl) ?_;refine zk 4 r.2.2.2.2 hb9 (by rfl) ?_;refine zk 2 ((r.2.2.1:Nat):Int) hb9 (by rfl) ?_;rw[hE.rest];refine zb (zcX (k:=8) ho9 (by omega) (by dsimp only;omega) (by omega)) ?_;rintro _ w10 ⟨x10,rfl,ho10,g10⟩;refine⟨x10,rfl,?_⟩;have hs10:=g10.grown.size;have hm10:=ho10.sl.blen;rw[length_append,zy]at hm10;have hb10:=hb9.grown g10.grown (fun hh=>ho9.neB hb9 (by decide) _ hh.symm rfl);have hb110:=hb19.grown g10.grown (fun hh=>ho9.neB hb19 (by decide) _ hh.symm rfl);have e10:Ext w w10:=e9.grown g10.grown (fun j hj=>by have:=ho9.row' j hj;omega);refine jo (yF hb10 (by rw[<- hE.rest];rfl)) (yF hb10 (by rw[<- hE.rest];rfl)) ?_;have ew:wrap .u64 e.2.2.2.2=((e.2.2.2.2.toNat:Nat):Int):=by
   rw[show e.2.2.2.2=((e.2.2.2.2.toNat:Nat):Int) by omega,zz (by omega)];rfl
  rw[ew];dsimp only at hm8 hm10;have hl8:x10.2.1=1+((c.1.take i).flatMap xP).length+(e.1.size+1)+(yq e.2.1).length+8:=by
   rw[length_append,length_append,length_cons,ki]at hm10;rw[show(V.B (⟨(yq e.2.1).toArray⟩:ByteArray)).length=(yq e.2.1).length from rfl]at hm10;omega
  refine zb (zcX (k:=4) ho10 (by omega) (by omega) (by omega)) ?_;rintro _ w11 ⟨x11,rfl,ho11,g11⟩;refine⟨x11,rfl,?_⟩;have hs11:=g11.grown.size;have hm11:=ho11.sl.blen;rw[length_append,zy]at hm11;have hm10':=ho10.sl.blen;have hb11:=hb10.grown g11.grown (fun hh=>ho10.neB hb10 (by decide) _ hh.symm rfl);have hb111:=hb110.grown g11.grown (fun hh=>ho10.neB hb110 (by decide) _ hh.symm rfl);have e11:Ext w w11:=e10.grown g11.grown (fun j hj=>by have:=ho10.row' j hj;omega);refine xz (yF hb11 (by rw[<- hE.rest];rfl)) ?_;refine zb (zbc (k:=e.2.2.1) ho11 (by omega) (by omega)) ?_;rintro _ w12 ⟨x12,rfl,ho12,g12⟩;refine⟨x12,rfl,?_⟩;have hs12:=g12.grown.size;have hb112:=hb111.grown g12.grown (fun hh=>ho11.neB hb111 (by decide) _ hh.symm rfl);have e12:Ext w w12:=e11.grown g12.grown (fun j hj=>by have:=ho11.row' j hj;omega);refine⟨⟨i+1,x12.1,x12.2.1,x12.2.2,by omega,by rw[wrap_i64 (by omega) (by omega)];rfl,e12,by omega,hb112,?_⟩,by rw[wrap_i64 (by omega) (by omega)];omega⟩;have eb:UInt8.ofNat c.1.length::(c.1.take (i+1)).flatMap xP=UInt8.ofNat c.1.length::(c.1.take i).flatMap xP++nmB e.1++V.B (⟨(yq e.2.1).toArray⟩:ByteArray)++le 8 e.2.2.2.1++le 4 e.2.2.2.2.toNat++[jq e.2.2.1]:=by
   rw[htk,flatMap_append,show V.B (⟨(yq e.2.1).toArray⟩:ByteArray)=yq e.2.1 from rfl];simp[xP]
  rw[eb];exact ho12
 ·obtain rfl:i=c.1.length:=by omega
  refine zd (decide_eq_false (by omega)) ?_;rw[take_of_length_le (by omega)]at ho hm;refine zk 1 y hb4 (by rfl) ?_;rw[yN,<- hyl];refine zcP (UInt8.ofNat c.2.length) ho (by omega) rfl (by omega) ?_;intro A5 c5 w5 ho5 g5;have hs5:=g5.grown.size;have hb5:=hb4.grown g5.grown (fun hh=>ho.neB hb4 (by decide) _ hh.symm rfl);have e5:Ext w w5:=he4.grown g5.grown (fun j hj=>by have:=ho.row' j hj;omega);dsimp only;generalize hpre:UInt8.ofNat c.1.length::c.1.flatMap xP++[UInt8.ofNat c.2.length]=pre at ho5;have hpl:pre.length=(c.1.flatMap xP).length+2:=by rw[<- hpre];simp
  refine zu (fun q w'=>∃ (i:Nat) (A:Option Addr) (m k:Nat),i<=c.2.length/\q=((A,m,k),(i:Int),())/\Ext w w'/\w3.heap.size<=w'.heap.size/\Blk w' r1 (zN x y) 25/\Own 5 w' w2.heap.size A m k (bV (pre++(c.2.take i).flatMap ql))) (fun q=>(c.2.length-q.2.1).toNat)
   ⟨0,A5,_,c5,by omega,rfl,e5,by omega,hb5,by simpa using ho5⟩ ?_
  rintro _ w6 ⟨i,A,m,k,hi,rfl,he6,hs6,hb6,ho⟩;dsimp only;have hm:=ho.sl.blen;rw[length_append]at hm;have hle:=jP ql c.2 i;refine zk 1 y hb6 (by rfl) ?_
  by_cases hlt:i<c.2.length
  ·refine zf (decide_eq_true (by omega)) ?_;refine zK fun w8 he8 hz8 hh8=>?_;have hb18:=hb6.ext he8;have ho8:=ho.ext he8;have hs8:=hs.ext (he6.trans he8);have hz8':=he8.size;refine zk 1 y hb18 (by rfl) ?_;refine jF (E:=yM) (fun e:Snp=>e.1) zL hs8 (fun _=>rfl) rfl (by omega) (by omega) ?_;refine zk 1 y hb18 (by rfl) ?_;have g:c.2[i]?=some (c.2.getD i zL):=by rw[getD_eq_getElem?_getD,List.getElem?_eq_getElem hlt];rfl
   refine zE ⟨by omega,by omega⟩ ?_;obtain⟨a,ha,hsp,hc⟩:=hs8.at_ g;refine⟨a,ha,?_⟩;rw[Int.toNat_natCast];have hc2:w8.cell? ((a.add (i*2)).add 1)=some (.int .u32 ((c.2.getD i zL).2:Int)):=by
    obtain⟨_,h2,_⟩:=hc;exact h2
   refine zaC (l:=.int .u32) (x:=((c.2.getD i zL).2:Int)) hc2 ?_;have hmem:c.2.getD i zL∈c.2:=by rw[getD_eq_getElem?_getD,List.getElem?_eq_getElem hlt];exact getElem_mem _
   have htk:c.2.take (i+1)=c.2.take i++[c.2.getD i zL]:=by rw[take_succ_eq_append_getElem hlt,getD_eq_getElem?_getD,List.getElem?_eq_getElem hlt];rfl
   have hnm:=qh (hC.snps _ hmem);have hsz:=zP (c.2.getD i zL).1;refine zb (zb5 (s:=(c.2.getD i zL).1) ho8 (by omega) (by omega) (by omega)) ?_;rintro _ w9 ⟨x9,rfl,ho9,g9⟩;refine⟨x9,rfl,?_⟩;have hs9:=g9.grown.size;have hm9:=ho9.sl.blen;rw[length_append,length_append,ki]at hm9;have hb19:=hb18.grown g9.grown (fun hh=>ho8.neB hb18 (by decide) _ hh.symm rfl);have e9:Ext w w9:=(he6.trans he8).grown g9.grown (fun j hj=>by have:=ho8.row' j hj;omega);have hc9:w9.cell? ((a.add (i*2)).add 1)=some (.int .u32 ((c.2.getD i zL).2:Int)):=by
    obtain⟨a',ha',_,hc'⟩:=(hs.ext e9).at_ g;rw[ha]at ha';injection ha' with ha'
    subst ha';obtain⟨_,h2,_⟩:=hc';exact h2
   refine jo (fun p hp=>by rw[mem_singleton.1 hp];exact hc9) (yF hb19 rfl) ?_;refine zb (zbc (k:=(c.2.getD i zL).2) ho9 (by omega) (by omega)) ?_;rintro _ w10 ⟨x10,rfl,ho10,g10⟩;refine⟨x10,rfl,?_⟩;have hs10:=g10.grown.size;have hb110:=hb19.grown g10.grown (fun hh=>ho9.neB hb19 (by decide) _ hh.symm rfl);have e10:Ext w w10:=e9.grown g10.grown (fun j hj=>by have:=ho9.row' j hj;omega);refine⟨⟨i+1,x10.1,x10.2.1,x10.2.2,by omega,by rw[wrap_i64 (by omega) (by omega)];rfl,e10,by omega,hb110,?_⟩,by rw[wrap_i64 (by omega) (by omega)];omega⟩;have eb:pre++(c.2.take (i+1)).flatMap ql=pre++(c.2.take i).flatMap ql++nmB (c.2.getD i zL).1++[jq (c.2.getD i zL).2]:=by
    rw[htk,flatMap_append];simp[ql]
   rw[eb];exact ho10
  ·obtain rfl:i=c.2.length:=by omega
   refine zd (decide_eq_false (by omega)) ?_;rw[take_of_length_le (by omega)]at ho;refine qa (e:=5) (by kernel_rfl) (by kernel_rfl) (by kernel_rfl) ho.sl ?_;refine⟨?_,he6⟩;have:pre++c.2.flatMap ql=xV c:=by rw[<- hpre];simp[xV]
   rw[this];rfl
end V
/- Contracts of the document's answer for catalogs:the reader. -/
namespace V
open Go Go.Proofs Go.RowKit Crc
variable {w w':World} {r:Nat} {st:Option (List UInt8)}
def Rd2 (w:World) (r:Nat) (st:Option (List UInt8)):Prop:=match st with
 |some l=>Blk w r [.string (mkB l),.bool true] 98
 |none=>∃ s,s.size<=1000000/\Blk w r [.string s,.bool false] 98
theorem Rd2.only {F:Nat->Prop} (h:Rd2 w r st) (k:Only F w w') (hr:¬F r):Rd2 w' r st:=by
 cases st with
 |some l=>exact Blk.only h k hr
 |none=>obtain⟨s,hs,h⟩:=h;exact⟨s,hs,h.only k hr⟩
theorem Rd2.ext (h:Rd2 w r st) (he:Ext w w'):Rd2 w' r st:=by
 cases st with
 |some l=>exact Blk.ext h he
 |none=>obtain⟨s,hs,h⟩:=h;exact⟨s,hs,h.ext he⟩
theorem Rd2.lt (h:Rd2 w r st):r<w.heap.size:=by
 cases st with
 |some l=>exact Blk.lt h
 |none=>obtain⟨s,hs,h⟩:=h;exact h.lt
def zh6 (r:Nat) (w w':World) (st':Option (List UInt8)):Prop:=Rd2 w' r st'/\OnR r w w'
theorem zb6 (h:Rd2 w r st) {n:Nat} (hn:n<=1000000) (hsz:∀ l,st=some l->l.length<=1000000):Calls prog 53 #[.pointer (some ⟨r,0,none⟩),.int .i64 (n:Int)] w (Ret fun v w'=>(∃ t:ByteArray,v=.string t/\t.size=n/\∀ p,st.bind (zA n)=some p->t=mkB p.1)/\zh6 r w w' ((st.bind (zA n)).map fun p=>p.2)):=by
 have hrl:=h.lt;apply zow;unfold S53
 -- too few
 have few:∀ {s:ByteArray} {ok:Bool},Blk w r [.string s,.bool ok] 98->st.bind (zA n)=none->
   (zh (some (aD r)) fun(p3:Addr)=>
    stW (p3.add 1) (.bool false)<|
    zh (some (aD r)) fun(p4:Addr)=>
    stW p4 (.string (ByteArray.mk #[]))<|
    zv prog (Instr.makeSlice 85 (.int .i64 (n:Int)) (.int .i64 (n:Int))) .slc fun(u5:SLC)=>
    zv prog (Go.convert 85 9 (.slice u5.1 u5.2.1 u5.2.2)) .str fun(u6:ByteArray)=>(fun w'=>(∃ t:ByteArray,Value.string u6=.string t/\t.size=n/\∀ p,st.bind (zA n)=some p->t=mkB p.1)/\zh6 r w w' ((st.bind (zA n)).map fun p=>p.2))) w:=by
  intro s ok hb hc;refine zp ?_;refine stE (o:=1) hb (by rw[zx]) (by show 1<2;omega) ?_;intro w1 h1 o1;refine zp ?_;refine stE (o:=0) h1 rfl (by show 0<2;omega) ?_;intro w2 h2 o2;have h2:Blk w2 r [.string (ByteArray.mk #[]),.bool false] 98:=h2;refine uQ (kl:=.i64) (kc:=.i64) (B:=w2.heap.size) (z:=.int .u8 0) (bytes:=1) xE (by rfl) (Nat.le_refl _) (by omega) (by omega) ?_;intro w3 ho3 g3;have hz:List.replicate n (Value.int .u8 0)=bV (List.replicate n (0:UInt8)):=by unfold bV;rw[List.map_replicate];rfl
  rw[hz]at ho3;have e3:Ext w2 w3:=Ext.grown (Ext.refl w2) g3 (fun j hj=>by cases hj);refine qa (e:=5) (by kernel_rfl) (by kernel_rfl) (by kernel_rfl) ho3.sl ?_;refine⟨⟨_,rfl,?_,fun p hp=>by rw[hc]at hp;cases hp⟩,?_,?_⟩
  ·rw[zP];show(List.replicate n (0:UInt8)).length=n;simp
  ·rw[hc];exact⟨ByteArray.mk #[],by show(0:Nat)<=_;omega,h2.ext e3⟩
  ·exact Only.trans (Only.trans o1 o2 (fun j hj=>.inl hj)) (Only.zG (F:=fun k=>k=r) e3) (fun j hj=>.inl hj)
 cases st with
 |none=>
  obtain⟨s,hs,hb⟩:=h;refine zp (zC s hb (by rfl) ?_)
  by_cases hlt:s.size<n
  ·exact zf (decide_eq_true (by omega)) (few hb rfl)
  ·refine zd (decide_eq_false (by omega)) (zp ?_);refine zC s hb (by rfl) (zE ⟨by omega,by omega⟩ (zp ?_));refine zC s hb (by rfl) (zE ⟨by omega,by omega⟩ (zp ?_));refine stE (o:=0) hb rfl (by show 0<2;omega) ?_;intro w1 h1 o1;refine⟨⟨_,rfl,?_,fun p hp=>by cases hp⟩,⟨_,?_,h1⟩,o1⟩
   ·rw[Int.toNat_natCast,zP,xT];rw[length_take,length_drop,<- zP];omega
   ·rw[Int.toNat_natCast,zP,xT];rw[length_take,length_drop,<- zP];omega
 |some l=>
  have hb:Blk w r [.string (mkB l),.bool true] 98:=h;have hz:=xb l;refine zp (zC (mkB l) hb (by rfl) ?_)
  by_cases hlt:l.length<n
  ·have ec:(some l).bind (zA n)=none:=by show zA n l=none;unfold zA;rw[if_pos hlt]
   exact zf (decide_eq_true (by omega)) (few hb ec)
  ·have ec:(some l).bind (zA n)=some (l.take n,l.drop n):=by show zA n l=_;unfold zA;rw[if_neg hlt]
   refine zd (decide_eq_false (by omega)) (zp ?_);refine zC (mkB l) hb (by rfl) (zE ⟨by omega,by omega⟩ (zp ?_));refine zC (mkB l) hb (by rfl) (zE ⟨by omega,by omega⟩ (zp ?_));rw[Int.toNat_natCast,zhE,zhF];refine stE (o:=0) hb rfl (by show 0<2;omega) ?_;intro w1 h1 o1;rw[ec];refine⟨⟨_,rfl,?_,fun p hp=>by injection hp with hp;rw[<- hp]⟩,h1,o1⟩;rw[xb,length_take];omega
theorem jg (h:Rd2 w r st) {n:Nat} (hn:n<=8) (hsz:∀ l,st=some l->l.length<=1000000):Calls prog 52 #[.pointer (some ⟨r,0,none⟩),.int .i64 (n:Int)] w (Ret fun v w'=>(∃ x:Nat,v=.int .u64 (x:Int)/\x<256 ^ n/\∀ p,st.bind (zA n)=some p->x=lev p.1)/\zh6 r w w' ((st.bind (zA n)).map fun p=>p.2)):=by
 apply zov;unfold S52;refine zb (zb6 h (n:=n) (by omega) hsz) ?_;rintro _ w1 ⟨⟨t,rfl,ht,hp⟩,hst⟩;refine⟨_,rfl,?_⟩;have hbl:(B t).length=n:=by rw[<- zP];exact ht
 refine zu (fun q w'=>∃ i:Nat,i<=n/\q=(((lev ((B t).drop i):Nat):Int),((i:Int)-1),())/\w'=w1) (fun q=>(q.2.1+1).toNat) ⟨n,by omega,?_,rfl⟩ ?_
 ·rw[drop_of_length_le (by omega),wrap_i64 (by omega) (by omega)];rfl
 rintro _ w2 ⟨i,hi,rfl,rfl⟩;dsimp only
 by_cases h0:0<i
 ·obtain⟨j,rfl⟩:∃ j,i=j+1:=⟨i-1,by omega⟩;refine zf (decide_eq_true (by omega)) (zE ⟨by omega,by omega⟩ ?_);have ej:(((j+1:Nat):Int)-1)=(j:Int):=by omega
  rw[ej,zan (by omega) (by omega),Int.toNat_natCast];have hb:=((B t).getD j 0).toNat_lt;have hlv:=jn ((B t).drop (j+1));have hlen:((B t).drop (j+1)).length<=7:=by rw[length_drop];omega
  have hpow:256 ^ ((B t).drop (j+1)).length*256<=18446744073709551616:=by
   rw[show 256 ^ ((B t).drop (j+1)).length*256=256 ^ (((B t).drop (j+1)).length+1) from rfl,show 18446744073709551616=256 ^ 8 from rfl];exact Nat.pow_le_pow_right (by omega) (by omega)
  have e1:ior .u64 (ishl .u64 (lev ((B t).drop (j+1)):Int) (8:Int)) (wrap .u64 (((B t).getD j 0).toNat:Int))=(lev ((B t).drop j):Int):=by
   rw[show(8:Int)=((8:Nat):Int) from rfl,zz (by omega),zgZ (k:=.u64) rfl _ 8 (by simp[IntKind.bits])];rw[Nat.mod_eq_of_lt (show lev ((B t).drop (j+1))*2 ^ 8<2 ^ IntKind.bits .u64 by show _<18446744073709551616;omega)];rw[zfm (k:=.u64) rfl (show lev ((B t).drop (j+1))*2 ^ 8<2 ^ IntKind.bits .u64 by show _<18446744073709551616;omega) (show _<18446744073709551616 by omega)];rw[Nat.mul_comm,<- Nat.two_pow_add_eq_or_of_lt (by omega)];rw[zg9 (j:=j) (by omega)];congr 1;omega
  rw[e1];refine⟨⟨j,by omega,?_,rfl⟩,?_⟩
  ·rw[wrap_i64 (by omega) (by omega)]
  ·rw[wrap_i64 (by omega) (by omega)];omega
 ·obtain rfl:i=0:=by omega
  refine zd (decide_eq_false (by omega)) ⟨⟨lev (B t),rfl,?_,fun p hq=>?_⟩,hst⟩
  ·have:=jn (B t);rw[hbl]at this;exact this
  ·rw[hp p hq,yV]
end V
/- What the document's answer reads:roots as any byte,looked at behind:plain. -/
namespace V
open Go Go.Proofs Go.RowKit Crc
def qF (s:List UInt8):Option (Ent×List UInt8):=match nmR s with
 |none=>none
 |some (n,r1)=>match yf r1 with
  |none=>none
  |some (cs,r2)=>match zA 8 r2 with
   |none=>none
   |some (x,r3)=>match zA 4 r3 with
    |none=>none
    |some (y,r4)=>match zA 1 r4 with
     |none=>none
     |some (o,r5)=>some ((n,cs,lev o,lev x,(lev y:Int)),r5)
def qt (s:List UInt8):Option (Snp×List UInt8):=match nmR s with
 |none=>none
 |some (n,r1)=>match zA 1 r1 with
  |none=>none
  |some (o,r2)=>some ((n,lev o),r2)
def ze7 {α:Type} (q:α->Bool):Option (α×List UInt8)->Option (α×List UInt8)
 |none=>none
 |some (e,r)=>if q e then some (e,r) else none
def ze8 {α:Type} (q:α->Bool):Option (List α×List UInt8)->Option (List α×List UInt8)
 |none=>none
 |some (l,r)=>if l.all q then some (l,r) else none
def qE (e:Ent):Bool:=decide (e.2.2.1<=1)
def qS (s:Snp):Bool:=decide (s.2<=1)
theorem znq (s:List UInt8):jB s=ze7 qE (qF s):=by
 unfold jB qF;cases nmR s with
 |none=>rfl
 |some p=>
  dsimp only;cases yf p.2 with
  |none=>rfl
  |some p2=>
   dsimp only;cases zA 8 p2.2 with
   |none=>rfl
   |some p3=>
    dsimp only;cases zA 4 p3.2 with
    |none=>rfl
    |some p4=>
     dsimp only;unfold jr;cases zA 1 p4.2 with
     |none=>rfl
     |some p5=>
      dsimp only
      by_cases h:lev p5.1<=1
      ·have hq:qE (p.1,p2.1,lev p5.1,lev p3.1,((lev p4.1:Nat):Int))=true:=decide_eq_true h;rw[if_pos h];show _=if qE _=true then _ else _
       rw[if_pos hq]
      ·have hq:¬qE (p.1,p2.1,lev p5.1,lev p3.1,((lev p4.1:Nat):Int))=true:=fun e=>h (of_decide_eq_true e);rw[if_neg h];show _=if qE _=true then _ else _
       rw[if_neg hq]
theorem znr (s:List UInt8):jM s=ze7 qS (qt s):=by
 unfold jM qt;cases nmR s with
 |none=>rfl
 |some p=>
  dsimp only;unfold jr;cases zA 1 p.2 with
  |none=>rfl
  |some p5=>
   dsimp only
   by_cases h:lev p5.1<=1
   ·have hq:qS (p.1,lev p5.1)=true:=decide_eq_true h;rw[if_pos h];show _=if qS _=true then _ else _
    rw[if_pos hq]
   ·have hq:¬qS (p.1,lev p5.1)=true:=fun e=>h (of_decide_eq_true e);rw[if_neg h];show _=if qS _=true then _ else _
    rw[if_neg hq]
theorem zcY {α:Type} {f g:List UInt8->Option (α×List UInt8)} {q:α->Bool} (h:∀ s,f s=ze7 q (g s)):
  ∀ (n:Nat) (s:List UInt8),xd f n s=ze8 q (xd g n s)
 |0,s=>rfl
 |n+1,s=>by
  unfold xd;rw[h s];cases g s with
  |none=>rfl
  |some p=>
   by_cases hq:q p.1=true
   ·have e:ze7 q (some p)=some p:=by show(if q p.1=true then _ else _)=_;rw[if_pos hq]
    rw[e];dsimp only;rw[zcY h n p.2];cases xd g n p.2 with
    |none=>rfl
    |some p2=>
     show(match (if p2.1.all q=true then some (p2.1,p2.2) else none) with|none=>none|some (l,r')=>some (p.1::l,r'))=if (p.1::p2.1).all q=true then some (p.1::p2.1,p2.2) else none
     rw[List.all_cons,hq,Bool.true_and]
     by_cases h2:p2.1.all q=true
     ·rw[if_pos h2,if_pos h2]
     ·rw[if_neg h2,if_neg h2]
   ·have e:ze7 q (some p)=none:=by show(if q p.1=true then _ else _)=_;rw[if_neg hq]
    rw[e];dsimp only;cases xd g n p.2 with
    |none=>rfl
    |some p2=>
     show none=if (p.1::p2.1).all q=true then some (p.1::p2.1,p2.2) else none
     rw[List.all_cons,if_neg (by simp[hq])]
def qG (s:List UInt8):Option (List Ent×List UInt8):=match zA 1 s with
 |none=>none
 |some (b,r)=>xd qF (lev b) r
def zaw (t:Option (List Ent×List UInt8)):Option (List Snp×List UInt8):=match t with
 |none=>none
 |some (_,r)=>match zA 1 r with
  |none=>none
  |some (b,r')=>xd qt (lev b) r'
theorem zel (s:List UInt8):zbu s=match qG s with
 |none=>none
 |some (ts,r)=>match zaw (some (ts,r)) with
  |none=>none
  |some (ss,r4)=>if r4=[]/\ts.all qE=true/\ss.all qS=true then some (ts,ss) else none:=by
 unfold zbu qG zaw;cases zA 1 s with
 |none=>rfl
 |some p=>
  obtain⟨b,r⟩:=p;dsimp only;rw[zcY (f:=jB) (g:=qF) (q:=qE) znq];cases xd qF (lev b) r with
  |none=>rfl
  |some q=>
   obtain⟨ts,r2⟩:=q;dsimp only
   by_cases ht:ts.all qE=true
   ·have e:ze8 qE (some (ts,r2))=some (ts,r2):=by show(if ts.all qE=true then _ else _)=_;rw[if_pos ht]
    rw[e];dsimp only;cases zA 1 r2 with
    |none=>rfl
    |some q2=>
     dsimp only;rw[zcY (f:=jM) (g:=qt) (q:=qS) znr];cases xd qt (lev q2.1) q2.2 with
     |none=>rfl
     |some q3=>
      obtain⟨ss,r4⟩:=q3;dsimp only
      by_cases hs:ss.all qS=true
      ·have e:ze8 qS (some (ss,r4))=some (ss,r4):=by show(if ss.all qS=true then _ else _)=_;rw[if_pos hs]
       rw[e];dsimp only
       by_cases h4:r4=[]
       ·rw[if_pos h4,if_pos ⟨h4,ht,hs⟩]
       ·rw[if_neg h4,if_neg (fun h=>h4 h.1)]
      ·have e:ze8 qS (some (ss,r4))=none:=by show(if ss.all qS=true then _ else _)=_;rw[if_neg hs]
       rw[e,if_neg (fun h=>hs h.2.2)]
   ·have e:ze8 qE (some (ts,r2))=none:=by show(if ts.all qE=true then _ else _)=_;rw[if_neg ht]
    rw[e];dsimp only;cases zA 1 r2 with
    |none=>rfl
    |some q2=>
     dsimp only;cases xd qt (lev q2.1) q2.2 with
     |none=>rfl
     |some q3=>
      dsimp only;rw[if_neg (fun h=>ht h.2.1)]
theorem ze9 {l rr:List UInt8} {e:Ent} (h:qF l=some (e,rr)):∃ r1 r2 x r3 y r4 o,nmR l=some (e.1,r1)/\yf r1=some (e.2.1,r2)/\zA 8 r2=some (x,r3)/\zA 4 r3=some (y,r4)/\zA 1 r4=some (o,rr)/\e.2.2.1=lev o/\e.2.2.2.1=lev x/\e.2.2.2.2=(lev y:Int):=by
 unfold qF at h;split at h
 ·cases h
 rename_i n r1 g1;split at h
 ·cases h
 rename_i cs r2 g2;split at h
 ·cases h
 rename_i x r3 g3;split at h
 ·cases h
 rename_i y r4 g4;split at h
 ·cases h
 rename_i o r5 g5;injection h with h
 injection h with h1 h2
 subst h1 h2;exact⟨r1,r2,x,r3,y,r4,o,g1,g2,g3,g4,g5,rfl,rfl,rfl⟩
theorem zfa {l rr:List UInt8} {e:Snp} (h:qt l=some (e,rr)):∃ r1 o,nmR l=some (e.1,r1)/\zA 1 r1=some (o,rr)/\e.2=lev o:=by
 unfold qt at h;split at h
 ·cases h
 rename_i n r1 g1;split at h
 ·cases h
 rename_i o r2 g2;injection h with h
 injection h with h1 h2
 subst h1 h2;exact⟨r1,o,g1,g2,rfl⟩
end V
/- Contracts of the document's answer for catalogs:Read,what a table and a snapshot are read from. -/
namespace V
open Go Go.Proofs Go.RowKit Crc
variable {w w':World} {r:Nat} {st:Option (List UInt8)}
theorem Rd2.box (h:Rd2 w r st) (hsz:∀ l,st=some l->l.length<=1000000):∃ (s:ByteArray) (ok:Bool),s.size<=1000000/\Blk w r [.string s,.bool ok] 98/\st=if ok=true then some (B s) else none:=by
 cases st with
 |some l=>exact⟨mkB l,true,by rw[xb];exact hsz l rfl,h,by rw[yV];rfl⟩
 |none=>obtain⟨s,hs,h⟩:=h;exact⟨s,false,hs,h,rfl⟩
theorem Rd2.of {s:ByteArray} {ok:Bool} (h:Blk w r [.string s,.bool ok] 98) (hs:s.size<=1000000):Rd2 w r (if ok=true then some (B s) else none):=by
 cases ok with
 |true=>show Blk w r [.string (mkB (B s)),.bool true] _;rw[zc3];exact h
 |false=>exact⟨s,hs,h⟩
def SzS (z:Nat) (st:Option (List UInt8)):Prop:=∀ l,st=some l->l.length<=z
theorem SzS.k {z:Nat} (h:SzS z st) (n:Nat):SzS z (sK n st):=by
 intro l hl;cases st with
 |none=>cases hl
 |some l0=>
  have hl:(zA n l0).map (fun p=>p.2)=some l:=hl;cases hc:zA n l0 with
  |none=>rw[hc]at hl;cases hl
  |some p=>
   rw[hc]at hl;cases hl;have h1:=h l0 rfl;have:p.2.length<=l0.length:=kr (a:=p.1) hc;show p.2.length<=z;omega
theorem SzS.c {z:Nat} (h:SzS z st):SzS z (sC st):=by
 intro l hl;cases st with
 |none=>cases hl
 |some l0=>
  have hl:(yf l0).map (fun p=>p.2)=some l:=hl;cases hc:yf l0 with
  |none=>rw[hc]at hl;cases hl
  |some p=>
   rw[hc]at hl;cases hl;have h1:=h l0 rfl;have h2:=(zap (cs:=p.1) (r:=p.2) hc).2;have:=congrArg List.length h2;rw[length_append]at this;show p.2.length<=z;omega
theorem SzS.n {z:Nat} (h:SzS z st):SzS z (sN st):=by
 intro l hl;cases st with
 |none=>cases hl
 |some l0=>
  have hl:(nmR l0).map (fun p=>p.2)=some l:=hl;cases hc:nmR l0 with
  |none=>rw[hc]at hl;cases hl
  |some p=>
   rw[hc]at hl;cases hl;have h1:=h l0 rfl;have:p.2.length<=l0.length:=ze2 (s:=p.1) hc;show p.2.length<=z;omega
theorem SzS.le {z:Nat} (h:SzS z st) (hz:z<=1000000):∀ l,st=some l->l.length<=1000000:=fun l hl=>Nat.le_trans (h l hl) hz
theorem zns (l:List UInt8):sK 1 (sK 4 (sK 8 (sC (sN (some l)))))=(qF l).map fun p=>p.2:=by
 unfold qF sN;show sK 1 (sK 4 (sK 8 (sC ((nmR l).map fun p=>p.2))))=_;cases nmR l with
 |none=>rfl
 |some p1=>
  dsimp only [Option.map];show sK 1 (sK 4 (sK 8 ((yf p1.2).map fun p=>p.2)))=_;cases yf p1.2 with
  |none=>rfl
  |some p2=>
   dsimp only [Option.map];show sK 1 (sK 4 ((zA 8 p2.2).map fun p=>p.2))=_;cases zA 8 p2.2 with
   |none=>rfl
   |some p3=>
    dsimp only [Option.map];show sK 1 ((zA 4 p3.2).map fun p=>p.2)=_;cases zA 4 p3.2 with
    |none=>rfl
    |some p4=>
     dsimp only [Option.map];show(zA 1 p4.2).map (fun p=>p.2)=_;cases zA 1 p4.2 with
     |none=>rfl
     |some p5=>rfl
theorem znt (l:List UInt8):sK 1 (sN (some l))=(qt l).map fun p=>p.2:=by
 unfold qt sN;show sK 1 ((nmR l).map fun p=>p.2)=_;cases nmR l with
 |none=>rfl
 |some p1=>
  dsimp only [Option.map];show(zA 1 p1.2).map (fun p=>p.2)=_;cases zA 1 p1.2 with
  |none=>rfl
  |some p5=>rfl
theorem zh7 {z:Nat} {l0:List UInt8} {K:ByteArray->WP} (h:Rd2 w r (some l0)) (hz:SzS z (some l0)) (hz1:z<=1000000) (hK:∀ t w',t.size<=255->(∀ p,nmR l0=some p->t=p.1)->Rd2 w' r (sN (some l0))->OnR r w w'->K t w'):
  (ze prog 52 [(.pointer (some (aD r))),(.int .i64 (1:Int))] (.one (.one (.int .u64))) fun(u11:Int)=>
   ze prog 53 [(.pointer (some (aD r))),(.int .i64 (wrap .i64 u11))] (.one (.one .str)) fun(u12:ByteArray)=>K u12) w:=by
 refine zb (jg h (n:=1) (by omega) (hz.le hz1)) ?_;rintro _ w1 ⟨⟨x,rfl,hx,hp⟩,h1,o1⟩;refine⟨_,rfl,?_⟩;have hx:x<256:=hx;rw[wrap_i64 (by omega) (by omega)];refine zb (zb6 h1 (n:=x) (by omega) ((hz.k 1).le hz1)) ?_;rintro _ w2 ⟨⟨t,rfl,ht,hq⟩,h2,o2⟩;refine⟨_,rfl,?_⟩;have e:(sK 1 (some l0)).bind (zA x)=match nmR l0 with
   |none=>none
   |some p=>some (V.B p.1,p.2):=by
  show((zA 1 l0).map fun p=>p.2).bind (zA x)=_;unfold nmR;cases hc:zA 1 l0 with
  |none=>rfl
  |some p=>
   have hxp:x=lev p.1:=hp p hc;dsimp only [Option.map,Option.bind];rw[hxp];cases zA (lev p.1) p.2 with
   |none=>rfl
   |some q=>dsimp only;rw[yV]
 refine hK t w2 (by omega) (fun p hn=>?_) ?_ (o1.trans o2)
 ·have:=hq (V.B p.1,p.2) (by show(sK 1 (some l0)).bind (zA x)=_;rw[e,hn]);rw[this,zc3]
 ·have h2:Rd2 w2 r (((sK 1 (some l0)).bind (zA x)).map fun p=>p.2):=h2;have e2:(((sK 1 (some l0)).bind (zA x)).map fun p=>p.2)=sN (some l0):=by
   rw[e];show _=(nmR l0).map fun p=>p.2;cases nmR l0<;>rfl
  rw[e2]at h2;exact h2
theorem znu {z r13:Nat} {raw:Raw} {K:WP} (h:Rd2 w r st) (hz:SzS z st) (hz1:z<=1000000) (hb:Blk w r13 (zX.f raw) 44) (hne:r13≠r)
  (hK:∀ (cx:SLC) w',(∀ p,st.bind yf=some p->Owni xr 62 w' w.heap.size cx.1 cx.2.1 cx.2.2 p.1)->Rd2 w' r (sC st)->Blk w' r13 (zX.f (raw.1,cx,raw.2.2)) 44->Only (fun k=>k=r\/k=r13) w w'->K w'):
  (zh (some (aD r)) fun(p14:Addr)=>
   ldW .str p14 fun(u15:ByteArray)=>
   ze prog 54 [(.string u15)] (.many [(.one .slc),(.one .str),(.one (.int .i64))]) fun(u16:SLC×ByteArray×Int×Unit)=>
   yD (Unit) (fun(J17:(Unit)->WP)=>
   zh (some (aD r)) fun(p19:Addr)=>
   ldW .bool (p19.add 1) fun(u20:Bool)=>
   za u20 (zh (some (aD r)) fun(p21:Addr)=>
   stW (p21.add 1) (.bool (u16.2.2.1==(0:Int)))<|J17 ())<|
   zh (some (aD r)) fun(p22:Addr)=>
   stW (p22.add 1) (.bool false)<|J17 ()) fun(y18:Unit)=>
   stW ((aD r13).add 1) (.slice u16.1.1 u16.1.2.1 u16.1.2.2)<|
   zh (some (aD r)) fun(p23:Addr)=>
   stW p23 (.string u16.2.1) K) w:=by
 obtain⟨s,ok,hs,hbr,hst⟩:=h.box (hz.le hz1);refine zp (zC s hbr (by rfl) ?_);refine zb (ziP (s:=s) (by omega)) ?_;rintro _ w1 ⟨u,rfl,hR,he1⟩;refine⟨u,rfl,?_⟩;have hb1:=hb.ext he1;have hbr1:=hbr.ext he1;have hlen:=zP s
 -- what was read
 obtain⟨hu1,hu2,hu3⟩:u.2.1.size<=1000000/\(u.2.2.1==(0:Int))=(yf (V.B s)).isSome/\∀ p,yf (V.B s)=some p->Owni xr 62 w1 w.heap.size u.1.1 u.1.2.1 u.1.2.2 p.1/\V.B u.2.1=p.2:=by
  cases hq:yf (V.B s) with
  |none=>
   rw[hq]at hR;have hR:u=((none,0,0),⟨#[]⟩,171,()):=hR;subst hR;exact⟨by show(0:Nat)<=_;omega,rfl,fun p hp=>by cases hp⟩
  |some p=>
   obtain⟨cs,t⟩:=p;rw[hq]at hR;obtain⟨a1,a2,a3⟩:=hR;have h2:=(zap hq).2;have h3:=congrArg List.length h2;rw[length_append]at h3;refine⟨?_,by rw[a3];rfl,fun p hp=>?_⟩
   ·rw[zP,a2,qo];omega
   ·cases hp;exact⟨a1,by rw[a2];exact qo t⟩
 refine yi (fun _ w'=>Blk w' r [.string s,.bool (ok&&(u.2.2.1==(0:Int)))] 98/\OnR r w1 w') ?_ (fun J hJ=>?_);rotate_left
 ·refine zp (zk 1 ok hbr1 (by rfl) ?_);cases ok with
  |true=>exact zf rfl (zp (stE (o:=1) hbr1 (by rw[zx]) (by show 1<2;omega) fun w2 h2 o2=>hJ _ _ ⟨by rw[Bool.true_and];exact h2,o2⟩))
  |false=>exact zd rfl (zp (stE (o:=1) hbr1 (by rw[zx]) (by show 1<2;omega) fun w2 h2 o2=>hJ _ _ ⟨by rw[Bool.false_and];exact h2,o2⟩))
 rintro _ w2 ⟨h2,o2⟩;have hb2:=hb1.only o2 hne;refine stE (o:=1) hb2 (by rw[zx]) (by show 1<5;omega) ?_;intro w3 h3 o3;have h3:Blk w3 r13 (zX.f (raw.1,u.1,raw.2.2)) 44:=h3;have hr3:=h2.only o3 (fun e=>hne e.symm);refine zp (stE (o:=0) hr3 rfl (by show 0<2;omega) ?_);intro w4 h4 o4;have h4:Blk w4 r [.string u.2.1,.bool (ok&&(u.2.2.1==(0:Int)))] 98:=h4;have hb4:=h3.only o4 hne;have oA:Only (fun k=>k=r\/k=r13) w1 w4:=Only.trans (Only.trans (o2.mono (fun k hk=>.inl hk)) o3 (fun k hk=>.inl (.inr hk))) o4 (fun k hk=>.inl (.inl hk));refine hK u.1 w4 (fun p hp=>?_) ?_ hb4 (Only.trans (Only.zG he1) oA (fun k hk=>.inl hk))
 ·have hok:ok=true/\yf (V.B s)=some p:=by
   rw[hst]at hp;cases ok with
   |true=>exact⟨rfl,hp⟩
   |false=>cases hp
  have:=(hu3 p hok.2).1;refine this.only oA (fun j hj e=>?_);have h1:=this.row j hj;rcases e with e|e
  ·have:=hbr.lt;omega
  ·have:=hb.lt;omega
 ·have h5:=Rd2.of h4 hu1;have:(if (ok&&(u.2.2.1==(0:Int)))=true then some (V.B u.2.1) else none)=sC st:=by
   rw[hst,hu2];cases ok with
   |false=>rfl
   |true=>
    show _=(yf (V.B s)).map fun p=>p.2;cases hq:yf (V.B s) with
    |none=>rfl
    |some p=>rw[(hu3 p hq).2];rfl
  rw[this]at h5;exact h5
theorem zpK {z:Nat} {l0:List UInt8} {K:Nat->WP} (h:Rd2 w r (some l0)) (hz:SzS z (some l0)) (hz1:z<=1000000)
  (hK:∀ (r13:Nat) (raw:Raw) w',w.heap.size<=r13->Blk w' r13 (zX.f raw) 44->Rd2 w' r ((qF l0).map fun p=>p.2)->OnR r w w'->(∀ e t,qF l0=some (e,t)->xF w' w.heap.size raw e)->K r13 w'):
  (ze prog 52 [(.pointer (some (aD r))),(.int .i64 (1:Int))] (.one (.one (.int .u64))) fun(u11:Int)=>
   ze prog 53 [(.pointer (some (aD r))),(.int .i64 (wrap .i64 u11))] (.one (.one .str)) fun(u12:ByteArray)=>
   zi (.cells #[(.string ByteArray.empty),(.slice none 0 0),(.int .u32 (0:Int)),(.int .u64 (0:Int)),(.int .i64 (0:Int))] 44) fun(r13:Nat)=>
   zc ((#[(.string u12),(.slice none 0 0),(.int .u32 (0:Int)),(.int .u64 (0:Int)),(.int .i64 (0:Int))]:Array Value).size=5)<|
   zt (aD r13) [(.string u12),(.slice none 0 0),(.int .u32 (0:Int)),(.int .u64 (0:Int)),(.int .i64 (0:Int))]<|
   zh (some (aD r)) fun(p14:Addr)=>
   ldW .str p14 fun(u15:ByteArray)=>
   ze prog 54 [(.string u15)] (.many [(.one .slc),(.one .str),(.one (.int .i64))]) fun(u16:SLC×ByteArray×Int×Unit)=>
   yD (Unit) (fun(J17:(Unit)->WP)=>
   zh (some (aD r)) fun(p19:Addr)=>
   ldW .bool (p19.add 1) fun(u20:Bool)=>
   za u20 (zh (some (aD r)) fun(p21:Addr)=>
   stW (p21.add 1) (.bool (u16.2.2.1==(0:Int)))<|J17 ())<|
   zh (some (aD r)) fun(p22:Addr)=>
   stW (p22.add 1) (.bool false)<|J17 ()) fun(y18:Unit)=>
   stW ((aD r13).add 1) (.slice u16.1.1 u16.1.2.1 u16.1.2.2)<|
   zh (some (aD r)) fun(p23:Addr)=>
   stW p23 (.string u16.2.1)<|
   ze prog 52 [(.pointer (some (aD r))),(.int .i64 (8:Int))] (.one (.one (.int .u64))) fun(u24:Int)=>
   ze prog 52 [(.pointer (some (aD r))),(.int .i64 (4:Int))] (.one (.one (.int .u64))) fun(u25:Int)=>
   ze prog 52 [(.pointer (some (aD r))),(.int .i64 (1:Int))] (.one (.one (.int .u64))) fun(u26:Int)=>
   stW ((aD r13).add 3) (.int .u64 u24)<|
   stW ((aD r13).add 4) (.int .i64 (wrap .i64 u25))<|
   stW ((aD r13).add 2) (.int .u32 (wrap .u32 u26))<|K r13) w:=by
 have hrl:=h.lt;refine zh7 h hz hz1 fun nm w2 hnm0 hnm h2 o2=>?_;have hs2:=o2.2.2.2.1;refine yt (vs:=zX.f ((nm,(none,0,0),0,0,0):Raw)) (by rfl) (zX.one _) (fun r13 w3 hb3 he3 hr13=>?_) (by rfl);have hs3:=he3.size;have hne:r13≠r:=by omega
 refine znu (h2.ext he3) hz.n hz1 hb3 hne fun cx w4 hcx h4 hb4 o4=>?_;have hs4:=o4.2.2.2.1;refine zb (jg h4 (n:=8) (by omega) ((hz.n.c).le hz1)) ?_;rintro _ w5 ⟨⟨x8,rfl,hx8,hn8⟩,h5,o5⟩;refine⟨_,rfl,?_⟩;have h5:Rd2 w5 r (sK 8 (sC (sN (some l0)))):=h5;refine zb (jg h5 (n:=4) (by omega) ((hz.n.c.k 8).le hz1)) ?_;rintro _ w6 ⟨⟨x4,rfl,hx4,hn4⟩,h6,o6⟩;refine⟨_,rfl,?_⟩;have h6:Rd2 w6 r (sK 4 (sK 8 (sC (sN (some l0))))):=h6;refine zb (jg h6 (n:=1) (by omega) (((hz.n.c.k 8).k 4).le hz1)) ?_;rintro _ w7 ⟨⟨x1,rfl,hx1,hn1⟩,h7,o7⟩;refine⟨_,rfl,?_⟩;have h7:Rd2 w7 r (sK 1 (sK 4 (sK 8 (sC (sN (some l0)))))):=h7;rw[zns]at h7;have hx4:x4<4294967296:=hx4;have hx1:x1<256:=hx1;rw[wrap_i64 (x:=(x4:Int)) (by omega) (by omega),show wrap .u32 ((x1:Nat):Int)=((x1:Nat):Int) by rw[wrap_u32];omega];have o57:=(o5.trans o6).trans o7;have hb7:=hb4.only o57 hne;refine stE (o:=3) hb7 (by rw[zx]) (by show 3<5;omega) ?_;intro w8 h8 o8;have h8:Blk w8 r13 (zX.f (nm,cx,0,x8,0)) 44:=h8;refine stE (o:=4) h8 (by rw[zx]) (by show 4<5;omega) ?_;intro w9 h9 o9;have h9:Blk w9 r13 (zX.f (nm,cx,0,x8,(x4:Int))) 44:=h9;refine stE (o:=2) h9 (by rw[zx]) (by show 2<5;omega) ?_;intro w10 h10 o10;have h10:Blk w10 r13 (zX.f (nm,cx,x1,x8,(x4:Int))) 44:=h10;have o710:Only (fun k=>k=r13) w7 w10:=Only.trans (Only.trans o8 o9 (fun k hk=>.inl hk)) o10 (fun k hk=>.inl hk);have o37:Only (fun k=>k=r\/k=r13) w3 w7:=Only.trans o4 o57 (fun k hk=>.inl (.inl hk));have o310:Only (fun k=>k=r\/k=r13) w3 w10:=Only.trans o37 o710 (fun k hk=>.inl (.inr hk));have o410:Only (fun k=>k=r\/k=r13) w4 w10:=Only.trans (o57.mono (fun k hk=>.inl hk)) o710 (fun k hk=>.inl (.inr hk));refine hK r13 (nm,cx,x1,x8,(x4:Int)) w10 (by omega) h10 (h7.only o710 (fun e=>hne e.symm)) ?_ (fun e t he=>?_)
 ·refine Only.trans (Only.trans o2 (Only.zG (F:=fun k=>k=r) he3) (fun k hk=>.inl hk)) o310 (fun k hk=>?_);rcases hk with e|e
  ·exact .inl e
  ·exact .inr (by omega)
 obtain⟨q1,q2,y1,q3,y2,q4,o,g1,g2,g3,g4,g5,g6,g7,g8⟩:=ze9 he;have eN:sN (some l0)=some q1:=by show(nmR l0).map (fun p=>p.2)=_;rw[g1];rfl
 have eC:sC (sN (some l0))=some q2:=by rw[eN];show(yf q1).map (fun p=>p.2)=_;rw[g2];rfl
 have eK:sK 8 (sC (sN (some l0)))=some q3:=by rw[eC];show(zA 8 q2).map (fun p=>p.2)=_;rw[g3];rfl
 have eK4:sK 4 (sK 8 (sC (sN (some l0))))=some q4:=by rw[eK];show(zA 4 q3).map (fun p=>p.2)=_;rw[g4];rfl
 have enm:nm=e.1:=hnm (e.1,q1) g1;have en8:x8=e.2.2.2.1:=by rw[g7];exact hn8 (y1,q3) (by rw[eC];exact g3)
 have en4:(x4:Int)=e.2.2.2.2:=by rw[g8,hn4 (y2,q4) (by rw[eK];exact g4)]
 have en1:x1=e.2.2.1:=by rw[g6];exact hn1 (o,t) (by rw[eK4];exact g5)
 have hcols:=hcx (e.2.1,q2) (by rw[eN];exact g2);refine⟨enm,?_,?_⟩
 ·show(x1,x8,(x4:Int))=e.2.2;rw[en1,en8,en4]
 ·have hl:=hcols.row;refine(hcols.only o410 (fun j hj e=>?_)).lower (by omega);have h1:=hl j hj;rcases e with e|e
  ·omega
  ·have:=hb3.lt;omega
end V
/- Contracts of the document's answer for catalogs:Read. -/
namespace V
open Go Go.Proofs Go.RowKit Crc
variable {w w':World} {r:Nat} {st:Option (List UInt8)}
theorem zpL {z:Nat} {l0:List UInt8} {K:Nat->WP} (h:Rd2 w r (some l0)) (hz:SzS z (some l0)) (hz1:z<=1000000)
  (hK:∀ (r40:Nat) (raw:Snp) w',w.heap.size<=r40->Blk w' r40 (yM.f raw) 46->Rd2 w' r ((qt l0).map fun p=>p.2)->OnR r w w'->(∀ e t,qt l0=some (e,t)->raw=e)->K r40 w'):
  (ze prog 52 [(.pointer (some (aD r))),(.int .i64 (1:Int))] (.one (.one (.int .u64))) fun(u38:Int)=>
   ze prog 53 [(.pointer (some (aD r))),(.int .i64 (wrap .i64 u38))] (.one (.one .str)) fun(u39:ByteArray)=>
   zi (.cells #[(.string ByteArray.empty),(.int .u32 (0:Int))] 46) fun(r40:Nat)=>
   zc ((#[(.string u39),(.int .u32 (0:Int))]:Array Value).size=2)<|
   zt (aD r40) [(.string u39),(.int .u32 (0:Int))]<|
   ze prog 52 [(.pointer (some (aD r))),(.int .i64 (1:Int))] (.one (.one (.int .u64))) fun(u41:Int)=>
   stW ((aD r40).add 1) (.int .u32 (wrap .u32 u41))<|K r40) w:=by
 have hrl:=h.lt;refine zh7 h hz hz1 fun nm w2 hnm0 hnm h2 o2=>?_;have hs2:=o2.2.2.2.1;refine yt (vs:=yM.f ((nm,0):Snp)) (by rfl) (yM.one _) (fun r40 w3 hb3 he3 hr40=>?_) (by rfl);have hne:r40≠r:=by omega
 refine zb (jg (h2.ext he3) (n:=1) (by omega) (hz.n.le hz1)) ?_;rintro _ w4 ⟨⟨x1,rfl,hx1,hn1⟩,h4,o4⟩;refine⟨_,rfl,?_⟩;have h4:Rd2 w4 r (sK 1 (sN (some l0))):=h4;rw[znt]at h4;have hx1:x1<256:=hx1;rw[show wrap .u32 ((x1:Nat):Int)=((x1:Nat):Int) by rw[wrap_u32];omega];refine stE (o:=1) (hb3.only o4 hne) (by rw[zx]) (by show 1<2;omega) ?_;intro w5 h5 o5;have h5:Blk w5 r40 (yM.f (nm,x1)) 46:=h5;refine hK r40 (nm,x1) w5 (by omega) h5 (h4.only o5 (fun e=>hne e.symm)) ?_ (fun e t he=>?_)
 ·refine Only.trans (Only.trans (Only.trans o2 (Only.zG (F:=fun k=>k=r) he3) (fun k hk=>.inl hk)) o4 (fun k hk=>.inl hk)) o5 (fun k hk=>?_);have:k=r40:=hk;exact .inr (by omega)
 obtain⟨q1,o,g1,g2,g3⟩:=zfa he;have eN:sN (some l0)=some q1:=by show(nmR l0).map (fun p=>p.2)=_;rw[g1];rfl
 have enm:nm=e.1:=hnm (e.1,q1) g1;have en1:x1=e.2:=by rw[g3];exact hn1 (o,t) (by rw[eN];exact g2)
 rw[enm,en1]
theorem Rd2.uG {l0:List UInt8} (hR:Rd2 w r st) (hst:Rd2 w r (some l0)):st=some l0:=by
 cases st with
 |none=>
  obtain⟨s,_,hs⟩:=hR;have h1:w.heap[r]?=some _:=hs;have h2:w.heap[r]?=some _:=hst;rw[h1]at h2;injection h2 with h2
  injection h2 with h2 _ _
  have:=congrArg (fun a=>a.toList[1]?) h2;simp at this
 |some l1=>
  have h1:w.heap[r]?=some _:=hR;have h2:w.heap[r]?=some _:=hst;rw[h1]at h2;injection h2 with h2
  injection h2 with h2 _ _
  have:=congrArg (fun a=>a.toList[0]?) h2;simp at this;rw[show l1=l0 from by have:=congrArg V.B this;rwa [yV,yV]at this]
theorem znv {l t:List UInt8} {e:Ent} (h:qF l=some (e,t)):t.length<=l.length:=by
 obtain⟨q1,q2,y1,q3,y2,q4,o,g1,g2,g3,g4,g5,_⟩:=ze9 h;have h1:=ze2 g1;have h2:=congrArg List.length (zap g2).2;rw[length_append]at h2;have h3:=kr g3;have h4:=kr g4;have h5:=kr g5;omega
theorem znw {l t:List UInt8} {e:Snp} (h:qt l=some (e,t)):t.length<=l.length:=by
 obtain⟨q1,o,g1,g2,_⟩:=zfa h;have h1:=ze2 g1;have h2:=kr g2;omega
def zem (tot:Option (List Ent×List UInt8)) (z r1 r2 B0:Nat) (j:Nat) (w:World):Prop:=
 ∃ (x:SLC) (raws:List Raw) (st:Option (List UInt8)),Blk w r1 (zN x (none,0,0)) 25/\Owni zX 44 w B0 x.1 x.2.1 x.2.2 raws/\x.2.1+j<=255/\Rd2 w r2 st/\
  ((st=none/\tot=none)\/∃ l acc,st=some l/\l.length<=z/\yw w B0 x raws acc/\Left qF tot j acc l)
def zen (tot:Option (List Snp×List UInt8)) (es:List Ent) (z r1 r2 B0:Nat) (j:Nat) (w:World):Prop:=
 ∃ (x y:SLC) (raws:List Raw) (ss:List Snp) (st:Option (List UInt8)),Blk w r1 (zN x y) 25/\Owni zX 44 w B0 x.1 x.2.1 x.2.2 raws/\Owni yM 46 w B0 y.1 y.2.1 y.2.2 ss/\x.2.1<=255/\y.2.1+j<=255/\Rd2 w r2 st/\
  ((st=none/\tot=none)\/∃ l,st=some l/\l.length<=z/\yw w B0 x raws es/\Left qt tot j ss l)
abbrev On2 (r1 r2 B0:Nat) (w w':World):Prop:=Only (fun k=>k=r1\/k=r2\/B0<=k) w w'
theorem On2.trans {r1 r2 B0:Nat} {a b c:World} (h:On2 r1 r2 B0 a b) (k:On2 r1 r2 B0 b c):On2 r1 r2 B0 a c:=Only.trans h k (fun j hj=>.inl hj)
theorem ziQ {tot:Option (List Ent×List UInt8)} {z r1 r2 B0 j r13:Nat} {raw:Raw} {l0:List UInt8} {x:SLC} {raws:List Raw} {acc:List Ent} {K:WP} (hr1:r1<B0) (hr2:r2<B0) (h12:r1≠r2) (hB:B0<=r13) (hj:x.2.1+(j+1)<=255)
  (hb:Blk w r1 (zN x (none,0,0)) 25) (hrow:Owni zX 44 w B0 x.1 x.2.1 x.2.2 raws) (hT:yw w B0 x raws acc) (hb13:Blk w r13 (zX.f raw) 44) (hR:Rd2 w r2 ((qF l0).map fun p=>p.2)) (hE:∀ e t,qF l0=some (e,t)->xF w B0 raw e) (hL:Left qF tot (j+1) acc l0) (hz:l0.length<=z)
  (hK:∀ w',zem tot z r1 r2 B0 j w'->On2 r1 r2 B0 w w'->K w'):
  (ldW .slc (aD r1) fun(u27:SLC)=>
   zl [.str,.slc,(.int .u32),(.int .u64),(.int .i64)] (aD r13) fun(u28:(ByteArray×SLC×Int×Int×Int×Unit))=>
   zi (.cells #[(.string u28.1),(.slice u28.2.1.1 u28.2.1.2.1 u28.2.1.2.2),(.int .u32 u28.2.2.1),(.int .u64 u28.2.2.2.1),(.int .i64 u28.2.2.2.2.1)] 44) fun(r29:Nat)=>
   zv prog (Builtin.append_ #[22,22] 22 #[(.slice u27.1 u27.2.1 u27.2.2),(.slice (some (aD r29)) 1 1)]) .slc fun(u30:SLC)=>
   stW (aD r1) (.slice u30.1 u30.2.1 u30.2.2) K) w:=by
 have hxl:=hrow.len;refine zC x hb (by rfl) ?_;refine zR (ls:=zbz) (uj raw) hb13 (by rfl) ?_;refine yG (E:=zX) (ys:=[raw]) (by rfl) rfl zd8 hrow (by have:=hb13.lt;omega) (by omega) (by omega) ?_;intro A' c' w2 ho2 hg2;have hr1r:orow x.1≠some r1:=fun e=>by have:=hrow.row _ e;omega
 have hr2r:orow x.1≠some r2:=fun e=>by have:=hrow.row _ e;omega
 have hb2:=hb.grown hg2.grown (fun e=>hr1r e.symm);refine stE (o:=0) hb2 rfl (by show 0<2;omega) ?_;intro w3 hb3 o3;have o2:Only (fun q=>orow x.1=some q) w w2:=Only.z8 hg2.grown (fun q hq=>.inl hq);have hR3:=(hR.only o2 hr2r).only o3 (fun e=>h12 e.symm);have ho3:=ho2.only o3 (fun q hq e=>by have:=ho2.row q hq;have:q=r1:=e;omega);refine hK w3 ⟨(A',x.2.1+1,c'),_,_,hb3,ho3,by dsimp only;omega,hR3,?_⟩ (Only.trans (F:=fun q=>q=r1\/q=r2\/B0<=q) (o2.mono (fun q hq=>.inr (.inr (hrow.row q hq)))) (o3.mono (fun q hq=>.inl hq)) (fun q hq=>.inl hq));cases he:qF l0 with
 |none=>exact .inl ⟨rfl,hL.bad he⟩
 |some p=>
  obtain⟨e,t⟩:=p;refine .inr ⟨t,acc++[e],rfl,by have:=znv he;omega,?_,hL.step he⟩;have hE0:=hE e t he;refine yw.snoc (w:=w) hT ho3 (fun i hi=>?_) ?_
  ·exact((hT.at_ i hi).grown hrow hg2.grown).only o3 (fun q hq=>by have:q=r1:=hq;omega)
  ·exact(hE0.grown hrow hg2.grown).only o3 (fun q hq=>by have:q=r1:=hq;omega)
theorem ziR {tot:Option (List Snp×List UInt8)} {es:List Ent} {z r1 r2 B0 j r13:Nat} {raw:Snp} {l0:List UInt8} {x y:SLC} {raws:List Raw} {ss:List Snp} {K:WP} (hr1:r1<B0) (hr2:r2<B0) (h12:r1≠r2) (hB:B0<=r13) (hx:x.2.1<=255) (hj:y.2.1+(j+1)<=255)
  (hb:Blk w r1 (zN x y) 25) (hT:yw w B0 x raws es) (hrow:Owni yM 46 w B0 y.1 y.2.1 y.2.2 ss) (hb13:Blk w r13 (yM.f raw) 46) (hR:Rd2 w r2 ((qt l0).map fun p=>p.2)) (hE:∀ e t,qt l0=some (e,t)->raw=e) (hL:Left qt tot (j+1) ss l0) (hz:l0.length<=z)
  (hK:∀ w',zen tot es z r1 r2 B0 j w'->On2 r1 r2 B0 w w'->K w'):
  (ldW .slc ((aD r1).add 1) fun(u42:SLC)=>
   zl [.str,(.int .u32)] (aD r13) fun(u43:(ByteArray×Int×Unit))=>
   zi (.cells #[(.string u43.1),(.int .u32 u43.2.1)] 46) fun(r44:Nat)=>
   zv prog (Builtin.append_ #[23,23] 23 #[(.slice u42.1 u42.2.1 u42.2.2),(.slice (some (aD r44)) 1 1)]) .slc fun(u45:SLC)=>
   stW ((aD r1).add 1) (.slice u45.1 u45.2.1 u45.2.2) K) w:=by
 have hxl:=hrow.len;refine zk 1 y hb (by rfl) ?_;refine zR (ls:=zeT) (zcB raw) hb13 (by rfl) ?_;refine yG (E:=yM) (ys:=[raw]) (by rfl) rfl zd9 hrow (by have:=hb13.lt;omega) (by omega) (by omega) ?_;intro A' c' w2 ho2 hg2;have hr1r:orow y.1≠some r1:=fun e=>by have:=hrow.row _ e;omega
 have hr2r:orow y.1≠some r2:=fun e=>by have:=hrow.row _ e;omega
 have hb2:=hb.grown hg2.grown (fun e=>hr1r e.symm);refine stE (o:=1) hb2 (by rw[zx]) (by show 1<2;omega) ?_;intro w3 hb3 o3;have o2:Only (fun q=>orow y.1=some q) w w2:=Only.z8 hg2.grown (fun q hq=>.inl hq);have hR3:=(hR.only o2 hr2r).only o3 (fun e=>h12 e.symm);have ho3:=ho2.only o3 (fun q hq e=>by have:=ho2.row q hq;have:q=r1:=e;omega);have hT3:=(hT.zlh hrow hg2.grown).only o3 (fun q hq=>by have:q=r1:=hq;omega);refine hK w3 ⟨x,(A',y.2.1+1,c'),raws,_,_,hb3,hT3.row,ho3,hx,by dsimp only;omega,hR3,?_⟩ (Only.trans (F:=fun q=>q=r1\/q=r2\/B0<=q) (o2.mono (fun q hq=>.inr (.inr (hrow.row q hq)))) (o3.mono (fun q hq=>.inl hq)) (fun q hq=>.inl hq));cases he:qt l0 with
 |none=>exact .inl ⟨rfl,hL.bad he⟩
 |some p=>
  obtain⟨e,t⟩:=p;have ee:=hE e t he;exact .inr ⟨t,rfl,by have:=znw he;omega,hT3,by rw[ee];exact hL.step he⟩
theorem zem.out {tot:Option (List Ent×List UInt8)} {z r1 r2 B0 j:Nat} (h:zem tot z r1 r2 B0 j w) (hj:Rd2 w r2 none\/j=0):zem tot z r1 r2 B0 0 w:=by
 obtain⟨x,raws,st,hb,hrow,hx,hR,hcase⟩:=h;rcases hj with h1|rfl
 ·cases st with
  |none=>exact⟨x,raws,none,hb,hrow,by omega,hR,.inl ⟨rfl,by rcases hcase with ⟨_,h⟩|⟨l,acc,e',_⟩;exact h;cases e'⟩⟩
  |some l=>exact absurd (h1.uG hR) (by simp)
 ·exact⟨x,raws,st,hb,hrow,hx,hR,hcase⟩
theorem zen.out {tot:Option (List Snp×List UInt8)} {es:List Ent} {z r1 r2 B0 j:Nat} (h:zen tot es z r1 r2 B0 j w) (hj:Rd2 w r2 none\/j=0):zen tot es z r1 r2 B0 0 w:=by
 obtain⟨x,y,raws,ss,st,hb,hro,hrow,hx,hy,hR,hcase⟩:=h;rcases hj with h1|rfl
 ·cases st with
  |none=>exact⟨x,y,raws,ss,none,hb,hro,hrow,hx,by omega,hR,.inl ⟨rfl,by rcases hcase with ⟨_,h⟩|⟨l,e',_⟩;exact h;cases e'⟩⟩
  |some l=>exact absurd (h1.uG hR) (by simp)
 ·exact⟨x,y,raws,ss,st,hb,hro,hrow,hx,hy,hR,hcase⟩
end V
/- Contracts of the document's answer for catalogs:Read,whole. -/
namespace V
open Go Go.Proofs Go.RowKit Crc
variable {w w':World} {r:Nat} {st:Option (List UInt8)}
def flt (b:Bool) (st:Option (List UInt8)):Option (List UInt8):=if b=true then st else none
theorem zh8 (b:Bool):flt b none=none:=by cases b<;>rfl
theorem zh9 {α:Type} {q:α->Bool} {l:List α} {i:Nat} {d:α} (h:i<l.length):(l.take (i+1)).all q=((l.take i).all q&&q (l.getD i d)):=by
 have:l[i]?=some (l.getD i d):=by rw[getD_eq_getElem?_getD,List.getElem?_eq_getElem h];rfl
 rw[zkK this,List.all_append];simp
theorem zlt {b:Bool} {K:WP} {A:(Bool->WP)->WP} {q:Bool} (h:Rd2 w r (flt b st)) (hz:SzS 1000000 st) (hA:b=true->st≠none->∀ G:Bool->WP,G q w->A G w) (hK:∀ w',Rd2 w' r (flt (b&&q) st)->OnR r w w'->K w'):
  (zh (some (aD r)) fun(p49:Addr)=>
   ldW .bool (p49.add 1) fun(u50:Bool)=>
   za u50 (A fun t=>zh (some (aD r)) fun(p54:Addr)=>
   stW (p54.add 1) (.bool t) K)<|
   zh (some (aD r)) fun(p55:Addr)=>
   stW (p55.add 1) (.bool false) K) w:=by
 have hz':∀ l,flt b st=some l->l.length<=1000000:=fun l hl=>by
  cases b with
  |true=>exact hz l hl
  |false=>cases hl
 obtain⟨s,ok,hs,hb,he⟩:=h.box hz';refine zp (zk 1 ok hb (by rfl) ?_);cases ok with
 |true=>
  have hbt:b=true:=by
   cases b with
   |true=>rfl
   |false=>cases he
  subst hbt;have he:st=some (V.B s):=he;refine zf rfl (hA rfl (by rw[he];exact Option.some_ne_none _) _ (zp ?_));refine stE (o:=1) hb (by rw[zx]) (by show 1<2;omega) ?_;intro w2 h2 o2;have h2:Blk w2 r [.string s,.bool q] 98:=h2;refine hK w2 ?_ o2;have h3:=Rd2.of h2 hs;rw[Bool.true_and,he];exact h3
 |false=>
  have he:flt b st=none:=he;refine zd rfl (zp ?_);refine stE (o:=1) hb (by rw[zx]) (by show 1<2;omega) ?_;intro w2 h2 o2;have h2:Blk w2 r [.string s,.bool false] 98:=h2;refine hK w2 ?_ o2;have h3:Rd2 w2 r none:=Rd2.of h2 hs;have:flt (b&&q) st=none:=by
   cases b with
   |false=>rfl
   |true=>
    have he:st=none:=he;rw[he];exact zh8 _
  rw[this];exact h3
theorem zgv {s:ByteArray} (hs:s.size<=1000000):Calls prog 16 #[.string s] w (Ret fun v w'=>(∃ x y,v=.tuple #[.agg (zN x y).toArray,.int .i64 (xH (B s)).2]/\yy w' w.heap.size x y (xH (B s)).1)/\Ext w w'):=by
 apply zn5;unfold S16;refine zs fun r1 w1 hb1 he1 hr1 hz1=>?_;refine zs fun r2 w2 hb2 he2 hr2 hz2=>?_;refine zs fun r3 w3 hb3 he3 hr3 hz3=>?_;have hb1:Blk w3 r1 (zN (none,0,0) (none,0,0)) 25:=(hb1.ext he2).ext he3;have hb3:Blk w3 r3 (zN (none,0,0) (none,0,0)) 25:=hb3;have hR3:Rd2 w3 r2 (some (B s)):=by
  show Blk w3 r2 [.string (mkB (B s)),.bool true] _;rw[zc3];exact hb2.ext he3
 have he03:=(he1.trans he2).trans he3;have hlen:=zP s;have hz0:SzS s.size (some (B s)):=fun l hl=>by cases hl;omega
 have hw3:=he03.size;generalize hB0:w3.heap.size=B0 at *;have hr1B:r1<B0:=by omega
 have hr2B:r2<B0:=by omega
 have hr3B:r3<B0:=by omega
 have h32:r3≠r2:=by omega
 have hup:∀ {w8:World},On2 r3 r2 B0 w3 w8->Ext w w8:=fun o=>Only.ext he03 o (fun j hj=>by rcases hj with e|e|e<;>omega)
 -- the tables
 refine zb (jg hR3 (n:=1) (by omega) (hz0.le hs)) ?_;rintro _ w4 ⟨⟨n,rfl,hnl,hn⟩,h4,o4⟩;refine⟨_,rfl,?_⟩;have hnl:n<256:=hnl;rw[wrap_i64 (x:=(n:Int)) (by omega) (by omega)];have h4:Rd2 w4 r2 ((zA 1 (B s)).map fun p=>p.2):=h4;have hs4:=o4.2.2.2.1;refine yi (fun _ w'=>zem (qG (B s)) s.size r3 r2 B0 0 w'/\On2 r3 r2 B0 w3 w') ?_ (fun J5 hJ5=>?_);rotate_left
 ·have hI:zem (qG (B s)) s.size r3 r2 B0 n w4:=by
   cases hc:zA 1 (B s) with
   |none=>
    rw[hc]at h4;exact⟨(none,0,0),[],none,hb3.only o4 h32,Owni.nil _ _ _,by show 0+n<=255;omega,h4,.inl ⟨rfl,by unfold qG;rw[hc]⟩⟩
   |some p=>
    obtain⟨q,t⟩:=p;have e:n=lev q:=hn (q,t) hc;rw[hc]at h4;refine⟨(none,0,0),[],some t,hb3.only o4 h32,Owni.nil _ _ _,by show 0+n<=255;omega,h4,.inr ⟨t,[],rfl,by have:=kr hc;omega,⟨Owni.nil _ _ _,rfl,fun i hi=>by cases hi⟩,?_⟩⟩;have:qG (B s)=xd qF n t:=by unfold qG;rw[hc,e]
    rw[this];exact Left.init
  refine zu (fun y w'=>∃ i j:Nat,i+j=n/\y=((i:Int),())/\zem (qG (B s)) s.size r3 r2 B0 j w'/\On2 r3 r2 B0 w3 w'/\B0<=w'.heap.size) (fun y=>(n-y.1).toNat) ⟨0,n,by omega,rfl,hI,o4.mono (fun k hk=>.inr (.inl hk)),by omega⟩ ?_;rintro _ w5 ⟨i,j,hij,rfl,hI5,o5,hs5⟩;dsimp only
  by_cases h0:j=0
  ·subst h0;exact zd (decide_eq_false (by omega)) (hJ5 _ _ ⟨hI5,o5⟩)
  refine zf (decide_eq_true (by omega)) (zp ?_);obtain⟨x,raws,st,hb,hrow,hx,hR,hcase⟩:=id hI5;cases st with
  |none=>
   obtain⟨s',_,hs'⟩:=id hR;exact zk 1 false hs' (by rfl) (zd rfl (hJ5 _ _ ⟨hI5.out (.inl hR),o5⟩))
  |some l=>
   have hb5:Blk w5 r2 [.string (mkB l),.bool true] 98:=hR;obtain⟨j,rfl⟩:∃ j',j=j'+1:=⟨j-1,by omega⟩;refine zk 1 true hb5 (by rfl) (zf rfl ?_);rcases hcase with ⟨e,_⟩|⟨l',acc,e,hlz,hT,hL⟩
   ·cases e
   obtain rfl:l=l':=by injection e
   refine zpK (z:=s.size) hR (fun q hq=>by cases hq;exact hlz) hs fun r13 raw w6 hr13 hb13 hR6 o6 hE6=>?_;have hs6:=o6.2.2.2.1;have hxl:=hrow.row;refine ziQ hr3B hr2B h32 (by omega) hx (hb.only o6 h32) (hrow.only o6 (fun q hq e=>by have:=hxl q hq;have:q=r2:=e;omega)) (hT.only o6 (fun q hq=>by have:q=r2:=hq;omega)) hb13 hR6 (fun e t he=>(hE6 e t he).lower hs5) hL hlz fun w7 hI7 o7=>?_;have hs7:=o7.2.2.2.1;have ew:wrap .i64 ((i:Int)+1)=((i+1:Nat):Int):=by rw[wrap_i64 (by omega) (by omega)];rfl
   rw[ew];exact⟨⟨i+1,j,by omega,rfl,hI7,(On2.trans o5 (o6.mono (fun k hk=>.inr (.inl hk)))).trans o7,by omega⟩,by omega⟩
 rintro _ w5 ⟨hI,o5⟩;obtain⟨x,raws,st,hb5,hrow,hx,hR5,hcase⟩:=hI;have hs5:=o5.2.2.2.1;have hzst:SzS s.size st:=fun l hl=>by
  rcases hcase with ⟨e,_⟩|⟨l',acc,e,hlz,_⟩
  ·rw[e]at hl;cases hl
  ·rw[e]at hl;cases hl;exact hlz
 -- the snapshots
 refine zb (jg hR5 (n:=1) (by omega) (hzst.le hs)) ?_;rintro _ w6 ⟨⟨m,rfl,hml,hm⟩,h6,o6⟩;refine⟨_,rfl,?_⟩;have hml:m<256:=hml;rw[wrap_i64 (x:=(m:Int)) (by omega) (by omega)];have hs6:=o6.2.2.2.1;have hxl:=hrow.row;have hrow6:=hrow.only o6 (fun q hq e=>by have:=hxl q hq;have:q=r2:=e;omega);refine yi (fun _ w'=>∃ es,zen (zaw (qG (B s))) es s.size r3 r2 B0 0 w'/\(∀ ts t,qG (B s)=some (ts,t)->es=ts)/\On2 r3 r2 B0 w3 w') ?_ (fun J32 hJ32=>?_);rotate_left
 ·have hI:∃ es,zen (zaw (qG (B s))) es s.size r3 r2 B0 m w6/\(∀ ts t,qG (B s)=some (ts,t)->es=ts):=by
   rcases hcase with ⟨rfl,ht⟩|⟨l,acc,rfl,hlz,hT,hL⟩
   ·exact⟨[],⟨x,(none,0,0),raws,[],none,hb5.only o6 h32,hrow6,Owni.nil _ _ _,by omega,by show 0+m<=255;omega,h6,.inl ⟨rfl,by rw[ht];rfl⟩⟩,fun ts t h=>(by rw[ht]at h;cases h)⟩
   ·have ht:=hL.done;have h6:Rd2 w6 r2 ((zA 1 l).map fun p=>p.2):=h6;have hT6:=hT.only o6 (fun q hq=>by have:q=r2:=hq;omega);refine⟨acc,?_,fun ts t h=>by rw[ht]at h;cases h;rfl⟩;cases hc:zA 1 l with
    |none=>
     rw[hc]at h6;exact⟨x,(none,0,0),raws,[],none,hb5.only o6 h32,hrow6,Owni.nil _ _ _,by omega,by show 0+m<=255;omega,h6,.inl ⟨rfl,by rw[ht];unfold zaw;dsimp only;rw[hc]⟩⟩
    |some p=>
     obtain⟨q,t⟩:=p;have e:m=lev q:=hm (q,t) hc;rw[hc]at h6;refine⟨x,(none,0,0),raws,[],some t,hb5.only o6 h32,hrow6,Owni.nil _ _ _,by omega,by show 0+m<=255;omega,h6,.inr ⟨t,rfl,by have:=kr hc;omega,hT6,?_⟩⟩;have:zaw (qG (B s))=xd qt m t:=by rw[ht];unfold zaw;dsimp only;rw[hc,e]
     rw[this];exact Left.init
  obtain⟨es,hI,hes⟩:=hI;refine zu (fun y w'=>∃ i j:Nat,i+j=m/\y=((i:Int),())/\zen (zaw (qG (B s))) es s.size r3 r2 B0 j w'/\On2 r3 r2 B0 w3 w'/\B0<=w'.heap.size) (fun y=>(m-y.1).toNat) ⟨0,m,by omega,rfl,hI,On2.trans o5 (o6.mono (fun k hk=>.inr (.inl hk))),by omega⟩ ?_;rintro _ w7 ⟨i,j,hij,rfl,hI7,o7,hs7⟩;dsimp only
  by_cases h0:j=0
  ·subst h0;exact zd (decide_eq_false (by omega)) (hJ32 _ _ ⟨es,hI7,hes,o7⟩)
  refine zf (decide_eq_true (by omega)) (zp ?_);obtain⟨x,y,raws,ss,st,hb,hro,hrow,hx,hy,hR,hcase⟩:=id hI7;cases st with
  |none=>
   obtain⟨s',_,hs'⟩:=id hR;exact zk 1 false hs' (by rfl) (zd rfl (hJ32 _ _ ⟨es,hI7.out (.inl hR),hes,o7⟩))
  |some l=>
   have hb7:Blk w7 r2 [.string (mkB l),.bool true] 98:=hR;obtain⟨j,rfl⟩:∃ j',j=j'+1:=⟨j-1,by omega⟩;refine zk 1 true hb7 (by rfl) (zf rfl ?_);rcases hcase with ⟨e,_⟩|⟨l',e,hlz,hT,hL⟩
   ·cases e
   obtain rfl:l=l':=by injection e
   refine zpL (z:=s.size) hR (fun q hq=>by cases hq;exact hlz) hs fun r13 raw w8 hr13 hb13 hR8 o8 hE8=>?_;have hs8:=o8.2.2.2.1;have hxl:=hrow.row;refine ziR hr3B hr2B h32 (by omega) hx hy (hb.only o8 h32) (hT.only o8 (fun q hq=>by have:q=r2:=hq;omega)) (hrow.only o8 (fun q hq e=>by have:=hxl q hq;have:q=r2:=e;omega)) hb13 hR8 hE8 hL hlz fun w9 hI9 o9=>?_;have hs9:=o9.2.2.2.1;have ew:wrap .i64 ((i:Int)+1)=((i+1:Nat):Int):=by rw[wrap_i64 (by omega) (by omega)];rfl
   rw[ew];exact⟨⟨i+1,j,by omega,rfl,hI9,(On2.trans o7 (o8.mono (fun k hk=>.inr (.inl hk)))).trans o9,by omega⟩,by omega⟩
 clear hcase hR5 hrow6 hrow hb5;rintro _ w7 ⟨es,⟨x,y,raws,ss,st,hb7,hro,hrow,hx,hy,hR7,hcase⟩,hes,o7⟩;have hs7:=o7.2.2.2.1;have hzs:SzS 1000000 st:=fun l hl=>by
  rcases hcase with ⟨e,_⟩|⟨l',e,hlz,_⟩
  ·rw[e]at hl;cases hl
  ·rw[e]at hl;cases hl;omega
 have hT0:st≠none->yw w7 B0 x raws es:=fun hn=>by
  rcases hcase with ⟨e,_⟩|⟨l',e,hlz,hT,_⟩
  ·exact absurd e hn
  ·exact hT
 have hsl:=hrow.len;have hb17:Blk w7 r1 (zN (none,0,0) (none,0,0)) 25:=hb1.only o7 (fun e=>by rcases e with e|e|e<;>omega);have ewr:∀ {i:Nat},i<=255->wrap .i64 ((i:Int)+1)=((i+1:Nat):Int):=fun hi=>by rw[wrap_i64 (by omega) (by omega)];rfl
 -- the tables' roots
 refine zu (fun q w'=>∃ i:Nat,i<=x.2.1/\q=((i:Int),())/\Rd2 w' r2 (flt ((es.take i).all qE) st)/\OnR r2 w7 w') (fun q=>(x.2.1-q.1).toNat) ⟨0,by omega,rfl,by exact hR7,Only.refl _ _⟩ ?_;rintro _ w8 ⟨i,hi,rfl,hR8,o8⟩;dsimp only;have hb8:=hb7.only o8 h32;refine zC x hb8 (by rfl) ?_
 by_cases hlt:i<x.2.1
 ·refine zf (decide_eq_true (by omega)) ?_;rw[ewr (by omega)];refine zlt (q:=if st=none then true else qE (es.getD i zI)) (b:=(es.take i).all qE) (st:=st) (A:=fun(G:Bool->WP)=>ldW .slc (aD r3) fun(u51:SLC)=>zc (0<=(i:Int)/\(i:Int)<((u51.2.1:Nat):Int))<|zh u51.1 fun(p52:Addr)=>ldW (.int .u32) ((p52.add (Int.toNat (i:Int)*5)).add 2) fun(u53:Int)=>G (decide (u53<=(1:Int)))) hR8 hzs (fun _ hn G hG=>?_) (fun w9 hR9 o9=>?_)
  ·have hT:=(hT0 hn).only o8 (fun q hq=>by have:q=r2:=hq;omega);have hrl:=hT.row.len;have hel:=hT.len;refine zC x hb8 (by rfl) ?_;refine vN (E:=zX) 2 (fun e:Raw=>((e.2.2.1:Nat):Int)) yl hT.row.sl (fun _=>rfl) rfl (by omega) (by omega) ?_;rw[Int.toNat_natCast,show(raws.getD i yl).2.2.1=(es.getD i zI).2.2.1 by rw[(hT.at_ i (by omega)).rest]];rw[if_neg hn]at hG;have:decide (((es.getD i zI).2.2.1:Int)<=1)=qE (es.getD i zI):=by unfold qE;rw[decide_eq_decide];omega
   rw[this];exact hG
  ·refine⟨⟨i+1,by omega,rfl,?_,o8.trans o9⟩,by omega⟩
   by_cases hn:st=none
   ·subst hn;rw[zh8]at hR9 ⊢;exact hR9
   ·have hT:=hT0 hn;have hrl:=hT.row.len;have hel:=hT.len;rw[if_neg hn]at hR9;rw[zh9 (d:=zI) (by omega)];exact hR9
 obtain rfl:i=x.2.1:=by omega
 refine zd (decide_eq_false (by omega)) ?_
 -- the snapshots' roots
 refine zu (fun q w'=>∃ i:Nat,i<=y.2.1/\q=((i:Int),())/\Rd2 w' r2 (flt ((ss.take i).all qS) (flt ((es.take x.2.1).all qE) st))/\OnR r2 w7 w') (fun q=>(y.2.1-q.1).toNat) ⟨0,by omega,rfl,by exact hR8,o8⟩ ?_;rintro _ w9 ⟨i,hi,rfl,hR9,o9⟩;dsimp only;have hb9:=hb7.only o9 h32;refine zk 1 y hb9 (by rfl) ?_
 by_cases hlt:i<y.2.1
 ·refine zf (decide_eq_true (by omega)) ?_;rw[ewr (by omega)];have hzs2:SzS 1000000 (flt ((es.take x.2.1).all qE) st):=fun l hl=>by
   cases hq:(es.take x.2.1).all qE with
   |true=>rw[hq]at hl;exact hzs l hl
   |false=>rw[hq]at hl;cases hl
  refine zlt (q:=qS (ss.getD i zL)) (b:=(ss.take i).all qS) (st:=flt ((es.take x.2.1).all qE) st) (A:=fun(G:Bool->WP)=>ldW .slc ((aD r3).add 1) fun(u61:SLC)=>zc (0<=(i:Int)/\(i:Int)<((u61.2.1:Nat):Int))<|zh u61.1 fun(p62:Addr)=>ldW (.int .u32) ((p62.add (Int.toNat (i:Int)*2)).add 1) fun(u63:Int)=>G (decide (u63<=(1:Int)))) hR9 hzs2 (fun _ hn G hG=>?_) (fun w10 hR10 o10=>?_)
  ·have hS:=hrow.only o9 (fun q hq e=>by have:=hrow.row q hq;have:q=r2:=e;omega);refine zk 1 y hb9 (by rfl) ?_;refine vN (E:=yM) 1 (fun e:Snp=>((e.2:Nat):Int)) zL hS.sl (fun _=>rfl) rfl (by omega) (by omega) ?_;rw[Int.toNat_natCast];have:decide (((ss.getD i zL).2:Int)<=1)=qS (ss.getD i zL):=by unfold qS;rw[decide_eq_decide];omega
   rw[this];exact hG
  ·refine⟨⟨i+1,by omega,rfl,?_,o9.trans o10⟩,by omega⟩;rw[zh9 (d:=zL) (by omega)];exact hR10
 obtain rfl:i=y.2.1:=by omega
 refine zd (decide_eq_false (by omega)) ?_
 -- the answer
 rw[take_of_length_le (by omega)]at hR9;have o39:On2 r3 r2 B0 w3 w9:=On2.trans o7 (o9.mono (fun k hk=>.inr (.inl hk)));have he9:=hup o39;have hb19:=hb17.only o9 (fun e=>by have:r1=r2:=e;omega);have bad:∀ {w5:World},Blk w5 r1 (zN (none,0,0) (none,0,0)) 25->Ext w w5->xH (B s)=(zaE,240)->(zc ((#[.slice none 0 0,.slice none 0 0]:Array Value).size=2)<|zt (aD r1) [.slice none 0 0,.slice none 0 0]<|zl [.slc,.slc] (aD r1) fun(u:SLC×SLC×Unit)=>fun w'=>(∃ x y,Value.tuple #[.agg #[.slice u.1.1 u.1.2.1 u.1.2.2,.slice u.2.1.1 u.2.1.2.1 u.2.1.2.2],.int .i64 240]=.tuple #[.agg (zN x y).toArray,.int .i64 (xH (B s)).2]/\yy w' w.heap.size x y (xH (B s)).1)/\Ext w w') w5:=by
  intro w5 hb5 he5 hk;refine refill (vs:=zN (none,0,0) (none,0,0)) hb5 (by rfl) (xQ _ _) (by rfl) ?_;intro w6 hb6 hx6 hk6 hz6;refine zR (ls:=xh) (xk (none,0,0) (none,0,0)) hb6 (by rfl) ?_;rw[hk];exact⟨⟨_,_,rfl,zbL _ _⟩,hx6 w he5 (by omega)⟩
 have hzs3:∀ l,flt (ss.all qS) (flt ((es.take x.2.1).all qE) st)=some l->l.length<=1000000:=fun l hl=>by
  unfold flt at hl;split at hl
  ·split at hl
   ·exact hzs l hl
   ·cases hl
  ·cases hl
 obtain⟨sl,ok,hs9,hb29,hst9⟩:=hR9.box hzs3;refine zp (zk 1 ok hb29 (by rfl) ?_);cases ok with
 |false=>
  have hst9:flt (ss.all qS) (flt ((es.take x.2.1).all qE) st)=none:=hst9;refine zf (by rfl) (bad hb19 he9 ?_);unfold xH;rw[zel];rcases hcase with ⟨e,ht⟩|⟨l,e,hlz,hT,hL⟩
  ·cases hq:qG (B s) with
   |none=>rfl
   |some p=>rw[hq]at ht;dsimp only;rw[ht]
  ·have ht:=hL.done;cases hq:qG (B s) with
   |none=>rfl
   |some p=>
    obtain⟨ts,t⟩:=p;have hes:=hes ts t hq;rw[hq]at ht;dsimp only;rw[ht];dsimp only;have hrl:=hT.row.len;have hel:=hT.len;rw[take_of_length_le (by omega),e]at hst9;rw[if_neg];rintro⟨_,h2,h3⟩;rw[<- hes]at h2;rw[h2,h3]at hst9;cases hst9
 |true=>
  have hst9:flt (ss.all qS) (flt ((es.take x.2.1).all qE) st)=some (V.B sl):=hst9;have hall:ss.all qS=true/\(es.take x.2.1).all qE=true/\st=some (V.B sl):=by
   unfold flt at hst9;split at hst9
   ·rename_i h1;split at hst9
    ·rename_i h2;exact⟨h1,h2,hst9⟩
    ·cases hst9
   ·cases hst9
  obtain⟨a1,a2,a3⟩:=hall;rcases hcase with ⟨e,_⟩|⟨l,e,hlz,hT,hL⟩
  ·rw[e]at a3;cases a3
  obtain rfl:V.B sl=l:=by rw[e]at a3;injection a3 with a3;exact a3.symm
  have hrl:=hT.row.len;have hel:=hT.len;rw[take_of_length_le (by omega)]at a2;have ht:=hL.done;obtain⟨t0,ht0⟩:∃ t0,qG (B s)=some (es,t0):=by
   cases hq:qG (B s) with
   |none=>rw[hq]at ht;cases ht
   |some p=>
    obtain⟨p1,p2⟩:=p;exact⟨p2,by rw[hes p1 p2 hq]⟩
  rw[ht0]at ht;refine zd (by rfl) (zp (zC sl hb29 (by rfl) ?_));rw[zga]
  by_cases hl:V.B sl=[]
  ·refine zd (by rw[decide_eq_true hl];rfl) ?_;have hb39:=hb7.only o9 h32;refine zR (ls:=xh) (xk x y) hb39 (by rfl) ?_;have hrd:zbu (B s)=some (es,ss):=by
    rw[zel,ht0];dsimp only;rw[ht];dsimp only;rw[if_pos ⟨hl,a2,a1⟩]
   have hown:yy w9 B0 x y (es,ss):=⟨⟨raws,hT.only o9 (fun q hq=>by have:q=r2:=hq;omega)⟩,hrow.only o9 (fun q hq e=>by have:=hrow.row q hq;have:q=r2:=e;omega)⟩;refine zb (vI hown.cat) ?_;rintro _ w10 ⟨rfl,he10⟩;refine⟨_,rfl,?_⟩;have hb110:=hb19.ext he10;have he010:=he9.trans he10;cases hok:qp (es,ss) with
   |false=>
    refine zf (by rfl) (bad hb110 he010 ?_);unfold xH;rw[hrd];dsimp only;rw[hok];rfl
   |true=>
    refine zd (by rfl) ?_;refine zR (ls:=xh) (xk x y) (hb39.ext he10) (by rfl) ?_;refine refill (vs:=zN x y) hb110 (by rfl) (xQ _ _) (by rfl) ?_;intro w11 hb11 hx11 hk11 hz11;have he11:=hx11 w he010 (by omega);refine zR (ls:=xh) (xk x y) hb11 (by rfl) ?_;have hk:xH (B s)=((es,ss),0):=by
     unfold xH;rw[hrd];dsimp only;rw[hok];rfl
    rw[hk];refine⟨⟨x,y,rfl,((hown.ext he10).only (F:=fun k=>k=r1) ⟨he11.os.trans he010.os.symm,he11.tape.trans he010.tape.symm,he11.output.trans he010.output.symm,Nat.le_of_eq hz11.symm,fun k _ hk=>hk11 k hk⟩ (fun k hk=>by omega)).lower (by omega)⟩,he11⟩
  ·refine zf (by rw[decide_eq_false hl];rfl) (bad hb19 he9 ?_);unfold xH;rw[zel,ht0];dsimp only;rw[ht];dsimp only;rw[if_neg (fun h=>hl h.1)]
end V
/- Law 24:CatalogCalls. -/
namespace V
open Go Go.Proofs Go.RowKit Crc
variable {w w':World}
theorem zia (w:World) {x y:SLC} {c:Cat} (h:qj w x y c) (s nm:ByteArray):
  Calls prog 4 #[.agg (zN x y).toArray,.string s,.string nm] w (Ret fun v w'=>v=.bool true/\Ext w w'):=by
 apply zpQ;unfold S4;refine zs fun r1 w1 hb1 he1 hr1 hz1=>?_;have hb1:Blk w1 r1 (zN x y) 25:=hb1;refine zb (ziN w1) ?_;rintro _ w2 ⟨rfl,he2⟩;refine⟨_,rfl,zd (by rfl) ?_⟩;have he02:=he1.trans he2;refine zR (ls:=xh) (xk x y) (hb1.ext he2) (by rfl) ?_;refine zb (ziO (h.ext he02)) ?_;rintro _ w3 ⟨⟨lb,rfl,hlb⟩,he3⟩;refine⟨_,rfl,?_⟩;have he03:=he02.trans he3;refine zg (fun _=>⟨rfl,he03⟩) (fun hl=>?_);have hL:zcV c:=hlb (by simpa using hl);refine zg (fun _=>⟨rfl,he03⟩) (fun hs=>?_);have hs:=of_decide_eq_false hs;refine zg (fun _=>⟨rfl,he03⟩) (fun _=>?_);have hb3:=(hb1.ext he2).ext he3;refine zR (ls:=xh) (xk x y) hb3 (by rfl) ?_;refine zb (zba (h.ext he03)) ?_;rintro _ w4 ⟨rfl,he4⟩;refine⟨((jG c).1,(jG c).2,()),rfl,?_⟩;have he04:=he03.trans he4;refine zR (ls:=xh) (xk x y) (hb3.ext he4) (by rfl) ?_;refine zb (zfH (h.ext he04)) ?_;rintro _ w5 ⟨rfl,he5⟩;refine⟨((jG c).1,(jG c).2,()),rfl,?_⟩;have he05:=he04.trans he5;have hb5:=(hb3.ext he4).ext he5;refine zb (zb4 (s:=s) (by omega)) ?_;rintro _ w6 ⟨⟨X,Y,rfl,hc6⟩,he6⟩;refine⟨(xk X Y,(xH (B s)).2,()),rfl,?_⟩;refine yt (vs:=zN X Y) (by rfl) (xQ _ _) (fun r10 w7 hb7 he7 hr7=>?_) (by rfl);refine zb (zgv (s:=s) (by omega)) ?_;rintro _ w8 ⟨⟨X2,Y2,rfl,hc8⟩,he8⟩;refine⟨(xk X2 Y2,(xH (B s)).2,()),rfl,?_⟩;refine yt (vs:=zN X2 Y2) (by rfl) (xQ _ _) (fun r12 w9 hb9 he9 hr9=>?_) (by rfl);have he59:=((he6.trans he7).trans he8).trans he9;have he09:=he05.trans he59;have hb19:=hb5.ext he59;refine zR (ls:=xh) (xk x y) hb19 (by rfl) ?_;refine zb (zgs (h.ext he09) nm) ?_;rintro _ w10 ⟨rfl,he10⟩;refine⟨((vo c nm).1,(vo c nm).2,()),rfl,?_⟩;refine zR (ls:=xh) (xk x y) (hb19.ext he10) (by rfl) ?_;refine zb (zgu (h.ext (he09.trans he10)) nm) ?_;rintro _ w11 ⟨rfl,he11⟩;refine⟨((vo c nm).1,(vo c nm).2,()),rfl,?_⟩;refine zK fun w12 he12 hz12 hh12=>?_;have he912:=(he10.trans he11).trans he12;have he012:=he09.trans he912;have hb112:=hb19.ext he912;dsimp only;refine zf (by rw[x6,decide_eq_true rfl]) (zf (beq_self_eq_true _) ?_);refine zR (ls:=xh) (xk X Y) (((hb7.ext he8).ext he9).ext he912) (by rfl) ?_;refine zR (ls:=xh) (xk X2 Y2) (hb9.ext he912) (by rfl) ?_;refine zb (zbM (hc6.cat.ext (((he7.trans he8).trans he9).trans he912)) (hc8.cat.ext (he9.trans he912))) ?_;rintro _ w13 ⟨⟨v,rfl,hv⟩,he13⟩;refine⟨_,rfl,zf (by rw[hv.2 rfl]) (zf (beq_self_eq_true _) (zf (beq_self_eq_true _) (zf (beq_self_eq_true _) ?_)))⟩;have he013:=he012.trans he13;have hb13:=hb112.ext he13;refine zR (ls:=xh) (xk x y) hb13 (by rfl) ?_;refine zR (ls:=xh) (xk x y) hb13 (by rfl) ?_;refine zb (vH (h.ext he013)) ?_;rintro _ w14 ⟨rfl,he14⟩;refine⟨_,rfl,?_⟩;have hb14:=hb13.ext he14;refine xz (uF hb14) ?_;refine zb (vI (h.ext (he013.trans he14))) ?_;rintro _ w15 ⟨rfl,he15⟩;refine⟨_,rfl,zf (beq_self_eq_true _) ?_⟩;have hb15:=hb14.ext he15;have he015:=(he013.trans he14).trans he15;refine zR (ls:=xh) (xk x y) hb15 (by rfl) ?_;refine zR (ls:=xh) (xk x y) hb15 (by rfl) ?_;refine zb (zgt (h.ext he015) hL.lt) ?_;rintro _ w16 ⟨⟨X3,Y3,rfl,hc16⟩,he16⟩;refine⟨xk X3 Y3,rfl,?_⟩;refine xz (uF (hb15.ext he16)) ?_;refine zb (zbM hc16.cat (h.ext (he015.trans he16))) ?_;rintro _ w17 ⟨⟨v,rfl,hv⟩,he17⟩;exact⟨_,rfl,by rw[hv.2 rfl],(he015.trans he16).trans he17⟩
end V
end Go.Proofs.YtplgodmmmppmeaaGreat
