/- Texts of mine, merged (wip/tool/mergep.py): KFrame, KFrame2, KSup, Spa, KCounts, KCounts2, HW, KCounts3, KSuper1, KSuper2, KSuper3, KSuper4, KSpa, KSpa2, KSpa3, KSpa4, KSpa5, KSpa6, Graph, KSpa7, KCounts4, KSpa8, KSpa9, HR3, KWalk, KWalk2, KWalk3, Good, Good2, Good3, Taken, KCommit, KOpen. -/
import Derived.Test.YtplgodmmmppmeaaGreatM1
import Derived.Test.YtplgodmmmppmeaaGreatM3
open Go.IntKind (wrap)
open Go.Proofs.Tryz (prog)
open List (mem_cons_self mem_cons_of_mem mem_cons length_cons map_map mem_append mem_append_left drop_drop mem_range mem_of_getElem? getElem_mem map_cons mem_map append_assoc nodup_cons foldl_cons length_nil append_nil length_map length_set eq_nil_of_length_eq_zero range_succ map_congr_left length_append drop_of_length_le take_of_length_le getD_eq_getElem?_getD mem_singleton length_take length_drop take_succ_eq_append_getElem take_add_one not_mem_nil map_append take_left' length_replicate drop_left' flatMap_cons length_range getElem_range flatMap_append length_singleton)
set_option linter.unusedVariables false
set_option linter.unusedSimpArgs false
namespace Go.Proofs.YtplgodmmmppmeaaGreat
/- Frames:plain,and the contracts of the package frame. -/
namespace V
open Go Go.Proofs Go.RowKit Crc
abbrev Fra:=UInt8×Nat×ByteArray
def vY:Fra:=(0,0,ByteArray.empty)
def fT (f:Fra):Int×Int×ByteArray×Unit:=((f.1.toNat:Int),(f.2.1:Int),f.2.2,())
def fV (f:Fra):List Value:=[.int .u8 (f.1.toNat:Int),.int .u64 (f.2.1:Int),.string f.2.2]
theorem zkd (f:Fra):∀ v∈fV f,v.oneCell'=true:=by
 intro v hv;simp only [fV,mem_cons,not_mem_nil,or_false]at hv;rcases hv with rfl|rfl|rfl<;>rfl
def kr (f:Fra):List UInt8:=[f.1,0]++le 2 (B f.2.2).length++le 8 f.2.1
def xL (size:Nat) (f:Fra):List UInt8:=kr f++B f.2.2++List.replicate (size-16-(B f.2.2).length) 0
def yz (size:Nat) (f:Fra):List UInt8:=xL size f++le 4 (crc (xL size f)).toNat
def xp (size:Int) (f:Fra):List UInt8×Int:=if zD size=0 then ([],2) else if ((B f.2.2).length:Int)>zD size then ([],3) else (yz size.toNat f,0)
def xj (bs:List UInt8):Fra:=(bs.getD 0 0,lev ((bs.drop 4).take 8),⟨((bs.drop 12).take (lev ((bs.drop 2).take 2))).toArray⟩)
def yo (bs:List UInt8):Fra×Int:=
 if zD bs.length=0 then (vY,2)
 else if (crc (bs.take (bs.length-4))).toNat≠lev (bs.drop (bs.length-4)) then (vY,10)
 else if (lev ((bs.drop 2).take 2):Int)>zD bs.length then (vY,4)
 else if xp bs.length (xj bs)=(bs,0) then (xj bs,0) else (vY,4)
def zaa (bs:List UInt8) (tag:UInt8):Fra×Int:=if (yo bs).2=0/\(yo bs).1.1≠tag then (vY,11) else yo bs
theorem uG (f:Fra):(kr f).length=12:=by simp[kr,zv]
theorem uH {size:Nat} {f:Fra} (h:(B f.2.2).length+16<=size):(xL size f).length=size-4:=by
 simp only [xL,length_append,uG,length_replicate];omega
theorem j9 {size:Nat} {f:Fra} (h:(B f.2.2).length+16<=size):(yz size f).length=size:=by
 simp only [yz,length_append,uH h,zv];omega
theorem uI (size:Int):zD size=0\/(zD size=size-16/\128<=size/\size<=4096/\zW size 8=true):=by
 unfold zD;cases h:zW size 8 with
 |false=>left;rfl
 |true=>
  right;have h2:=h;unfold zW at h2;have h2:=of_decide_eq_true h2;exact⟨rfl,by omega,by omega,rfl⟩
theorem zeQ {size:Int} {f:Fra} (h:(xp size f).2=0):zD size=size-16/\128<=size/\size<=4096/\(B f.2.2).length+16<=size.toNat/\(xp size f).1=yz size.toNat f:=by
 unfold xp at h ⊢;rcases uI size with h0|⟨h0,h1,h2,_⟩
 ·rw[if_pos h0]at h;cases h
 ·rw[if_neg (by omega)]at h ⊢;split at h
  ·cases h
  ·rename_i hr;rw[if_neg hr];exact⟨h0,h1,h2,by omega,rfl⟩
theorem zis {n:Nat} (h:n<65536):lev (le 2 n)=n:=by rw[uD];omega
theorem zit {n:Nat} (h:n<18446744073709551616):lev (le 8 n)=n:=by rw[uD];omega
theorem zfp {size:Nat} {f:Fra} (hr:zD size=(size:Int)-16) (h1:128<=size) (h2:size<=4096) (hd:(B f.2.2).length+16<=size) (hg:f.2.1<18446744073709551616):yo (yz size f)=(f,0):=by
 have hlen:=j9 hd;have hbl:=uH hd;have hlt:=(crc (xL size f)).isLt;have e1:(yz size f).take (size-4)=xL size f:=by unfold yz;rw[take_left' hbl]
 have e2:(yz size f).drop (size-4)=le 4 (crc (xL size f)).toNat:=by unfold yz;rw[drop_left' hbl]
 have e3:lev (le 4 (crc (xL size f)).toNat)=(crc (xL size f)).toNat:=by rw[uD];omega
 have epre:yz size f=[f.1,0]++(le 2 (B f.2.2).length++(le 8 f.2.1++(B f.2.2++(List.replicate (size-16-(B f.2.2).length) 0++le 4 (crc (xL size f)).toNat)))):=by
  simp[yz,xL,kr]
 have e4:((yz size f).drop 2).take 2=le 2 (B f.2.2).length:=by
  rw[epre,drop_left' (i:=2) (l₁:=[f.1,0]) (show [f.1,0].length=2 from rfl),take_left' (zv _ _)]
 have e5:((yz size f).drop 4).take 8=le 8 f.2.1:=by
  rw[epre,<- append_assoc,drop_left' (by simp[zv]),take_left' (zv _ _)]
 have e6:((yz size f).drop 12).take (B f.2.2).length=B f.2.2:=by
  rw[epre,<- append_assoc,<- append_assoc,drop_left' (by simp[zv]),take_left' rfl]
 have e7:(yz size f).getD 0 0=f.1:=by rw[epre];rfl
 have e8:lev (((yz size f).drop 2).take 2)=(B f.2.2).length:=by rw[e4];exact zis (by omega)
 have ef:xj (yz size f)=f:=by
  unfold xj;rw[e8,e6,e7,e5,zit hg];rfl
 unfold yo;rw[hlen,e1,e2,e3,e8,ef,if_neg (by omega),if_neg (by simp),if_neg (by omega)];have:xp size f=(yz size f,0):=by
  unfold xp;rw[if_neg (by omega),if_neg (by omega),Int.toNat_natCast]
 rw[if_pos this]
theorem um {bs:List UInt8} (h:(yo bs).2=0):(yo bs).1=xj bs/\xp bs.length (xj bs)=(bs,0):=by
 unfold yo at h ⊢;split at h
 ·cases h
 ·split at h
  ·cases h
  ·split at h
   ·cases h
   ·split at h
    ·rename_i h1 h2 h3 h4;rw[if_neg h1,if_neg h2,if_neg h3,if_pos h4];exact⟨rfl,h4⟩
    ·cases h
theorem zmr {bs:List UInt8} (h:(yo bs).2≠0):(yo bs).1=vY:=by
 unfold yo at h ⊢;split
 ·rfl
 ·split
  ·rfl
  ·split
   ·rfl
   ·split
    ·rename_i h1 h2 h3 h4;rw[if_neg h1,if_neg h2,if_neg h3,if_pos h4]at h;exact absurd rfl h
    ·rfl
theorem zd8 (bs:List UInt8):(xj bs).2.1<18446744073709551616:=by
 have h:=jA ((bs.drop 4).take 8);have h2:((bs.drop 4).take 8).length<=8:=by simp;omega
 have:256 ^ ((bs.drop 4).take 8).length<=256 ^ 8:=Nat.pow_le_pow_right (by omega) h2;unfold xj;dsimp only;omega
theorem zms (bs:List UInt8):(yo bs).1.2.1<18446744073709551616:=by
 by_cases h:(yo bs).2=0
 ·rw[(um h).1];exact zd8 bs
 ·rw[zmr h];decide
theorem uJ {w:World} {b o n c v k:Nat} {cs:List Value} {t:TypeId} (hb:Blk w b cs t) (ho:o+c<=cs.length) (hn:n+k<=c) (hc:c<=9223372036854775000) (hv:v<18446744073709551616) (hk1:1<=k) (hk:k<=8):
  Calls prog 42 #[.slice (some ⟨b,o,none⟩) n c,.int .u64 (v:Int),.int .i64 (k:Int)] w (Ret fun r w'=>r=.slice (some ⟨b,o,none⟩) (n+k) c/\Blk w' b (cs.take (o+n)++bV (le k v)++cs.drop (o+n+k)) t/\w.grownBy w' (some b)):=by
 apply zim;unfold S42;refine zd (decide_eq_false (by omega)) ?_;refine zd (decide_eq_false (by omega)) ?_;refine zz (fun x w'=>∃ i:Nat,i<=k/\x=((some ⟨b,o,none⟩,n+i,c),(i:Int),())/\Blk w' b (cs.take (o+n)++bV (le i v)++cs.drop (o+n+i)) t/\w.grownBy w' (some b)) (fun x=>(k-x.2.1).toNat)
  ⟨0,by omega,rfl,by simpa [le,bV] using hb,xD _ _⟩ ?_
 rintro _ w' ⟨i,hi,rfl,hbi,hg⟩;dsimp only;have hlen:(cs.take (o+n)++bV (le i v)++cs.drop (o+n+i)).length=cs.length:=by
  simp only [length_append,length_take,length_drop,yT,zv];omega
 by_cases hlt:i<k
 ·refine zf (decide_eq_true (by omega)) ?_;have e1:wrap .i64 ((8:Int)*(i:Int))=((8*i:Nat):Int):=by
   rw[wrap_i64 (by omega) (by omega)];omega
  rw[e1];refine⟨by omega,?_⟩;rw[zgq .u64 v (8*i) (by simp[IntKind.bits];omega),qh,Nat.pow_mul,show(2:Nat) ^ 8=256 from rfl];refine zbE (ys:=bV [UInt8.ofNat (v / 256 ^ i)]) qy hbi (by omega) (by simp[bV];omega) (by omega) (zaH _) ?_;intro w2 hb2 hg2;refine⟨⟨i+1,by omega,?_,?_,xb hg hg2 (fun j hj=>.inl hj)⟩,?_⟩
  ·rw[wrap_i64 (by omega) (by omega)];rfl
  ·have hpl:(cs.take (o+n)++bV (le i v)).length=o+(n+i):=by
    simp only [length_append,length_take,yT,zv];omega
   have e2:(cs.take (o+n)++bV (le i v)++cs.drop (o+n+i)).take (o+(n+i))=cs.take (o+n)++bV (le i v):=take_left' hpl;have e3:(cs.take (o+n)++bV (le i v)++cs.drop (o+n+i)).drop (o+(n+i)+(bV [UInt8.ofNat (v / 256 ^ i)]).length)=cs.drop (o+n+(i+1)):=by
    rw[<- drop_drop,drop_left' hpl,drop_drop];rfl
   rw[e2,e3]at hb2;rw[le_succ,xg,<- append_assoc];exact hb2
  ·rw[wrap_i64 (by omega) (by omega)];omega
 ·obtain rfl:i=k:=by omega
  refine zd (decide_eq_false (by omega)) ?_;exact⟨rfl,hbi,hg⟩
theorem zbe (w:World) (size:Int) {f:Fra} (hg:f.2.1<18446744073709551616):Calls prog 123 #[.int .i64 size,.agg (fV f).toArray] w (Ret fun v w'=>v=.tuple #[.string ⟨(xp size f).1.toArray⟩,.int .i64 (xp size f).2]/\Ext w w'):=by
 apply zlr;unfold S123 xp;refine zr fun r1 w1 hb1 he1 hr1 _=>?_;refine zb (jj w1 size) ?_;rintro _ w2 ⟨rfl,he2⟩;refine⟨_,rfl,?_⟩;have he2:=he1.trans he2;have hb1:=hb1.ext (by assumption);have hds:=yj f.2.2;rcases uI size with h0|⟨h0,h1,h2,hgeo⟩
 ·rw[h0,if_pos rfl];exact zf (by rfl) ⟨rfl,he2⟩
 rw[if_neg (by omega)];refine zd (by rw[beq_eq_false_iff_ne];omega) ?_;refine zn 2 f.2.2 hb1 (by rfl) ?_;refine zg (fun hlong=>?_) (fun hfit=>?_)
 ·have hlong:=of_decide_eq_true hlong;rw[if_pos (by omega)];exact⟨rfl,he2⟩
 have hfit:=of_decide_eq_false hfit;rw[if_neg (by omega)];obtain⟨sz,rfl⟩:∃ sz:Nat,size=sz:=⟨size.toNat,by omega⟩;rw[Int.toNat_natCast];generalize hd:(B f.2.2).length=d at *;refine za6 (B:=w2.heap.size) qy rfl (Nat.le_refl _) (by omega) (by omega) ?_;intro w3 ho3 hg3;have hrow:Blk w3 w2.heap.size (List.replicate sz (.int .u8 0)) 5:=zdr ho3;have he3:Ext w w3:=he2.none hg3;have h23:Ext w2 w3:=(Ext.refl w2).none hg3;have hb1:=hb1.ext h23;have hsz:=he2.size;have hr1lt:=he1.size;have hw1:r1<w2.heap.size:=by have:=(hb1).lt;have:=he2.size;have hh:w1.heap.size<=w2.heap.size:=(by assumption:Ext w1 w2).size;omega
 generalize hbb:w2.heap.size=b at *;have ez:(List.replicate sz (Value.int .u8 0))=bV (List.replicate sz 0):=by simp[bV]
 rw[ez]at hrow;refine zM fun w4 he4 _ _=>?_;have hrow:=hrow.ext he4;have hb1:=hb1.ext he4;have he4:=he3.trans he4;refine zK ⟨by omega,by omega,by dsimp only;omega⟩ ?_;refine zF (f.1.toNat:Int) hb1 (by rfl) ?_;have hcut:zm (some (aD b)) 0 (Int.toNat 12) 1=some ⟨b,0,none⟩:=rfl;dsimp only;rw[hcut,show Int.toNat 0=0 from rfl,show Int.toNat 12=12 from rfl];have e0:#[Value.int .u8 (f.1.toNat:Int),Value.int .u8 0]=(bV [f.1,0]).toArray:=rfl;rw[e0];have grow:∀ {w' w'':World},Ext w w'->w'.grownBy w'' (some b)->Ext w w'':=fun he hg=>he.grown hg (fun j hj=>by injection hj with hj;omega);have keep:∀ {w' w'':World} {cs:List Value} {t:TypeId},Blk w' r1 cs t->w'.grownBy w'' (some b)->Blk w'' r1 cs t:=fun h hg=>h.grown hg (by simp;omega);have hrl:∀ k:Nat,(bV (List.replicate k (0:UInt8))).length=k:=fun k=>by rw[yT,length_replicate]
 refine zbE (ys:=bV [f.1,0]) (n:=0) (c:=12) qy hrow (by rw[hrl];omega) (by simp[bV]) (by omega) (zaH _) ?_;intro w5 hrow5 hg5;have he5:=grow he4 hg5;have hb1:=keep hb1 hg5;have s5:(bV (List.replicate sz (0:UInt8))).take (0+0)++bV [f.1,0]++(bV (List.replicate sz (0:UInt8))).drop (0+0+(bV [f.1,0]).length)=bV ([f.1,0]++List.replicate (sz-2) 0):=by
  rw[xg];simp[bV]
 rw[s5]at hrow5;dsimp only;refine zn 2 f.2.2 hb1 (by rfl) ?_;rw[hds,zx (by omega)];refine zb (uJ (o:=0) (n:=0+(bV [f.1,0]).length) (c:=12) (k:=2) hrow5 (by rw[yT];simp;omega) (by simp[bV]) (by omega) (by omega) (by omega) (by omega)) ?_;rintro _ w6 ⟨rfl,hrow6,hg6⟩;refine⟨(some ⟨b,0,none⟩,0+(bV [f.1,0]).length+2,12),rfl,?_⟩;have he6:=grow he5 hg6;have hb1:=keep hb1 hg6;have s6:(bV ([f.1,0]++List.replicate (sz-2) 0)).take (0+(0+(bV [f.1,0]).length))++bV (le 2 d)++(bV ([f.1,0]++List.replicate (sz-2) 0)).drop (0+(0+(bV [f.1,0]).length)+2)=bV (([f.1,0]++le 2 d)++List.replicate (sz-2-2) 0):=by
  have:=zd6 [f.1,0] (le 2 d) (sz-2) (by rw[zv];omega);rw[zv]at this;rw[qZ,vp,<- xg,<- xg];exact congrArg bV this
 rw[s6]at hrow6;dsimp only;refine zn 1 (f.2.1:Int) hb1 (by rfl) ?_;refine zb (uJ (o:=0) (c:=12) (k:=8) hrow6 (by rw[yT];simp[zv];omega) (by simp[bV]) (by omega) hg (by omega) (by omega)) ?_;rintro _ w7 ⟨rfl,hrow7,hg7⟩;refine⟨(some ⟨b,0,none⟩,0+(bV [f.1,0]).length+2+8,12),rfl,?_⟩;have he7:=grow he6 hg7;have hb1:=keep hb1 hg7;have s7:(bV (([f.1,0]++le 2 d)++List.replicate (sz-2-2) 0)).take (0+(0+(bV [f.1,0]).length+2))++bV (le 8 f.2.1)++(bV (([f.1,0]++le 2 d)++List.replicate (sz-2-2) 0)).drop (0+(0+(bV [f.1,0]).length+2)+8)=bV (kr f++List.replicate (sz-12) 0):=by
  have:=zd6 ([f.1,0]++le 2 d) (le 8 f.2.1) (sz-2-2) (by rw[zv];omega);rw[zv]at this;have hh:kr f=[f.1,0]++le 2 d++le 8 f.2.1:=by unfold kr;rw[hd]
  have hl4:([f.1,0]++le 2 d).length=4:=by simp[zv]
  rw[hl4]at this;rw[hh,show sz-12=sz-2-2-8 by omega,<- this,qZ,vp,<- xg,<- xg];rfl
 rw[s7]at hrow7;refine zM fun w8 he8 _ _=>?_;have hrow8:=hrow7.ext he8;have hb1:=hb1.ext he8;have he8:=he7.trans he8;refine zK ⟨by omega,by omega⟩ ?_;refine zn 2 f.2.2 hb1 (by rfl) ?_;have hcut2:zm (some (aD b)) 12 sz 1=some ⟨b,12,none⟩:=by
  unfold zm;rw[if_neg (by show ¬sz=12;omega)];show some ((aD b).add 12)=_;rw[zy,Nat.zero_add]
 rw[hcut2];refine zlc qy hrow8 (by rw[yT,length_append,uG,length_replicate];omega) ?_;intro w9 hrow9 hg9;have he9:=grow he8 hg9;have s9:(bV (kr f++List.replicate (sz-12) 0)).take 12++bV ((B f.2.2).take (sz-12))++(bV (kr f++List.replicate (sz-12) 0)).drop (12+min (B f.2.2).length (sz-12))=bV (xL sz f++List.replicate 4 0):=by
  have:=zd6 (kr f) (B f.2.2) (sz-12) (by omega);rw[uG]at this;rw[take_of_length_le (show(B f.2.2).length<=sz-12 by omega),Nat.min_eq_left (by omega),qZ,vp,<- xg,<- xg,this];congr 1;unfold xL;rw[append_assoc (kr f++B f.2.2),hd,List.replicate_append_replicate];congr 2;omega
 rw[s9]at hrow9;have hbody:(xL sz f).length=sz-4:=uH (by omega);refine zM fun w10 he10 _ _=>?_;have hrow10:=hrow9.ext he10;have he10:=he9.trans he10;rw[wrap_i64 (x:=(sz:Int)-4) (by omega) (by omega),show Int.toNat ((sz:Int)-4)=sz-4 by omega];refine zK ⟨by omega,by omega,by omega,by omega⟩ (zK ⟨by omega,by omega⟩ ?_);have hsl:Sl w10 (zm (some ⟨b,0,none⟩) 0 sz 1) (sz-4) (bV (xL sz f)):=by
  have:=(Sl.xC hrow10 (n:=sz) (by rw[yT,length_append,hbody,length_replicate];omega) (by omega)).zeM (k:=sz-4) (m:=sz) (by omega) (by omega);rw[qZ,take_left' hbody]at this;exact this
 refine zb (zfo hsl) ?_;rintro _ w11 ⟨rfl,he11⟩;refine⟨_,rfl,?_⟩;have hrow11:=hrow10.ext he11;have he11:=he10.trans he11;have hclt:=(crc (xL sz f)).isLt;rw[zx (by omega)];have hcut3:zm (some (aD b)) (sz-4) sz 1=some ⟨b,sz-4,none⟩:=by
  unfold zm;rw[if_neg (by omega)];show some ((aD b).add ((sz-4)*1))=_;rw[zy,Nat.zero_add,Nat.mul_one]
 rw[hcut3,Nat.sub_self,show sz-(sz-4)=4 by omega];refine zb (uJ (o:=sz-4) (n:=0) (c:=4) (k:=4) hrow11 (by rw[yT,length_append,hbody,length_replicate];omega) (by omega) (by omega) (by omega) (by omega) (by omega)) ?_;rintro _ w12 ⟨rfl,hrow12,hg12⟩;refine⟨(some ⟨b,sz-4,none⟩,0+4,4),rfl,?_⟩;have he12:=grow he11 hg12;have s12:(bV (xL sz f++List.replicate 4 0)).take (sz-4+0)++bV (le 4 (crc (xL sz f)).toNat)++(bV (xL sz f++List.replicate 4 0)).drop (sz-4+0+4)=bV (yz sz f):=by
  have:=zd6 (xL sz f) (le 4 (crc (xL sz f)).toNat) 4 (by rw[zv];omega);rw[hbody,zv]at this;rw[qZ,vp,<- xg,<- xg,Nat.add_zero,this];simp[yz]
 rw[s12]at hrow12;refine qO (e:=5) (by kernel_rfl) (by kernel_rfl) (by kernel_rfl) (Sl.xC hrow12 (by rw[yT,j9 (by omega)]) (by omega)) ?_;exact⟨rfl,he12⟩
end V
/- Contracts of the package frame,and of the document's answer (4). -/
namespace V
open Go Go.Proofs Go.RowKit Crc
abbrev fLs:List Lf:=[.int .u8,.int .u64,.str]
theorem zmt {w:World} {r:Nat} {cs:List Value} {t:TypeId} {f:Fra} {K:(Int×Int×ByteArray×Unit)->WP} {us:Array Value} (hb:Blk w r cs t) (hl:cs.length=3) (hu:us.size=3)
  (hK:∀ w',Blk w' r (fV f) t->(∀ w0,Ext w0 w->w0.heap.size<=r->Ext w0 w')->(∀ k:Nat,k≠r->w'.heap[k]?=w.heap[k]?)->w'.heap.size=w.heap.size->K (fT f) w'):
  (zc (us.size=3)<|zt (aD r) (fV f)<|zk fLs (aD r) K) w:=
 refill (vs:=fV f) hb (by rw[hl];rfl) (zkd f) hu fun w' hb' hx hs hz=>zZ (ls:=fLs) (fT f) hb' rfl (hK w' hb' hx hs hz)
theorem zpD {w:World} {r:Nat} {t:TypeId} {f:Fra} {K:(Int×Int×ByteArray×Unit)->WP} (hb:Blk w r (fV f) t)
  (hK:∀ w',(∀ w0,Ext w0 w->w0.heap.size<=r->Ext w0 w')->K (fT f) w'):
  (zk fLs (aD r) fun(u:Int×Int×ByteArray×Unit)=>zc ((#[(.int .u8 u.1),(.int .u64 u.2.1),(.string u.2.2.1)]:Array Value).size=3)<|zt (aD r) [(.int .u8 u.1),(.int .u64 u.2.1),(.string u.2.2.1)]<|zk fLs (aD r) K) w:=
 zZ (ls:=fLs) (fT f) hb rfl (zmt (f:=f) hb rfl rfl fun w' _ hx _ _=>hK w' hx)
theorem boxed {w:World} {t:TypeId} {f:Fra} {K:Nat->WP} (hK:∀ r w',Blk w' r (fV f) t->Ext w w'->w.heap.size<=r->K r w'):
  (zh (.cells #[(.int .u8 (0:Int)),(.int .u64 (0:Int)),(.string ByteArray.empty)] t) fun r=>zc ((#[(.int .u8 (fT f).1),(.int .u64 (fT f).2.1),(.string (fT f).2.2.1)]:Array Value).size=3)<|zt (aD r) [(.int .u8 (fT f).1),(.int .u64 (fT f).2.1),(.string (fT f).2.2.1)] (K r)) w:=
 yn (vs:=fV f) (by rfl) (zkd f) (fun r w' hb he hr=>hK r w' hb he hr) (by rfl)
theorem zpo {w:World} {A:Option Addr} {n:Nat} {bs:List UInt8} {a:Addr} {K:WP} (h:Sl w A n (bV bs)) (hA:A=some a) (hn:0<n) (hK:K w):zq [[((a.add (Int.toNat (0:Int)*1)),(.int .u8 ((bs.getD 0 0).toNat:Int)))]] K w:=by
 refine⟨fun l hl p hp=>?_,hK⟩;simp only [mem_singleton]at hl;subst hl;simp only [mem_singleton]at hp;subst hp;have hl:=h.blen;obtain⟨a',e,hc⟩:=h.2.2 hn;rw[hA]at e;injection e with e
 subst e;have:=hc 0 (.int .u8 ((bs.getD 0 0).toNat:Int)) (by simp[bV,show 0<bs.length by omega]);exact this
structure Looks (w:World) (A:Option Addr) (n c:Nat) (bs:List UInt8):Prop where
 sl:Sl w A n (bV bs)
 nc:n<=c
 big:128<=n/\n<=4096
theorem Looks.body {w:World} {A:Option Addr} {n c:Nat} {bs:List UInt8} (h:Looks w A n c bs):Sl w (zm A 0 c 1) (n-4) (bV (bs.take (bs.length-4))):=by
 have:=h.sl.zeM (k:=n-4) (m:=c) (by have:=h.big;omega) (by have:=h.big;have:=h.nc;omega);rw[qZ]at this;rw[h.sl.blen];exact this
theorem Looks.part {w:World} {A:Option Addr} {n c:Nat} {bs:List UInt8} (h:Looks w A n c bs) {l k:Nat} (hl:l+k<=n) (hk:0<k):Sl w (zm A l c 1) k (bV ((bs.drop l).take k)):=by
 have:=h.sl.cut (l:=l) (k:=k) (m:=c) (by omega) (by have:=h.nc;omega);rw[vp,qZ]at this;exact this
theorem Looks.tail {w:World} {A:Option Addr} {n c:Nat} {bs:List UInt8} (h:Looks w A n c bs):Sl w (zm A (n-4) c 1) (n-(n-4)) (bV (bs.drop (bs.length-4))):=by
 have:=h.part (l:=n-4) (k:=n-(n-4)) (by have:=h.big;omega) (by have:=h.big;omega);have hl:=h.sl.blen;rw[take_of_length_le (by simp;have:=h.big;omega)]at this;rw[hl];exact this
theorem Looks.ext {w w':World} {A:Option Addr} {n c:Nat} {bs:List UInt8} (h:Looks w A n c bs) (he:Ext w w'):Looks w' A n c bs:=⟨h.sl.ext he,h.nc,h.big⟩
theorem zoZ {bs:List UInt8} (h:zD bs.length=0):yo bs=(vY,2):=by unfold yo;rw[if_pos h]
theorem zok {bs:List UInt8} (h:zD bs.length≠0) (h1:(crc (bs.take (bs.length-4))).toNat≠lev (bs.drop (bs.length-4))):yo bs=(vY,10):=by unfold yo;rw[if_neg h,if_pos h1]
theorem zo0 {bs:List UInt8} (h:zD bs.length≠0) (h1:(crc (bs.take (bs.length-4))).toNat=lev (bs.drop (bs.length-4))) (h2:(lev ((bs.drop 2).take 2):Int)>zD bs.length):yo bs=(vY,4):=by unfold yo;rw[if_neg h,if_neg (by simp[h1]),if_pos h2]
theorem zol {bs:List UInt8} (h:zD bs.length≠0) (h1:(crc (bs.take (bs.length-4))).toNat=lev (bs.drop (bs.length-4))) (h2:¬(lev ((bs.drop 2).take 2):Int)>zD bs.length) (h3:xp bs.length (xj bs)≠(bs,0)):yo bs=(vY,4):=by unfold yo;rw[if_neg h,if_neg (by simp[h1]),if_neg h2,if_neg h3]
theorem zo1 {bs:List UInt8} (h:zD bs.length≠0) (h1:(crc (bs.take (bs.length-4))).toNat=lev (bs.drop (bs.length-4))) (h2:¬(lev ((bs.drop 2).take 2):Int)>zD bs.length) (h3:xp bs.length (xj bs)=(bs,0)):yo bs=(xj bs,0):=by unfold yo;rw[if_neg h,if_neg (by simp[h1]),if_neg h2,if_pos h3]
theorem zcE {bs:List UInt8} (h:bs.length<=4):lev bs<4294967296:=by
 have:=jA bs;have:256 ^ bs.length<=256 ^ 4:=Nat.pow_le_pow_right (by omega) h;omega
theorem zi7 (w:World) (s:ByteArray) (hs:s.size<=9223372036854775807):Calls prog 174 #[.string s] w (Ret fun v w'=>v=.tuple #[.agg (fV (yo (B s)).1).toArray,.int .i64 (yo (B s)).2]/\Ext w w'):=by
 apply zlW;unfold S174;have hsz:=yj s;refine zr fun r1 w1 hb1 he1 hr1 _=>?_;have hb1:Blk w1 r1 (fV vY) 127:=hb1;refine zb (jj w1 (s.size:Nat)) ?_;rintro _ w2 ⟨rfl,he2⟩;refine⟨_,rfl,?_⟩;have hb1:=hb1.ext he2;have he2:=he1.trans he2;have hr1':w.heap.size<=r1:=by omega
 have done:∀ {w':World} {f:Fra} {e:Int},Ext w w'->Blk w' r1 (fV f) 127->yo (B s)=(f,e)->
   (zk fLs (aD r1) fun(u:Int×Int×ByteArray×Unit)=>zc ((#[(.int .u8 u.1),(.int .u64 u.2.1),(.string u.2.2.1)]:Array Value).size=3)<|zt (aD r1) [(.int .u8 u.1),(.int .u64 u.2.1),(.string u.2.2.1)]<|zk fLs (aD r1) fun(u:Int×Int×ByteArray×Unit)=>fun w''=>Value.tuple #[(.agg #[(.int .u8 u.1),(.int .u64 u.2.1),(.string u.2.2.1)]),(.int .i64 e)]=.tuple #[.agg (fV (yo (B s)).1).toArray,.int .i64 (yo (B s)).2]/\Ext w w'') w':=fun {w' f e} he hb hg=>
  zpD hb fun w'' hx=>⟨by rw[hg];rfl,hx w he hr1'⟩
 rw[hsz]at hs ⊢;rcases uI (B s).length with h0|⟨h0,h1,h2,hgeo⟩
 ·rw[h0];exact zf (by rfl) (done he2 hb1 (zoZ h0))
 refine zd (by rw[beq_eq_false_iff_ne];omega) ?_;have hne:zD (B s).length≠0:=by omega
 refine kU (u:=.string) (e:=5) (by kernel_rfl) (by kernel_rfl) (by kernel_rfl) (by omega) ?_;intro c w3 hsl he3 hs3 hc;have hL:Looks w3 (some ⟨w2.heap.size,0,none⟩) s.size c (B s):=⟨hsl,hc,by omega⟩;rw[hsz]at hL;have hb1:=hb1.ext he3;have he3:=he2.trans he3;refine zM fun w4 he4 _ _=>?_;have hL:=hL.ext he4;have hb1:=hb1.ext he4;have he4:=he3.trans he4;dsimp only;rw[hsz];generalize hA:(some (⟨w2.heap.size,0,none⟩:Addr))=A at hL ⊢;rw[wrap_i64 (x:=((B s).length:Int)-4) (by omega) (by omega),show Int.toNat (((B s).length:Int)-4)=(B s).length-4 by omega];refine zK ⟨by omega,by omega⟩ (zK ⟨by omega,by omega⟩ ?_);refine zb (zfo hL.body) ?_;rintro _ w5 ⟨rfl,he5⟩;refine⟨_,rfl,?_⟩;have hL:=hL.ext he5;have hb1:=hb1.ext he5;have he5:=he4.trans he5;refine zb (qP hL.tail (by omega)) ?_;rintro _ w6 ⟨rfl,he6⟩;refine⟨_,rfl,?_⟩;have hL:=hL.ext he6;have hb1:=hb1.ext he6;have he6:=he5.trans he6;have hclt:=(crc ((B s).take ((B s).length-4))).isLt;rw[zx (by omega)];refine zg (fun hbad=>?_) (fun hok=>?_)
 ·have hbad:=bne_iff_ne.1 hbad;exact done he6 hb1 (zok hne (fun e=>hbad (by rw[e])))
 have hok:(crc ((B s).take ((B s).length-4))).toNat=lev ((B s).drop ((B s).length-4)):=by have:=bne_eq_false_iff_eq.1 hok;omega
 refine zK ⟨by omega,by omega,by omega⟩ ?_;have hp2:=hL.part (l:=2) (k:=2) (by omega) (by omega);refine zb (qP (c:=c-Int.toNat 2) hp2 (by omega)) ?_;rintro _ w7 ⟨rfl,he7⟩;refine⟨_,rfl,?_⟩;have hL:=hL.ext he7;have hb1:=hb1.ext he7;have he7:=he6.trans he7;have hk:=zcE (bs:=((B s).drop 2).take 2) (by simp;omega);rw[wrap_i64 (x:=(lev (((B s).drop 2).take 2):Int)) (by omega) (by omega)];refine zg (fun hbig=>?_) (fun hfit=>?_)
 ·exact done he7 hb1 (zo0 hne hok (of_decide_eq_true hbig))
 have hfit:=of_decide_eq_false hfit;refine zM fun w8 he8 _ _=>?_;have hL:=hL.ext he8;have hb1:=hb1.ext he8;have he8:=he7.trans he8;refine zK ⟨by omega,by omega⟩ ?_;obtain⟨a,ha,hcell⟩:=hL.sl.2.2 (by omega);refine⟨a,ha,?_⟩;have h00:w8.cell? (a.add (Int.toNat (0:Int)*1))=some (.int .u8 (((B s).getD 0 0).toNat:Int)):=hcell 0 _ (by simp[bV,show 0<(B s).length by omega]);refine za8 (l:=.int .u8) (x:=(((B s).getD 0 0).toNat:Int)) h00 ?_;rw[wrap_i64 (x:=(12:Int)+_) (by omega) (by omega),show Int.toNat ((12:Int)+(lev (((B s).drop 2).take 2):Int))=12+lev (((B s).drop 2).take 2) by omega];refine zK ⟨by omega,by omega,by have:=hL.nc;omega⟩ (zK ⟨by omega,by omega,by omega⟩ ?_);have hp4:=hL.part (l:=4) (k:=8) (by omega) (by omega);refine zb (qP (c:=c-Int.toNat 4) hp4 (by omega)) ?_;rintro _ w9 ⟨rfl,he9⟩;refine⟨_,rfl,?_⟩;have hL:=hL.ext he9;have hb1:=hb1.ext he9;have he9:=he8.trans he9;refine zpo hL.sl ha (by omega) ?_;have ed:s.extract (Int.toNat 12) (12+lev (((B s).drop 2).take 2))=⟨(((B s).drop 12).take (lev (((B s).drop 2).take 2))).toArray⟩:=by
  apply ko;rw[jC];show((B s).drop 12).take _=_;rw[show Int.toNat 12=12 from rfl,Nat.add_sub_cancel_left,jB];rfl
 rw[ed];refine zmt (f:=xj (B s)) hb1 rfl rfl ?_;intro w10 hb1 hx10 _ _;have he10:=hx10 w he9 hr1';refine zb (zbe w10 ((B s).length:Nat) (f:=xj (B s)) (zd8 _)) ?_;rintro _ w11 ⟨rfl,he11⟩;refine⟨(⟨(xp (B s).length (xj (B s))).1.toArray⟩,(xp (B s).length (xj (B s))).2,()),rfl,?_⟩;have hb1:=hb1.ext he11;have he11:=he10.trans he11;dsimp only;have bad:xp (B s).length (xj (B s))≠(B s,0)->∀ {w':World},Blk w' r1 (fV (xj (B s))) 127->Ext w w'->
   (zc ((#[(.int .u8 (0:Int)),(.int .u64 (0:Int)),(.string ByteArray.empty)]:Array Value).size=3)<|zt (aD r1) [(.int .u8 (0:Int)),(.int .u64 (0:Int)),(.string ByteArray.empty)]<|zk fLs (aD r1) fun(u:Int×Int×ByteArray×Unit)=>fun w''=>Value.tuple #[(.agg #[(.int .u8 u.1),(.int .u64 u.2.1),(.string u.2.2.1)]),(.int .i64 4)]=.tuple #[.agg (fV (yo (B s)).1).toArray,.int .i64 (yo (B s)).2]/\Ext w w'') w':=fun hne2 {w'} hb he=>
  zmt (f:=vY) hb rfl rfl fun w'' _ hx _ _=>⟨by rw[zol hne hok hfit hne2];rfl,hx w he hr1'⟩
 refine zg (fun hz=>?_) (fun hz=>?_)
 ·have hz:=bne_iff_ne.1 hz;exact bad (fun e=>hz (by rw[e])) hb1 he11
 have hz:=bne_eq_false_iff_eq.1 hz;refine zg (fun hq=>?_) (fun hq=>?_)
 ·refine bad (fun e=>?_) hb1 he11;have:((⟨(xp (B s).length (xj (B s))).1.toArray⟩:ByteArray).toList==s.toList)=false:=by simpa using hq
  rw[qx,jB,e]at this;simp at this
 ·have:((⟨(xp (B s).length (xj (B s))).1.toArray⟩:ByteArray).toList==s.toList)=true:=by simpa using hq
  rw[qx,jB]at this;have hps:=of_decide_eq_true this;exact done he11 hb1 (zo1 hne hok hfit (Prod.ext hps hz))
end V
/- Supers:plain. -/
namespace V
open Go Go.Proofs Go.RowKit Crc
structure Sup where
 gen:Nat
 size:Int
 blocks:Int
 root:Nat
 pages:List Nat
deriving DecidableEq
def zmu:Sup:=⟨0,0,0,0,[]⟩
structure Sup.Fits (s:Sup):Prop where
 gen:s.gen<18446744073709551616
 size:-9223372036854775808<=s.size/\s.size<9223372036854775808
 blocks:-9223372036854775808<=s.blocks/\s.blocks<9223372036854775808
 root:s.root<4294967296
 pages:∀ p∈s.pages,p<4294967296
theorem xY {size blocks:Int} (h:zW size blocks=true):zD size=size-16/\128<=size/\size<=4096/\8<=blocks/\blocks<=4096:=by
 unfold zW at h;have h:=of_decide_eq_true h;have h8:zW size 8=true:=by unfold zW;exact decide_eq_true (by omega)
 unfold zD;rw[h8];exact⟨rfl,by omega,by omega,by omega,by omega⟩
def kJ (size blocks:Int):Int:=if zW size blocks=true then (2*blocks+zD size-1) / zD size else 0
theorem zi8 {size blocks:Int}:0<=kJ size blocks/\kJ size blocks<=20000:=by
 unfold kJ;split
 ·rename_i h;obtain⟨h0,h1,h2,h3,h4⟩:=xY h;rw[h0];have:=Int.ediv_le_self (a:=2*blocks+(size-16)-1) (size-16) (by omega);have:=Int.ediv_nonneg (a:=2*blocks+(size-16)-1) (b:=size-16) (by omega) (by omega);omega
 ·omega
def vO (blocks:Int) (n:Nat):Bool:=decide (2<=n/\(n:Int)<blocks)
def Sup.good (s:Sup) (j:Nat):Prop:=vO s.blocks (s.pages.getD j 0)=true/\s.pages.getD j 0≠s.root/\s.pages.getD j 0∉s.pages.take j
instance (s:Sup) (j:Nat):Decidable (s.good j):=by unfold Sup.good;infer_instance
def Sup.head (s:Sup):Prop:=zW s.size s.blocks=true/\s.gen≠0/\(s.root=0\/vO s.blocks s.root=true)/\(s.pages.length:Int)=kJ s.size s.blocks
instance (s:Sup):Decidable s.head:=by unfold Sup.head;infer_instance
def chk (s:Sup):Int:=if s.head then (if ∀ j,j<s.pages.length->s.good j then (if 14+4*(s.pages.length:Int)>zD s.size then 3 else 0) else 2) else 2
theorem zmv {s:Sup} (h:¬s.head):chk s=2:=by unfold chk;rw[if_neg h]
theorem zeR {s:Sup} {j:Nat} (hj:j<s.pages.length) (h:¬s.good j):chk s=2:=by
 unfold chk;split
 ·rw[if_neg (fun hh=>h (hh j hj))]
 ·rfl
theorem zgD {s:Sup} (h:s.head) (hg:∀ j,j<s.pages.length->s.good j):chk s=if 14+4*(s.pages.length:Int)>zD s.size then 3 else 0:=by
 unfold chk;rw[if_pos h,if_pos hg]
theorem zaO {s:Sup} (h:chk s=0):s.head/\(∀ j,j<s.pages.length->s.good j)/\14+4*(s.pages.length:Int)<=zD s.size:=by
 unfold chk at h;split at h
 ·rename_i h1;split at h
  ·rename_i h2;split at h
   ·cases h
   ·exact⟨h1,h2,by omega⟩
  ·cases h
 ·cases h
def yv (ps:List Nat):List UInt8:=ps.flatMap (le 4)
theorem xn (ps:List Nat):(yv ps).length=4*ps.length:=by
 induction ps with
 |nil=>rfl
 |cons p r ih=>simp only [yv,flatMap_cons,length_append,zv,length_cons]at ih ⊢;omega
def zbf (s:Sup):List UInt8:=le 4 s.size.toNat++le 4 s.blocks.toNat++le 4 s.root++le 2 s.pages.length
def qU (s:Sup):List UInt8:=zbf s++yv s.pages
theorem zb6 (s:Sup):(zbf s).length=14:=by simp[zbf,zv]
theorem jD (s:Sup):(qU s).length=14+4*s.pages.length:=by rw[qU,length_append,zb6,xn]
def vr (s:Sup):Fra:=(1,s.gen,⟨(qU s).toArray⟩)
def xz (s:Sup):List UInt8×Int:=if chk s=0 then xp s.size (vr s) else ([],chk s)
theorem zgE {s:Sup} (h:chk s≠0):xz s=([],chk s):=if_neg h
theorem kK {s:Sup} (h:chk s=0):xz s=(yz s.size.toNat (vr s),0):=by
 obtain⟨h1,h2,h3⟩:=zaO h;obtain⟨g0,g1,g2,g3,g4⟩:=xY h1.1;unfold xz xp;have hl:((B (vr s).2.2).length:Int)=14+4*s.pages.length:=by
  show((B ⟨(qU s).toArray⟩).length:Int)=_;rw[jB,jD];omega
 rw[if_pos h,if_neg (by omega),if_neg (by omega)]
theorem ziu {s:Sup} (h:(xz s).2=0):chk s=0:=by
 by_cases h1:chk s=0
 ·exact h1
 ·rw[zgE h1]at h;exact h
theorem zab (s:Sup):B (vr s).2.2=qU s:=jB _
theorem zcZ {s:Sup} (h:chk s=0):((xz s).1.length:Int)=s.size/\128<=s.size/\s.size<=4096:=by
 rw[kK h];obtain⟨h1,h2,h3⟩:=zaO h;obtain⟨g0,g1,g2,g3,g4⟩:=xY h1.1;have:=j9 (size:=s.size.toNat) (f:=vr s) (by rw[zab,jD];omega);dsimp only;omega
theorem zke {s:Sup} (h:chk s=0) (hg:s.gen<18446744073709551616):zaa (xz s).1 1=(vr s,0):=by
 rw[kK h];obtain⟨h1,h2,h3⟩:=zaO h;obtain⟨g0,g1,g2,g3,g4⟩:=xY h1.1;have hget:=zfp (size:=s.size.toNat) (f:=vr s) (by rw[Int.toNat_of_nonneg (by omega)];exact g0) (by omega) (by omega) (by rw[zab,jD];omega) hg;unfold zaa;rw[hget,if_neg (by rintro⟨_,h⟩;exact h rfl)]
def yJ (n:Nat) (bs:List UInt8):List Nat:=(List.range n).map fun i=>lev ((bs.drop (4*i)).take 4)
theorem zeS (n:Nat) (bs:List UInt8):(yJ n bs).length=n:=by simp[yJ]
theorem zgF (n:Nat) (bs:List UInt8):yJ (n+1) bs=yJ n bs++[lev ((bs.drop (4*n)).take 4)]:=by simp[yJ,range_succ]
theorem zi9 (n:Nat) (bs:List UInt8):∀ p∈yJ n bs,p<4294967296:=by
 intro p hp;simp only [yJ,mem_map]at hp;obtain⟨i,_,rfl⟩:=hp;exact zcE (by rw[length_take];omega)
theorem zgG {n:Nat} (h:n<4294967296):lev (le 4 n)=n:=by rw[uD];omega
theorem vt:∀ (ps:List Nat),(∀ p∈ps,p<4294967296)->yJ ps.length (yv ps)=ps
 |[],_=>rfl
 |p::r,h=>by
  have ih:=vt r (fun q hq=>h q (mem_cons_of_mem _ hq));have e:yv (p::r)=le 4 p++yv r:=rfl;unfold yJ at ih ⊢;rw[length_cons,List.range_succ_eq_map,map_cons,map_map,e];congr 1
  ·rw[Nat.mul_zero,List.drop_zero,take_left' (zv 4 p)];exact zgG (h p mem_cons_self)
def zdu (f:Fra):Sup:=⟨f.2.1,lev ((B f.2.2).take 4),lev (((B f.2.2).drop 4).take 4),lev (((B f.2.2).drop 8).take 4),yJ (((B f.2.2).length-14) / 4) ((B f.2.2).drop 14)⟩
theorem zhG (s:Sup):(qU s).take 4=le 4 s.size.toNat/\((qU s).drop 4).take 4=le 4 s.blocks.toNat/\((qU s).drop 8).take 4=le 4 s.root/\((qU s).drop 12).take 2=le 2 s.pages.length/\(qU s).drop 14=yv s.pages:=by
 have e:qU s=le 4 s.size.toNat++(le 4 s.blocks.toNat++(le 4 s.root++(le 2 s.pages.length++yv s.pages))):=by simp[qU,zbf]
 have d4:(qU s).drop 4=le 4 s.blocks.toNat++(le 4 s.root++(le 2 s.pages.length++yv s.pages)):=by rw[e,drop_left' (zv _ _)]
 have d8:(qU s).drop 8=le 4 s.root++(le 2 s.pages.length++yv s.pages):=by rw[show 8=4+4 from rfl,<- drop_drop,d4,drop_left' (zv _ _)]
 have d12:(qU s).drop 12=le 2 s.pages.length++yv s.pages:=by rw[show 12=8+4 from rfl,<- drop_drop,d8,drop_left' (zv _ _)]
 have d14:(qU s).drop 14=yv s.pages:=by rw[show 14=12+2 from rfl,<- drop_drop,d12,drop_left' (zv _ _)]
 refine⟨by rw[e,take_left' (zv _ _)],by rw[d4,take_left' (zv _ _)],by rw[d8,take_left' (zv _ _)],by rw[d12,take_left' (zv _ _)],d14⟩
theorem zmw {s:Sup} (h:chk s=0) (hf:s.Fits):zdu (vr s)=s:=by
 obtain⟨h1,h2,h3⟩:=zaO h;obtain⟨g0,g1,g2,g3,g4⟩:=xY h1.1;obtain⟨p1,p2,p3,p4,p5⟩:=zhG s;unfold zdu;rw[zab,p1,p2,p3,p5,jD,zgG (by omega),zgG (by omega),zgG hf.root,show(14+4*s.pages.length-14) / 4=s.pages.length by omega,vt _ hf.pages];cases s;simp only [vr,Sup.mk.injEq,true_and,and_true];dsimp only at g1 g3;omega
theorem zkf {f:Fra} (h:f.2.1<18446744073709551616):(zdu f).Fits:=by
 have a:∀ l:List UInt8,lev (l.take 4)<4294967296:=fun l=>zcE (by rw[length_take];omega);have a1:=a (B f.2.2);have a2:=a ((B f.2.2).drop 4);exact⟨h,by dsimp only [zdu];omega,by dsimp only [zdu];omega,a _,zi9 _ _⟩
def kC (bs:List UInt8):Sup×Int:=
 if (zaa bs 1).2≠0 then (zmu,(zaa bs 1).2)
 else if (B (zaa bs 1).1.2.2).length<14 then (zmu,4)
 else if xz (zdu (zaa bs 1).1)=(bs,0) then (zdu (zaa bs 1).1,0) else (zmu,4)
theorem zmx {s:Sup} {bs:List UInt8} (hf:s.Fits) (h:xz s=(bs,0)):kC bs=(s,0):=by
 have hc:=ziu (s:=s) (by rw[h]);have hk:=zke hc hf.gen;rw[h]at hk;dsimp only at hk;have hl:=jD s;unfold kC;rw[hk,if_neg (by simp),zab,if_neg (by omega),zmw hc hf,if_pos h]
theorem zom {bs:List UInt8} (h:(kC bs).2=0):xz (kC bs).1=(bs,0)/\(kC bs).1.Fits:=by
 unfold kC at h ⊢;split at h
 ·rename_i h1;exact absurd h h1
 ·rename_i h1;rw[if_neg h1];split at h
  ·cases h
  ·rename_i h2;rw[if_neg h2];split at h
   ·rename_i h3;rw[if_pos h3];refine⟨h3,zkf ?_⟩;unfold zaa;split
    ·decide
    ·exact zms bs
   ·cases h
def other (slot:Int):Int:=if slot=0 then 1 else 0
end V
/- Spaces:plain. -/
namespace V
open Go Go.Proofs Go.RowKit Crc
abbrev Page:=UInt8×List Nat×ByteArray
def yX:Page:=(0,[],ByteArray.empty)
def pgB (p:Page):List UInt8:=le 2 p.2.1.length++(yv p.2.1++B p.2.2)
def ka (d:List UInt8):List Nat:=yJ (lev (d.take 2)) (d.drop 2)
def zaP (N:Nat) (d:List UInt8):Prop:=2<=d.length/\2+4*lev (d.take 2)<=d.length/\∀ n∈ka d,2<=n/\n<N
instance (N:Nat) (d:List UInt8):Decidable (zaP N d):=by unfold zaP;infer_instance
def xQ (N:Nat) (bs:List UInt8):Page×Int:=
 if (yo bs).2=0/\3<=(yo bs).1.1.toNat/\zaP N (B (yo bs).1.2.2) then
  (((yo bs).1.1,ka (B (yo bs).1.2.2),mkB ((B (yo bs).1.2.2).drop (2+4*lev ((B (yo bs).1.2.2).take 2)))),0) else (yX,10)
theorem zja {N size gen:Nat} {p:Page} (hr:zD size=(size:Int)-16) (h1:128<=size) (h2:size<=4096) (hd:(pgB p).length+16<=size) (hg:gen<18446744073709551616)
  (ht:3<=p.1.toNat) (hk:∀ n∈p.2.1,2<=n/\n<N) (hN:N<=4096):xQ N (yz size (p.1,gen,mkB (pgB p)))=(p,0):=by
 have e1:yo (yz size (p.1,gen,mkB (pgB p)))=((p.1,gen,mkB (pgB p)),0):=zfp hr h1 h2 (by rw[show B (p.1,gen,mkB (pgB p)).2.2=pgB p from jB _];exact hd) hg;unfold xQ;rw[e1];dsimp only;rw[show B (mkB (pgB p))=pgB p from jB _];have hl:(pgB p).length=2+(4*p.2.1.length+(B p.2.2).length):=by simp[pgB,zv,xn]
 have hkl:p.2.1.length<65536:=by omega
 have e2:(pgB p).take 2=le 2 p.2.1.length:=by rw[pgB,take_left' (zv _ _)]
 have e3:(pgB p).drop 2=yv p.2.1++B p.2.2:=by rw[pgB,drop_left' (zv _ _)]
 have e4:lev ((pgB p).take 2)=p.2.1.length:=by rw[e2,zis hkl]
 have e5:ka (pgB p)=p.2.1:=by
  unfold ka;rw[e4,e3];have hw:=vt p.2.1 (fun n hn=>by have:=hk n hn;omega);have hcut:∀ (n:Nat) (a b:List UInt8),4*n<=a.length->yJ n (a++b)=yJ n a:=by
   intro n a b hn;unfold yJ;apply map_congr_left;intro i hi;have:=mem_range.1 hi;rw[List.drop_append_of_le_length (by omega),List.take_append_of_le_length (by rw[length_drop];omega)]
  rw[hcut _ _ _ (by rw[xn];omega)];exact hw
 have e6:(pgB p).drop (2+4*p.2.1.length)=B p.2.2:=by
  rw[<- drop_drop,e3,drop_left' (xn _)]
 rw[e4,e5,e6,if_pos ⟨rfl,ht,by rw[hl];omega,by rw[e4,hl];omega,by rw[e5];exact hk⟩];rfl
structure Spa where
 dev:Dev
 sup:Sup
 slot:Int
 held:List Nat
 now:List Nat
 mark:Option (List Nat)
def cnt:Option (List Nat)->Nat->Nat
 |none,_=>0
 |some l,n=>l.getD n 0
namespace Spa
def N (S:Spa):Nat:=S.sup.blocks.toNat
def yx (S:Spa) (n:Nat):Bool:=S.now.getD n 0==0&&S.held.getD n 0==0&&cnt S.mark n==0
def ye (S:Spa):List Nat:=(List.range S.N).filter fun n=>decide (2<=n)&&S.yx n
def zQ (S:Spa):Nat:=S.ye.length
def asked (S:Spa) (n:Nat):Bool:=decide (2<=n)&&(decide (n<S.N)&&!(decide (n∈S.sup.pages)))
def room (S:Spa) (k:Int):Int:=if k<0\/k>(zD S.sup.size-2) / 4 then 0 else zD S.sup.size-2-4*k
def zC (S:Spa):Nat:=(List.range S.now.length).findIdx S.yx
def takeN (S:Spa):Nat:=if S.zC<S.now.length then S.zC else 0
def yP (S:Spa):Int:=if S.zC<S.now.length then 0 else 9
def yQ (S:Spa):List Nat:=if S.zC<S.now.length then S.now.set S.zC 1 else S.now
def page (S:Spa) (n:Nat):Page×Int:=xQ S.N (B (S.dev.read n).1)
def get (S:Spa) (n:Nat):Page×Int:=if S.asked n=false then (yX,2) else if S.now.getD n 0=0 then (yX,8) else S.page n
end Spa
def yp (d:Dev) (k:Int) (f:Fra):Dev×Int:=if (xp d.size f).2≠0 then (d,(xp d.size f).2) else d.write k (mkB (xp d.size f).1)
namespace Spa
def jE (S:Spa) (p:Page):Int:=
 if p.1.toNat<3\/p.2.1.length>65535\/(∃ k∈p.2.1,S.asked k=false) then 2
 else if ∃ k∈p.2.1,S.now.getD k 0=0 then 8
 else if (p.2.1.length:Int)>S.room 0 / 4\/(p.2.2.size:Int)>S.room p.2.1.length then 3
 else if S.zQ<=S.sup.pages.length then 9
 else 0
def frame (S:Spa) (p:Page):Fra:=(p.1,S.sup.gen+1,mkB (pgB p))
def put (S:Spa) (p:Page):Spa×Nat×Int:=
 if S.jE p≠0 then (S,0,S.jE p)
 else if S.yP≠0 then (S,0,S.yP)
 else if (yp S.dev S.takeN (S.frame p)).2≠0 then ({ S with now:=S.yQ,dev:=(yp S.dev S.takeN (S.frame p)).1 },0,(yp S.dev S.takeN (S.frame p)).2)
 else ({ S with now:=S.yQ,dev:=(yp S.dev S.takeN (S.frame p)).1 },S.takeN,0)
end Spa
end V
/- Contracts of the package counts. -/
namespace V
open Go Go.Proofs Go.RowKit
def uV (k:IntKind) (l:List Nat):List Value:=l.map fun(n:Nat)=>Value.int k ((n:Nat):Int)
structure Cnt (w:World) (b r:Nat) (size:Int) (q:List Value) (l:List Nat):Prop where
 head:Blk w b [.int .i64 size,.int .i64 (l.length:Int),.slice (some ⟨r,0,none⟩) l.length (l.length+q.length)] 193
 row:Blk w r (uV .u16 l++q) 194
 ne:b≠r
 len:2<=l.length/\l.length<=4096
 fits:∀ n∈l,n<65536
theorem zkg {k:IntKind} {l:List Nat} {i:Nat} (h:i<l.length):(uV k l)[i]?=some (.int k ((l.getD i 0:Nat):Int)):=by
 simp[uV,h]
theorem vu {k:IntKind} {l:List Nat} {q:List Value} {i:Nat} (h:i<l.length):(uV k l++q)[i]?=some (.int k ((l.getD i 0:Nat):Int)):=by
 rw[List.getElem?_append_left (by simpa [uV] using h),zkg h]
theorem kL (k:IntKind) (l:List Nat):(uV k l).length=l.length:=by simp[uV]
theorem zo2 (k:IntKind) (l:List Nat) (i x:Nat):(uV k l).set i (.int k (x:Int))=uV k (l.set i x):=by simp[uV,List.map_set]
theorem Cnt.ext {w w':World} {b r:Nat} {size:Int} {q:List Value} {l:List Nat} (h:Cnt w b r size q l) (he:Ext w w'):Cnt w' b r size q l:=⟨h.head.ext he,h.row.ext he,h.ne,h.len,h.fits⟩
theorem Cnt.kept {w w':World} {b r k:Nat} {size:Int} {q:List Value} {l:List Nat} (h:Cnt w b r size q l) (hg:w.grownBy w' (some k)) (h1:b≠k) (h2:r≠k):Cnt w' b r size q l:=
 ⟨h.head.grown hg (by simpa using h1),h.row.grown hg (by simpa using h2),h.ne,h.len,h.fits⟩
theorem Cnt.qz {w:World} {b r:Nat} {size:Int} {q:List Value} {l:List Nat} (h:Cnt w b r size q l) (i:Nat):l.getD i 0<65536:=by
 rcases Nat.lt_or_ge i l.length with hi|hi
 ·rw[getD_eq_getElem?_getD,List.getElem?_eq_getElem hi];exact h.fits _ (getElem_mem hi)
 ·rw[getD_eq_getElem?_getD,List.getElem?_eq_none hi];simp
theorem Cnt.set {w:World} {b r i x:Nat} {size:Int} {q:List Value} {l:List Nat} (h:Cnt w b r size q l) (hi:i<l.length) (hx:x<65536):
  Cnt (w.setCell ⟨r,i,none⟩ (.int .u16 (x:Int))) b r size q (l.set i x)/\w.grownBy (w.setCell ⟨r,i,none⟩ (.int .u16 (x:Int))) (some r):=by
 have hs:=h.row.set i (.int .u16 (x:Int));rw[List.set_append_left _ _ (by rw[kL];exact hi),zo2]at hs;refine⟨⟨by rw[length_set];exact h.head.other (fun e=>h.ne e.symm) _,hs,h.ne,by rw[length_set];exact h.len,fun n hn=>?_⟩,⟨rfl,rfl,rfl,by simp,fun k hk hne=>Below.heap_setCell _ _ _ _ (fun e=>hne (by rw[e]))⟩⟩;rcases List.mem_or_eq_of_mem_set hn with h1|h1
 ·exact h.fits n h1
 ·rw[h1];exact hx
theorem zac {w:World} {b r:Nat} {size:Int} {q:List Value} {l:List Nat} (h:Cnt w b r size q l) (n:Nat) (hn:n<4294967296):Calls prog 75 #[.pointer (some ⟨b,0,none⟩),.int .u32 (n:Int)] w (Ret fun v w'=>v=.int .i64 ((l.getD n 0:Nat):Int)/\w'=w):=by
 apply zin;unfold S75;have hl:=h.len;refine zd (by rfl) ?_;refine zs ?_;refine yZ (o:=2) (x:=(some ⟨r,0,none⟩,l.length,l.length+q.length)) h.head (by rfl) ?_;dsimp only;rw[zx (by omega),zx (by omega)];refine zg (fun hh=>?_) (fun hh=>?_)
 ·have hh:=of_decide_eq_true hh;refine⟨?_,rfl⟩;rw[getD_eq_getElem?_getD,List.getElem?_eq_none (by omega)];rfl
 have hh:=of_decide_eq_false hh;refine zs ?_;refine yZ (o:=2) (x:=(some ⟨r,0,none⟩,l.length,l.length+q.length)) h.head (by rfl) ?_;dsimp only;refine zK ⟨by omega,by omega⟩ (zs ?_);rw[Int.toNat_natCast,Nat.mul_one];refine yZ h.row (vu (by omega)) ?_;have:=h.qz n;rw[wrap_i64 (by omega) (by omega)];exact⟨rfl,rfl⟩
theorem zb7 (w:World) (n:Nat):Calls prog 75 #[.pointer none,.int .u32 (n:Int)] w (Ret fun v w'=>v=.int .i64 0/\w'=w):=by
 apply zin;unfold S75;exact zf (by rfl) ⟨rfl,rfl⟩
def atE (l:List Nat) (n:Nat):Int:=if n<2\/l.length<=n then 2 else if l.getD n 0=0 then 8 else 0
def atP (l:List Nat) (n r:Nat):Option Addr:=if atE l n=0 then some ⟨r,n,none⟩ else none
theorem zgH {w:World} {b r:Nat} {size:Int} {q:List Value} {l:List Nat} (h:Cnt w b r size q l) (n:Nat) (hn:n<4294967296):Calls prog 136 #[.pointer (some ⟨b,0,none⟩),.int .u32 (n:Int)] w (Ret fun v w'=>v=.tuple #[.pointer (atP l n r),.int .i64 (atE l n)]/\w'=w):=by
 apply zly;unfold S136 atP atE;have hl:=h.len;refine zd (by rfl) ?_;refine zg (fun hh=>?_) (fun hh=>?_)
 ·have hh:=of_decide_eq_true hh;rw[if_pos (show n<2\/l.length<=n from .inl (by omega))];exact⟨rfl,rfl⟩
 have hh:=of_decide_eq_false hh;refine zs ?_;refine yZ (o:=2) (x:=(some ⟨r,0,none⟩,l.length,l.length+q.length)) h.head (by rfl) ?_;dsimp only;rw[zx (by omega),zx (by omega)];refine zg (fun h2=>?_) (fun h2=>?_)
 ·have h2:=of_decide_eq_true h2;rw[if_pos (show n<2\/l.length<=n from .inr (by omega))];exact⟨rfl,rfl⟩
 have h2:=of_decide_eq_false h2;rw[if_neg (show ¬(n<2\/l.length<=n) by omega)];refine zs ?_;refine yZ (o:=2) (x:=(some ⟨r,0,none⟩,l.length,l.length+q.length)) h.head (by rfl) ?_;dsimp only;refine zK ⟨by omega,by omega⟩ (zs ?_);rw[Int.toNat_natCast,Nat.mul_one];refine yZ h.row (vu (by omega)) ?_;refine zg (fun h3=>?_) (fun h3=>?_)
 ·have h3:l.getD n 0=0:=by rw[beq_iff_eq]at h3;omega
  rw[if_pos h3];exact⟨rfl,rfl⟩
 have h3:¬l.getD n 0=0:=by rw[beq_eq_false_iff_ne]at h3;omega
 rw[if_neg h3];refine zs ?_;refine yZ (o:=2) (x:=(some ⟨r,0,none⟩,l.length,l.length+q.length)) h.head (by rfl) ?_;dsimp only;refine zK ⟨by omega,by omega⟩ (zs ?_);rw[zy,Nat.zero_add];exact⟨rfl,rfl⟩
def xk (l:List Nat) (n:Nat):List Nat:=if atE l n=0 then l.set n (l.getD n 0-1) else l
def zbg (l:List Nat) (n:Nat):Nat:=if atE l n=0 then l.getD n 0-1 else 0
theorem zb8 (l:List Nat) (n:Nat):atE l n=0/\2<=n/\n<l.length/\l.getD n 0≠0\/atE l n=2\/atE l n=8:=by
 unfold atE;split
 ·exact .inr (.inl rfl)
 ·split
  ·exact .inr (.inr rfl)
  ·exact .inl ⟨rfl,by omega,by omega,by assumption⟩
theorem zkh {w:World} {b r:Nat} {size:Int} {q:List Value} {l:List Nat} (h:Cnt w b r size q l) (n:Nat) (hn:n<4294967296):Calls prog 87 #[.pointer (some ⟨b,0,none⟩),.int .u32 (n:Int)] w (Ret fun v w'=>v=.tuple #[.int .i64 (zbg l n:Int),.int .i64 (atE l n)]/\Cnt w' b r size q (xk l n)/\w.grownBy w' (some r)):=by
 apply zod;unfold S87;refine zb (zgH h n hn) ?_;rintro _ w1 ⟨rfl,hw⟩;subst hw;refine⟨(atP l n r,atE l n,()),rfl,?_⟩;dsimp only;rcases zb8 l n with ⟨h0,h2,hl,hne⟩|h0
 ·have hp:atP l n r=some ⟨r,n,none⟩:=by unfold atP;rw[if_pos h0]
  rw[hp,h0];refine zd (by rfl) ?_;have hfit:=h.qz n;have hr:∀ {K:Int->WP},K ((l.getD n 0:Nat):Int) w1->(zi (some (⟨r,n,none⟩:Addr)) fun p=>ldW (.int .u16) p K) w1:=fun {K} hk=>⟨_,rfl,zo h.row (vu hl) hk⟩;refine hr ?_;refine zs ?_;refine zS h.row (by rw[length_append,kL];omega) ?_;rw[show wrap .u16 (((l.getD n 0:Nat):Int)-1)=((l.getD n 0-1:Nat):Int) from by rw[wrap_u16];omega];obtain⟨hc,hg⟩:=h.set (x:=l.getD n 0-1) hl (by omega);refine zs ?_;refine zo hc.row (vu (by rw[length_set];exact hl)) ?_;have e:(l.set n (l.getD n 0-1)).getD n 0=l.getD n 0-1:=by
   rw[getD_eq_getElem?_getD,List.getElem?_set_self hl];rfl
  rw[e,wrap_i64 (by omega) (by omega)];have e1:zbg l n=l.getD n 0-1:=by unfold zbg;rw[if_pos h0]
  have e2:xk l n=l.set n (l.getD n 0-1):=by unfold xk;rw[if_pos h0]
  rw[e1,e2];exact⟨rfl,hc,hg⟩
 ·have hne:atE l n≠0:=by rcases h0 with h0|h0<;>rw[h0]<;>decide
  have e1:zbg l n=0:=by unfold zbg;rw[if_neg hne]
  have e2:xk l n=l:=by unfold xk;rw[if_neg hne]
  rw[e1,e2];refine zf (by simpa using hne) ?_;exact⟨rfl,h,xD _ _⟩
def kX (l:List Nat) (n:Nat):Int:=if atE l n=0 then (if l.getD n 0=65535 then 12 else 0) else atE l n
def vw (l:List Nat) (n:Nat):List Nat:=if kX l n=0 then l.set n (l.getD n 0+1) else l
theorem zki {w:World} {b r:Nat} {size:Int} {q:List Value} {l:List Nat} (h:Cnt w b r size q l) (n:Nat) (hn:n<4294967296):Calls prog 139 #[.pointer (some ⟨b,0,none⟩),.int .u32 (n:Int)] w (Ret fun v w'=>v=.int .i64 (kX l n)/\Cnt w' b r size q (vw l n)/\w.grownBy w' (some r)):=by
 apply zlB;unfold S139;refine zb (zgH h n hn) ?_;rintro _ w1 ⟨rfl,hw⟩;subst hw;refine⟨(atP l n r,atE l n,()),rfl,?_⟩;dsimp only;rcases zb8 l n with ⟨h0,h2,hl,hne⟩|h0
 ·have hp:atP l n r=some ⟨r,n,none⟩:=by unfold atP;rw[if_pos h0]
  rw[hp,h0];refine zd (by rfl) ?_;have hfit:=h.qz n;refine zs ?_;refine zo h.row (vu hl) ?_;refine zg (fun hm=>?_) (fun hm=>?_)
  ·have hm:l.getD n 0=65535:=by rw[beq_iff_eq]at hm;omega
   have e1:kX l n=12:=by unfold kX;rw[if_pos h0,if_pos hm]
   have e2:vw l n=l:=by unfold vw;rw[e1];rfl
   rw[e1,e2];exact⟨rfl,h,xD _ _⟩
  ·have hm:¬l.getD n 0=65535:=by rw[beq_eq_false_iff_ne]at hm;omega
   have e1:kX l n=0:=by unfold kX;rw[if_pos h0,if_neg hm]
   have e2:vw l n=l.set n (l.getD n 0+1):=by unfold vw;rw[if_pos e1]
   rw[e1,e2];refine zs ?_;refine zo h.row (vu hl) ?_;refine zs ?_;refine zS h.row (by rw[length_append,kL];omega) ?_;rw[show wrap .u16 (((l.getD n 0:Nat):Int)+1)=((l.getD n 0+1:Nat):Int) from by rw[wrap_u16];omega];obtain⟨hc,hg⟩:=h.set (x:=l.getD n 0+1) hl (by omega);exact⟨rfl,hc,hg⟩
 ·have hne:atE l n≠0:=by rcases h0 with h0|h0<;>rw[h0]<;>decide
  have e1:kX l n=atE l n:=by unfold kX;rw[if_neg hne]
  have e2:vw l n=l:=by unfold vw;rw[e1,if_neg hne]
  rw[e1,e2];refine zf (by simpa using hne) ?_;exact⟨rfl,h,xD _ _⟩
theorem zjb (w:World) (a b c d:Int):(Op.eqFields 9999 #[.int .i64 a,.int .i64 b] #[.int .i64 c,.int .i64 d] (prog.fieldsOf 72).toList).run prog w=.ok (a==c&&(b==d&&true)) w:=by
 have hf:(prog.fieldsOf 72).toList=[(prog.fieldsOf 72).getD 0 default,(prog.fieldsOf 72).getD 1 default]:=by kernel_rfl
 rw[hf];refine xX (of_decide_eq_true (by kernel_rfl)) (a:=.int .i64 a) (b:=.int .i64 c) (by kernel_rfl) (by kernel_rfl) (run_equalIn_int w 9998 _ .i64 .i64 _ _ (by kernel_rfl)) ?_;refine xX (of_decide_eq_true (by kernel_rfl)) (a:=.int .i64 b) (b:=.int .i64 d) (by kernel_rfl) (by kernel_rfl) (run_equalIn_int w 9998 _ .i64 .i64 _ _ (by kernel_rfl)) ?_;rfl
theorem zon (w:World) (a b:Int) (x y:Operand):(eqS .neq 72 x y (.agg #[.int .i64 a,.int .i64 b]) (.agg #[.int .i64 a,.int .i64 b])).run prog w=.ok (.bool false) w:=by
 have:=zeN (x:=x) (y:=y) (by kernel_rfl) (by kernel_rfl) (by kernel_rfl) (zjb w a b a b)
 simpa using this
def zm6 (w:World) (x:Option Addr) (b r:Nat) (size:Int) (len:Nat) (hl:List Nat):Prop:=
 (x=none/\hl=[])\/∃ b2 r2,x=some ⟨b2,0,none⟩/\(∃ q2,Cnt w b2 r2 size q2 hl)/\hl.length=len/\b2≠r/\r2≠r
def qD (l hl:List Nat) (i:Nat):Bool:=l.getD i 0==0&&hl.getD i 0==0
def zC (l hl:List Nat):Nat:=(List.range l.length).findIdx (qD l hl)
def takeN (l hl:List Nat):Nat:=if zC l hl<l.length then zC l hl else 0
def yP (l hl:List Nat):Int:=if zC l hl<l.length then 0 else 9
def yQ (l hl:List Nat):List Nat:=if zC l hl<l.length then l.set (zC l hl) 1 else l
theorem zb9 {l hl:List Nat} {i:Nat} (h:i<zC l hl):qD l hl i=false:=by
 have:=List.not_of_lt_findIdx (p:=qD l hl) (xs:=List.range l.length) h
 simpa using this
theorem zdv {l hl:List Nat} (h:zC l hl<l.length):qD l hl (zC l hl)=true:=by
 have:=List.findIdx_getElem (p:=qD l hl) (xs:=List.range l.length) (w:=by rw[length_range];exact h);rw[getElem_range]at this;exact this
theorem zd9 {w:World} {b r:Nat} {size:Int} {q:List Value} {l hl:List Nat} {x:Option Addr} (h:Cnt w b r size q l) (hh:zm6 w x b r size l.length hl):
  Calls prog 116 #[.pointer (some ⟨b,0,none⟩),.pointer x] w (Ret fun v w'=>v=.tuple #[.int .u32 ((takeN l hl:Nat):Int),.int .i64 (yP l hl)]/\Cnt w' b r size q (yQ l hl)/\w.grownBy w' (some r)):=by
 apply zll;unfold S116;have hlen:=h.len;refine yk (fun _ w'=>w'=w.drew) ?_ (fun J hJ=>?_)
 ·rintro _ w1 hw1;have hcw:Cnt w1 b r size q l:=by rw[hw1];exact h.ext (Ext.refl w).drew
  have hg0:w.grownBy w1 (some r):=by rw[hw1];exact xO (Ext.refl w).drew _
  have hh1:zm6 w1 x b r size l.length hl:=by
   rcases hh with hh|⟨b2,r2,h1,h2,h3⟩
   ·exact .inl hh
   ·obtain⟨q2,h2⟩:=h2;exact .inr ⟨b2,r2,h1,⟨q2,by rw[hw1];exact h2.ext (Ext.refl w).drew⟩,h3⟩
  refine zs ?_;refine yZ (o:=2) (x:=(some ⟨r,0,none⟩,l.length,l.length+q.length)) hcw.head (by rfl) ?_;dsimp only;refine zz (fun y w'=>w'=w1/\∃ i:Nat,i<=l.length/\y=((i:Int),())/\i<=zC l hl) (fun y=>(l.length-y.1).toNat) ⟨rfl,0,by omega,rfl,by omega⟩ ?_;rintro _ _ ⟨rfl,i,hi,rfl,hti⟩;dsimp only;rename_i w1
  by_cases hlt:i<l.length
  ·refine zf (decide_eq_true (by omega)) ?_;refine zK ⟨by omega,by omega⟩ (zs ?_);rw[Int.toNat_natCast,Nat.mul_one];refine yZ hcw.row (vu hlt) ?_;rw[uC (by omega),wrap_i64 (x:=(i:Int)+1) (by omega) (by omega)];have next:qD l hl i=false->i+1<=zC l hl:=fun hf=>by
    rcases Nat.lt_or_ge i (zC l hl) with h1|h1
    ·omega
    ·have hii:zC l hl=i:=by omega
     have:=zdv (l:=l) (hl:=hl) (by omega);rw[hii,hf]at this;cases this
   refine zg (fun hz=>?_) (fun hz=>?_)
   ·have hz:l.getD i 0=0:=by rw[beq_iff_eq]at hz;omega
    have hget:Calls prog 75 #[.pointer x,.int .u32 (i:Int)] w1 (Ret fun v w'=>v=.int .i64 ((hl.getD i 0:Nat):Int)/\w'=w1):=by
     rcases hh1 with ⟨rfl,rfl⟩|⟨b2,r2,rfl,⟨q2,hc2⟩,_⟩
     ·exact zb7 w1 i
     ·exact zac hc2 i (by omega)
    refine zb hget ?_;rintro _ w2 ⟨rfl,hw2⟩;subst hw2;refine⟨_,rfl,?_⟩;refine zg (fun hz2=>?_) (fun hz2=>?_)
    ·have hz2:hl.getD i 0=0:=by rw[beq_iff_eq]at hz2;omega
     have hfr:qD l hl i=true:=by unfold qD;rw[hz,hz2];rfl
     have htake:zC l hl=i:=by
      rcases Nat.lt_or_ge i (zC l hl) with h1|h1
      ·rw[zb9 h1]at hfr;cases hfr
      ·omega
     refine zs ?_;refine yZ (o:=2) (x:=(some ⟨r,0,none⟩,l.length,l.length+q.length)) hcw.head (by rfl) ?_;dsimp only;refine zK ⟨by omega,by omega⟩ (zs ?_);rw[zy,Nat.zero_add];refine zS hcw.row (by rw[length_append,kL];omega) ?_;obtain⟨hc,hg⟩:=hcw.set (x:=1) hlt (by omega);have e1:takeN l hl=i:=by unfold takeN;rw[htake,if_pos hlt]
     have e2:yP l hl=0:=by unfold yP;rw[htake,if_pos hlt]
     have e3:yQ l hl=l.set i 1:=by unfold yQ;rw[htake,if_pos hlt]
     rw[e1,e2,e3];exact⟨rfl,hc,xb hg0 hg (fun j hj=>.inl hj)⟩
    ·have hz2:¬hl.getD i 0=0:=by rw[beq_eq_false_iff_ne]at hz2;omega
     refine⟨⟨rfl,i+1,by omega,rfl,next ?_⟩,by omega⟩;unfold qD;rw[Bool.and_eq_false_iff];right;rw[beq_eq_false_iff_ne];exact hz2
   ·have hz:¬l.getD i 0=0:=by rw[beq_eq_false_iff_ne]at hz;omega
    refine⟨⟨rfl,i+1,by omega,rfl,next ?_⟩,by omega⟩;unfold qD;rw[Bool.and_eq_false_iff];left;rw[beq_eq_false_iff_ne];exact hz
  ·obtain rfl:i=l.length:=by omega
   refine zd (decide_eq_false (by omega)) ?_;have hno:¬zC l hl<l.length:=by omega
   have e1:takeN l hl=0:=by unfold takeN;rw[if_neg hno]
   have e2:yP l hl=9:=by unfold yP;rw[if_neg hno]
   have e3:yQ l hl=l:=by unfold yQ;rw[if_neg hno]
   rw[e1,e2,e3];exact⟨rfl,hcw,hg0⟩
 ·refine zd (by rfl) ?_;show(za _ _ _) w.drew;rcases hh with ⟨rfl,rfl⟩|⟨b2,r2,rfl,⟨q2,hc2⟩,hl2,_,_⟩
  ·exact zd (by rfl) (hJ _ _ rfl)
  ·refine zf (by rfl) ?_;have hcd:=h.ext (Ext.refl w).drew;have hcd2:=hc2.ext (Ext.refl w).drew;refine zs ?_;have rd:∀ {b r:Nat} {q:List Value} {l:List Nat} {K:(Int×Int×Unit)->WP},Cnt w.drew b r size q l->K (size,(l.length:Int),()) w.drew->zk [(.int .i64),(.int .i64)] ⟨b,0,none⟩ K w.drew:=fun {b r q l K} hc hk=>by
    refine qp (ls:=[(.int .i64),(.int .i64)]) (x:=(size,(l.length:Int),())) ?_ hk;have:=hc.head.jr;exact⟨this.1,this.2.1,trivial⟩
   refine rd hcd2 ?_;refine zs ?_;refine rd hcd ?_;rw[hl2];refine⟨false,fun w'=>zon w' _ _ _ _,?_⟩;exact zd rfl (hJ _ _ rfl)
theorem zgI:Elem prog 191 194 (.int .u16 0) 2:=by
 refine⟨by kernel_rfl,by kernel_rfl,rfl⟩
theorem zo3 (k:IntKind) (xs:List Nat):∀ v∈uV k xs,v.oneCell'=true:=by
 intro v hv;obtain⟨t,_,rfl⟩:=mem_map.1 hv;rfl
theorem zfN {w:World} {r n cc:Nat} {l:List Nat} (h:Sl w (some ⟨r,0,none⟩) n (uV .u16 l)) (hm:n<=4096):Calls prog 144 #[.slice (some ⟨r,0,none⟩) n cc] w (Ret fun v w'=>∃ A c,v=.slice A n c/\Own 194 w' w.heap.size A n c (uV .u16 l)/\Ext w w'):=by
 apply zlF;unfold S144;refine zd (by rfl) ?_;apply yG;have ho:Own 194 (w.alloc (.cells #[] 194)) w.heap.size (some ⟨w.heap.size,0,none⟩) 0 0 []:=Own.lit (cs:=#[]) (Nat.le_refl _) (by simp);have he:Ext w (w.alloc (.cells #[] 194)):=(Ext.refl w).alloc _;have hs:Sl (w.alloc (.cells #[] 194)) (some ⟨r,0,none⟩) n (uV .u16 l):=h.ext he;refine uZ (c:=0) (n:=0) (m:=n) zgI ho he.size hs (zo3 .u16 l) (by omega) (by omega) ?_;intro A' c' w' ho' hg _;rw[List.nil_append,Nat.zero_add]at ho';rw[Nat.zero_add];exact⟨A',c',rfl,ho',he.grown hg.grown (ho.row')⟩
def zca (n:Nat):List Nat:=1::1::List.replicate (n-2) 0
theorem zkj (w:World) (size blocks:Int):Calls prog 114 #[.agg #[.int .i64 size,.int .i64 blocks]] w (Ret fun v w'=>∃ x:Option Addr,v=.tuple #[.pointer x,.int .i64 (if zW size blocks then 0 else 2)]/\(if zW size blocks then ∃ b r,x=some ⟨b,0,none⟩/\Cnt w' b r size [] (zca blocks.toNat)/\w.heap.size<=b/\w.heap.size<=r else x=none)/\Ext w w'):=by
 apply zlk;unfold S114;apply yG;have hb:Blk (w.alloc (.cells #[(.int .i64 size),(.int .i64 blocks)] 72)) w.heap.size [(.int .i64 size),(.int .i64 blocks)] 72:=Blk.new w _ _;have he:Ext w (w.alloc (.cells #[(.int .i64 size),(.int .i64 blocks)] 72)):=(Ext.refl w).alloc _;generalize w.alloc (.cells #[(.int .i64 size),(.int .i64 blocks)] 72)=w1 at hb he ⊢;refine zaI (ls:=[(.int .i64),(.int .i64)]) (x:=(size,blocks,())) hb rfl ?_;refine zb (qj w1 size blocks) ?_;rintro _ w2 ⟨rfl,he2⟩;refine⟨_,rfl,?_⟩;have he02:=he.trans he2;have hb2:=hb.ext he2;cases hok:zW size blocks with
 |false=>
  rw[if_neg (by simp)];refine zf (by rfl) ?_;exact⟨none,rfl,by rw[if_neg (by simp)],he02⟩
 |true=>
  rw[if_pos rfl];refine zd (by rfl) ?_;unfold zW at hok;have hok:=of_decide_eq_true hok;obtain⟨n,rfl⟩:∃ n:Nat,blocks=n:=⟨blocks.toNat,by omega⟩;have he3:=he02.drew;have hb3:=hb2.drew;show(zk _ _ _) w2.drew;generalize w2.drew=w3 at he3 hb3 ⊢;refine zaI (ls:=[(.int .i64),(.int .i64)]) (x:=(size,(n:Int),())) hb3 rfl ?_;refine yZ (o:=1) (x:=(n:Int)) hb3 (by rfl) ?_;refine za6 (B:=w3.heap.size) zgI rfl (Nat.le_refl _) (by omega) (by omega) ?_;intro w4 ho4 hg4;have he4:Ext w w4:=he3.none hg4;have h34:Ext w3 w4:=(Ext.refl w3).none hg4;have hrow:Blk w4 w3.heap.size (List.replicate n (.int .u16 0)) 194:=zdr ho4;have hr1:w.heap.size<=w3.heap.size:=he3.size;generalize w3.heap.size=r at hrow hr1 ⊢;have hb4:=hb3.ext h34;refine⟨fun ls hls p hp=>?_,?_⟩
  ·simp only [mem_singleton]at hls;subst hls;have hc:=hb4.jr;rcases mem_cons.1 hp with rfl|hp
   ·exact hc.1
   ·rcases mem_cons.1 hp with rfl|hp
    ·exact hc.2.1
    ·cases hp
  apply yG;have hnb:Blk (w4.alloc (.cells #[(.int .i64 size),(.int .i64 (n:Int)),(.slice (some ⟨r,0,none⟩) n n)] 193)) w4.heap.size [(.int .i64 size),(.int .i64 (n:Int)),(.slice (some ⟨r,0,none⟩) n n)] 193:=Blk.new w4 _ _;have hrow5:=hrow.alloc (.cells #[(.int .i64 size),(.int .i64 (n:Int)),(.slice (some ⟨r,0,none⟩) n n)] 193);have he5:=he4.alloc (.cells #[(.int .i64 size),(.int .i64 (n:Int)),(.slice (some ⟨r,0,none⟩) n n)] 193);have hrlt:=hrow.lt;have hb1:=he4.size;dsimp only at hnb hrow5 he5 ⊢;generalize w4.alloc (.cells #[(.int .i64 size),(.int .i64 (n:Int)),(.slice (some ⟨r,0,none⟩) n n)] 193)=w5 at hnb hrow5 he5 ⊢;generalize w4.heap.size=b at hnb hrlt hb1 ⊢;have he6:=he5.drew;have hnb6:=hnb.drew;have hrow6:=hrow5.drew;show(zi _ _) w5.drew;generalize w5.drew=w6 at he6 hnb6 hrow6 ⊢;refine zs ?_;refine yZ (o:=2) (x:=(some ⟨r,0,none⟩,n,n)) hnb6 (by rfl) ?_;refine zs ?_;refine yZ (o:=2) (x:=(some ⟨r,0,none⟩,n,n)) hnb6 (by rfl) ?_;dsimp only;refine zK ⟨by omega,by omega⟩ (zs ?_);rw[show((aD r).add (Int.toNat 0*1))=⟨r,0,none⟩ by rw[zy];rfl];refine zS hrow6 (by rw[length_replicate];omega) ?_;have hrow7:=hrow6.set 0 (.int .u16 1);have hnb7:=hnb6.other (p:=⟨r,0,none⟩) (by simp only;omega) (.int .u16 1);have he7:=he6.set (p:=⟨r,0,none⟩) hr1 (.int .u16 1);refine zK ⟨by omega,by omega⟩ (zs ?_);rw[show((aD r).add (Int.toNat 1*1))=⟨r,1,none⟩ by rw[zy];rfl];refine zS hrow7 (by rw[length_set,length_replicate];omega) ?_;have hrow8:=hrow7.set 1 (.int .u16 1);have hnb8:=hnb7.other (p:=⟨r,1,none⟩) (by simp only;omega) (.int .u16 1);have he8:=he7.set (p:=⟨r,1,none⟩) hr1 (.int .u16 1);refine⟨some ⟨b,0,none⟩,rfl,?_,he8⟩;rw[if_pos rfl];have hlen:(zca (Int.toNat (n:Int))).length=n:=by simp[zca];omega
  have hcells:((List.replicate n (Value.int .u16 0)).set 0 (.int .u16 1)).set 1 (.int .u16 1)=uV .u16 (zca (Int.toNat (n:Int)))++[]:=by
   rw[append_nil,Int.toNat_natCast];obtain⟨m,rfl⟩:∃ m,n=m+2:=⟨n-2,by omega⟩;simp[zca,uV,List.replicate_succ]
  rw[hcells]at hrow8;refine⟨b,r,rfl,⟨by rw[hlen];exact hnb8,hrow8,by omega,by rw[hlen];omega,fun x hx=>?_⟩,hb1,hr1⟩;simp only [zca,mem_cons,List.mem_replicate]at hx;omega
theorem zmy {e:TypeId} {w:World} {B n c:Nat} {A:Option Addr} {vs:List Value} (h:Own e w B A n c vs) (hn:0<n):∃ g q,A=some ⟨g,0,none⟩/\Blk w g (vs++q) e/\c=n+q.length/\B<=g:=by
 rcases h.2 with ⟨h1,h2⟩|⟨g,cap,cur,hv,hbg,hg,hnc,hcm,hcs,htake⟩
 ·omega
 ·injection hv with hv1 hv2 hv3
  subst hv1 hv3;refine⟨g,cur.toList.drop n,rfl,?_,by rw[length_drop,Array.length_toList,hcs];omega,hbg⟩;rw[<- htake,Nat.mul_one,List.take_append_drop];show w.heap[g]?=_;rw[hg]
theorem zeT {w:World} {b r:Nat} {size:Int} {q:List Value} {l:List Nat} (h:Cnt w b r size q l):Calls prog 96 #[.pointer (some ⟨b,0,none⟩)] w (Ret fun v w'=>(∃ b2 r2 q2,v=.pointer (some ⟨b2,0,none⟩)/\Cnt w' b2 r2 size q2 l/\w.heap.size<=b2/\w.heap.size<=r2)/\Ext w w'):=by
 apply zoi;unfold S96;have hl:=h.len;refine zd (by rfl) ?_;have he1:=(Ext.refl w).drew;have h1:=h.ext he1;show(zi _ _) w.drew;generalize w.drew=w1 at he1 h1 ⊢;refine zs ?_;have hc:=h1.head.jr;refine qp (ls:=[(.int .i64),(.int .i64)]) (x:=(size,(l.length:Int),())) ⟨hc.1,hc.2.1,trivial⟩ ?_;refine zs ?_;refine yZ (o:=2) (x:=(some ⟨r,0,none⟩,l.length,l.length+q.length)) h1.head (by rfl) ?_;dsimp only;have hsl:Sl w1 (some ⟨r,0,none⟩) l.length (uV .u16 l):=⟨by rw[kL],by omega,fun _=>⟨_,rfl,fun j v hj=>by
  have hjl:j<(uV .u16 l).length:=(List.getElem?_eq_some_iff.1 hj).1
  rw[zy,h1.row.cell,Nat.zero_add,List.getElem?_append_left hjl]
  exact hj⟩⟩
 refine zb (zfN hsl (by omega)) ?_;rintro _ w2 ⟨A,c,rfl,ho,he2⟩;refine⟨(A,l.length,c),rfl,?_⟩;dsimp only;obtain⟨g,q2,rfl,hg,rfl,hBg⟩:=zmy ho (by omega);have h2:=h1.ext he2;have hc2:=h2.head.jr;refine⟨fun ls hls p hp=>?_,?_⟩
 ·simp only [mem_singleton]at hls;subst hls;rcases mem_cons.1 hp with rfl|hp
  ·exact hc2.1
  ·rcases mem_cons.1 hp with rfl|hp
   ·exact hc2.2.1
   ·cases hp
 apply yG;have hnb:Blk (w2.alloc (.cells #[(.int .i64 size),(.int .i64 (l.length:Int)),(.slice (some ⟨g,0,none⟩) l.length (l.length+q2.length))] 193)) w2.heap.size [(.int .i64 size),(.int .i64 (l.length:Int)),(.slice (some ⟨g,0,none⟩) l.length (l.length+q2.length))] 193:=Blk.new w2 _ _;have hgl:=hg.lt;have hs1:=he1.size;have hs2:=he2.size;exact⟨⟨w2.heap.size,g,q2,rfl,⟨hnb,hg.alloc _,by omega,hl,h.fits⟩,by omega,by omega⟩,(he1.trans he2).alloc _⟩
end V
/- Contracts of counts.Pages and what it calls. -/
namespace V
open Go Go.Proofs Go.RowKit
theorem zkk:jR prog 158 9 (.string ByteArray.empty) xE.k 16:=by
 refine⟨by kernel_rfl,by kernel_rfl,rfl⟩
theorem Owni.qk {α:Type} {E:Enc α} {e:TypeId} {w w':World} {B a b n c:Nat} {A:Option Addr} {xs:List α} (h:Owni E e w B A n c xs) (hs:yR a b w w') (ha:a<B) (hb:b<B):Owni E e w' B A n c xs:=by
 refine⟨h.1,?_⟩;rcases h.2 with h1|⟨g,cap,cur,hv,hB,hg,r⟩
 ·exact .inl h1
 ·exact .inr ⟨g,cap,cur,hv,hB,(hs.2.2.2.2 g (by omega) (by omega)).trans hg,r⟩
theorem Ext.qk {w0 w w':World} {a b:Nat} (h:Ext w0 w) (hs:yR a b w w') (ha:w0.heap.size<=a) (hb:w0.heap.size<=b):Ext w0 w':=
 ⟨hs.1.trans h.os,hs.2.1.trans h.tape,hs.2.2.1.trans h.output,by have:=h.size;have:=hs.2.2.2.1;omega,fun k hk=>(hs.2.2.2.2 k (by omega) (by omega)).trans (h.block k hk)⟩
def zcF (l:List Nat) (per i:Nat):List UInt8:=((l.drop (i*per)).take per).flatMap (le 2)
def zT (l:List Nat) (per:Nat):List ByteArray:=(List.range (yt l.length per)).map fun i=>⟨(zcF l per i).toArray⟩
def zJ (size:Int):Nat:=(Int.tdiv (zD size) 2).toNat
theorem jS {size:Int} (hs:zW size 8=true):56<=zJ size/\zJ size<=2040/\wrap .i64 (Int.tdiv (zD size) 2)=((zJ size:Nat):Int):=by
 unfold zJ zD;rw[if_pos hs];unfold zW at hs;have hs:=of_decide_eq_true hs;have e:Int.tdiv (size-16) 2=(size-16) / 2:=Int.tdiv_eq_ediv_of_nonneg (by omega);rw[e,wrap_i64 (by omega) (by omega)];omega
theorem zpp {w:World} {r n:Nat} {l:List Nat} {q:List Value} {k:IntKind} {t:TypeId} (h:Blk w r (uV k l++q) t) (hn:l.length=n) (hm:n<=4096):Sl w (some ⟨r,0,none⟩) n (uV k l):=
 ⟨by rw[kL,hn],by omega,fun _=>⟨_,rfl,fun j v hj=>by
  have hjl:j<(uV k l).length:=(List.getElem?_eq_some_iff.1 hj).1
  rw[zy,h.cell,Nat.zero_add,List.getElem?_append_left hjl]
  exact hj⟩⟩
theorem zoo (k:IntKind) (l:List Nat) (i:Nat):(uV k l).drop i=uV k (l.drop i):=by simp[uV,List.map_drop]
theorem zop (k:IntKind) (l:List Nat) (i:Nat):(uV k l).take i=uV k (l.take i):=by simp[uV,List.map_take]
theorem zhH {w:World} {b r:Nat} {size:Int} {q:List Value} {l:List Nat} (h:Cnt w b r size q l) (hs:zW size 8=true):Calls prog 141 #[.pointer (some ⟨b,0,none⟩)] w (Ret fun v w'=>∃ x:SLC,v=.slice x.1 x.2.1 x.2.2/\Owni xE 9 w' w.heap.size x.1 x.2.1 x.2.2 (zT l (zJ size))/\Ext w w'):=by
 apply zlC;unfold S141;have hl:=h.len;obtain⟨hp1,hp2,hper⟩:=jS hs;apply yG;have hr1:=Blk.new w #[.slice none 0 0] 158;have he1:=(Ext.refl w).alloc (.cells #[.slice none 0 0] 158);generalize w.alloc (.cells #[.slice none 0 0] 158)=w1 at hr1 he1 ⊢;generalize hrr:w.heap.size=r1 at hr1 ⊢;refine zd (by rfl) ?_;have he1:=he1.drew;have hr1:=hr1.drew;have h1:=h.ext he1;show(zi _ _) w1.drew;generalize w1.drew=w2 at he1 hr1 h1 ⊢;refine zs ?_;refine yZ (o:=2) (x:=(some ⟨r,0,none⟩,l.length,l.length+q.length)) h1.head (by rfl) ?_;dsimp only;refine zs ?_;refine zo (x:=size) h1.head (by rfl) ?_;refine zb (jj w2 size) ?_;rintro _ w3 ⟨rfl,he3⟩;refine⟨_,rfl,?_⟩;have he03:=he1.trans he3;have hr3:=hr1.ext he3;have h3:=h1.ext he3;refine⟨fun ls hls p hp=>?_,?_⟩
 ·simp only [mem_singleton]at hls;subst hls;simp only [mem_singleton]at hp;subst hp;exact h3.head.jr.2.2.1
 rw[hper];refine zb (zfM (by omega) (by omega) (by omega)) ?_;rintro v w4 ⟨hit,hRc,hs4,he4⟩;refine⟨v,rfl,?_⟩;have he04:=he03.trans he4;have hr4:=hr3.ext he4;have h4:=h3.ext he4;have hsz:=he03.size;have hr3lt:=hr3.lt;generalize hper2:zJ size=per at *;refine zaJ (R:=zbb w3.heap.size (w3.heap.size+1) (some ⟨r,0,none⟩) l.length (l.length+q.length) per) (fun i w'=>Ext w w'/\zbb w3.heap.size (w3.heap.size+1) (some ⟨r,0,none⟩) l.length (l.length+q.length) per w'/\∃ A c,Blk w' r1 [.slice A i c] 158/\Owni xE 9 w' (w4.heap.size+2) A i c ((zT l per).take i)) hit (fun i w' hI=>hI.2.1) (fun i w' hI=>⟨hI.1.drew,hI.2⟩) ?_ ?_ ?_ ?_
 ·rintro i w' w'' hsb ⟨e1,⟨e2,e3⟩,A,c,e4,e5⟩;exact⟨e1.qk hsb (by omega) (by omega),⟨(hsb.2.2.2.2 _ (by omega) (by omega)).trans e2,(hsb.2.2.2.2 _ (by omega) (by omega)).trans e3⟩,A,c,(hsb.2.2.2.2 _ (by omega) (by omega)).trans e4,e5.qk hsb (by omega) (by omega)⟩
 ·intro o;exact⟨(he04.alloc _).alloc _,⟨(hRc.1.alloc _).alloc _,(hRc.2.alloc _).alloc _⟩,none,0,(hr4.alloc _).alloc _,Owni.nil _ _ _⟩
 ·rintro i hi w' N jump ⟨e1,⟨e2,e3⟩,A,c,e4,e5⟩ hsz' hN;rw[xF]at hi;have hin:=(uE (by omega)).1 hi;refine⟨((zm (some ⟨r,0,none⟩) (i*per) (i*per+min per (l.length-i*per)) 1,min per (l.length-i*per),min per (l.length-i*per)),()),by simp[qq],?_⟩;dsimp only;have hcut:Sl w' (zm (some ⟨r,0,none⟩) (i*per) (i*per+min per (l.length-i*per)) 1) (min per (l.length-i*per)) (uV .u16 ((l.drop (i*per)).take per)):=by
   have:=(zpp (h.ext e1).row rfl hl.2).cut (l:=i*per) (k:=min per (l.length-i*per)) (m:=i*per+min per (l.length-i*per)) (by omega) (by omega);rw[zoo,zop]at this;have e:(l.drop (i*per)).take (min per (l.length-i*per))=(l.drop (i*per)).take per:=by
    rcases Nat.le_total per (l.length-i*per) with h|h
    ·rw[Nat.min_eq_left h]
    ·rw[Nat.min_eq_right h,take_of_length_le (by simp),take_of_length_le (by simpa using h)]
   rw[e]at this;exact this
  have hml:((l.drop (i*per)).take per).length=min per (l.length-i*per):=by simp
  generalize min per (l.length-i*per)=m at hcut hml ⊢;generalize zm (some ⟨r,0,none⟩) (i*per) (i*per+m) 1=X at hcut ⊢;have hpage:zcF l per i=((l.drop (i*per)).take per).flatMap (le 2):=rfl;have hcs:∀ x∈(l.drop (i*per)).take per,x<65536:=fun x hx=>h.fits x (List.mem_of_mem_drop (List.mem_of_mem_take hx))
  have hm:m<=4096:=by have:((l.drop (i*per)).take per).length<=l.length:=by simp;omega
                      omega
  generalize (l.drop (i*per)).take per=cs at hcut hml hpage hcs;refine zz (fun y w2=>Ext w' w2/\∃ (j:Nat) (A2:Option Addr) (c2:Nat),j<=m/\y=((A2,2*j,c2),(j:Int),())/\Own 5 w2 w'.heap.size A2 (2*j) c2 (bV ((cs.take j).flatMap (le 2)))) (fun y=>(m-y.2.1).toNat) ⟨Ext.refl w',0,none,0,by omega,rfl,Own.nil _ _ _⟩ ?_;rintro _ w5 ⟨e6,j,A2,c2,hj,rfl,ho⟩;dsimp only
  by_cases hlt:j<m
  ·refine zf (decide_eq_true (by omega)) ?_;have hcut5:=hcut.ext e6;refine zK ⟨by omega,by omega⟩ ?_;obtain⟨a,ha,hcell⟩:=hcut5.2.2 (by omega);refine⟨a,ha,?_⟩;rw[Int.toNat_natCast,Nat.mul_one];refine za8 (x:=((cs.getD j 0:Nat):Int)) (hcell j _ (zkg (by omega))) ?_;have hx:cs.getD j 0<65536:=by
    rw[getD_eq_getElem?_getD,List.getElem?_eq_getElem (by omega)];exact hcs _ (getElem_mem _)
   rw[zx (by omega)];refine zb (xi (k:=2) ho e6.size (by omega) (by omega) (by omega) (by omega)) ?_;rintro _ w6 ⟨x,rfl,ho6,hg6⟩;refine⟨x,rfl,?_⟩;rw[wrap_i64 (by omega) (by omega)];have hlen:x.2.1=2*(j+1):=by
    have:=ho6.sl.blen;rw[length_append,zv]at this;have:=ho.sl.blen;omega
   obtain⟨x1,x2,x3⟩:=x;dsimp only at hlen ho6 hg6 ⊢;subst hlen;refine⟨⟨e6.grown hg6.grown ho.row',j+1,x1,x3,by omega,rfl,?_⟩,by omega⟩;have e:(cs.take (j+1)).flatMap (le 2)=(cs.take j).flatMap (le 2)++le 2 (cs.getD j 0):=by
    rw[take_succ_eq_append_getElem (by omega),flatMap_append,getD_eq_getElem?_getD,List.getElem?_eq_getElem (by omega)];simp
   rw[e];exact ho6
  ·obtain rfl:j=m:=by omega
   refine zd (decide_eq_false (by omega)) ?_;rw[take_of_length_le (by omega),<- hpage]at ho;refine zo (x:=(A,i,c)) (e4.ext e6) (by rfl) ?_;dsimp only;refine qO (e:=5) (by kernel_rfl) (by kernel_rfl) (by kernel_rfl) ho.sl ?_;have hii:i<=4096:=by
    have:i*1<=i*per:=Nat.mul_le_mul_left _ (by omega);omega
   refine xa (E:=xE) (ys:=[(⟨(zcF l per i).toArray⟩:ByteArray)]) (by rfl) rfl zkk (e5.ext e6) (by have:=e6.size;omega) (by omega) (by omega) ?_;intro A3 c3 w6 ho3 hg3;have e46:Blk w6 r1 [.slice A i c] 158:=(e4.ext e6).grown hg3.grown (by intro hh;have:=e5.row _ hh.symm;omega);refine zS e46 (by simp) ?_;have hset:=e46.set 0 (.slice A3 (i+1) c3);have e7:=e1.trans e6;have e8:Ext w w6:=e7.grown hg3.grown (fun j hj=>by have:=e5.row j hj;omega);have hx6:∀ k,k<w4.heap.size+2->w6.heap[k]?=w'.heap[k]?:=fun k hk=>by
    rw[hg3.grown.block k (by have:=e6.size;omega) (fun hh=>by have:=e5.row _ hh.symm;omega)];exact e6.block k (by omega)
   refine hN _ ⟨e8.set (by simp only;omega) _,⟨?_,?_⟩,A3,c3,hset,?_⟩ ?_ ?_
   ·exact Blk.other (show Blk w6 _ _ _ from(hx6 _ (by omega)).trans e2) (by simp only;omega) _
   ·exact Blk.other (show Blk w6 _ _ _ from(hx6 _ (by omega)).trans e3) (by simp only;omega) _
   ·have e9:(zT l per).take (i+1)=(zT l per).take i++[(⟨(zcF l per i).toArray⟩:ByteArray)]:=by
     rw[take_succ_eq_append_getElem (by simpa [zT] using hi)];simp[zT]
    rw[e9];refine ho3.grown (row:=some r1) ⟨rfl,rfl,rfl,by simp,fun k hk hne=>Below.heap_setCell _ _ _ _ (fun e=>hne (by rw[e]))⟩ (fun j hj he=>?_);injection hj with hj
    have:=ho3.row _ he;omega
   ·have:=hg3.grown.size;have:=e6.size;simp;omega
   ·intro k hk;rw[Below.heap_setCell _ _ _ _ (by simp only;omega)];exact hx6 k (by omega)
 ·rintro w' ⟨e1,⟨e2,e3⟩,A,c,e4,e5⟩ hsz' hd;have elen:(zT l per).length=yt l.length per:=by simp[zT]
  rw[xF]at e4 e5;rw[take_of_length_le (by omega)]at e5;show(ldW _ _ _) w';refine zo (x:=(A,yt l.length per,c)) e4 (by rfl) ?_;dsimp only;refine zS e4 (by simp) ?_;have hset:=e4.set 0 (.slice A (yt l.length per) c);refine ja (by rw[Below.heap_setCell _ _ _ _ (by simp only;omega)];exact hd) ?_;show(ldW _ _ _) _;refine zo (x:=(A,yt l.length per,c)) (show Blk _ r1 [.slice A (yt l.length per) c] 158 from(zO (by omega)).trans hset) (by rfl) ?_;refine⟨(A,yt l.length per,c),rfl,?_,(e1.set (by simp only;omega) _).yy (by omega) _⟩;have e6:=e5.grown (w':=w'.setCell ⟨r1,0,none⟩ (.slice A (yt l.length per) c)) (row:=some r1) ⟨rfl,rfl,rfl,by simp,fun k hk hne=>Below.heap_setCell _ _ _ _ (fun e=>hne (by rw[e]))⟩ (fun j hj he=>by
   injection hj with hj
   have:=e5.row _ he
   omega)
  have e7:Owni xE 9 (yy (w'.setCell ⟨r1,0,none⟩ (.slice A (yt l.length per) c)) w4.heap.size (.deferred none)) (w4.heap.size+2) A (yt l.length per) c (zT l per):=
   e6.qk (zX (b:=w4.heap.size) (.inl rfl)) (by omega) (by omega)
  exact e7.lower (by omega)
end V
/- Pages of counts,read again:plain. -/
namespace V
open Go
end V
/- Contracts of counts.Load and of the reference's counts. -/
namespace V
open Go Go.Proofs Go.RowKit
theorem zpq (a b:Nat):Int.tdiv (a:Int) (b:Int)=((a / b:Nat):Int):=rfl
theorem zdw {size:Int} (hs:zW size 8=true):zD size=((2*zJ size:Nat):Int):=by
 unfold zJ zD;rw[if_pos hs];unfold zW at hs;have hs:=of_decide_eq_true hs;have e:Int.tdiv (size-16) 2=(size-16) / 2:=Int.tdiv_eq_ediv_of_nonneg (by omega);have e2:Int.tmod size 64=size % 64:=Int.tmod_eq_emod_of_nonneg (by omega);rw[e];omega
theorem zdx {size blocks:Int} (h:zW size blocks=true):zW size 8=true/\∃ n:Nat,blocks=n/\8<=n/\n<=4096:=by
 unfold zW at h ⊢;have h:=of_decide_eq_true h;exact⟨decide_eq_true (by omega),blocks.toNat,by omega⟩
def spages (size blocks:Int):Int:=if zW size blocks then ((yt blocks.toNat (zJ size):Nat):Int) else 0
theorem zgJ (w:World) (size blocks:Int):Calls prog 115 #[.agg #[.int .i64 size,.int .i64 blocks]] w (Ret fun v w'=>v=.int .i64 (spages size blocks)/\Ext w w'):=by
 apply zgu;unfold S115 spages;apply yG;have hb:Blk (w.alloc (.cells #[(.int .i64 size),(.int .i64 blocks)] 72)) w.heap.size [(.int .i64 size),(.int .i64 blocks)] 72:=Blk.new w _ _;have he:Ext w (w.alloc (.cells #[(.int .i64 size),(.int .i64 blocks)] 72)):=(Ext.refl w).alloc _;generalize w.alloc (.cells #[(.int .i64 size),(.int .i64 blocks)] 72)=w1 at hb he ⊢;refine zaI (ls:=[(.int .i64),(.int .i64)]) (x:=(size,blocks,())) hb rfl ?_;refine zb (qj w1 size blocks) ?_;rintro _ w2 ⟨rfl,he2⟩;refine⟨_,rfl,?_⟩;have he02:=he.trans he2;have hb2:=hb.ext he2;cases hok:zW size blocks with
 |false=>rw[if_neg (by simp),if_neg (by simp)];exact zf (by rfl) ⟨rfl,he02⟩
 |true=>
  rw[if_pos rfl,if_pos rfl];refine zd (by rfl) ?_;obtain⟨h8,n,rfl,hn1,hn2⟩:=zdx hok;refine zo (x:=size) hb2 (by rfl) ?_;refine zb (jj w2 size) ?_;rintro _ w3 ⟨rfl,he3⟩;refine⟨_,rfl,?_⟩;refine yZ (o:=1) (x:=(n:Int)) (hb2.ext he3) (by rfl) ?_;obtain⟨hp1,hp2,_⟩:=jS h8;rw[zdw h8,Int.toNat_natCast];generalize zJ size=per at hp1 hp2 ⊢;refine zK (by omega) ⟨?_,he02.trans he3⟩;rw[wrap_i64 (x:=(2:Int)*(n:Int)) (by omega) (by omega),wrap_i64 (x:=(2:Int)*(n:Int)+((2*per:Nat):Int)) (by omega) (by omega),wrap_i64 (x:=(2:Int)*(n:Int)+((2*per:Nat):Int)-1) (by omega) (by omega)];rw[show(2:Int)*(n:Int)+((2*per:Nat):Int)-1=((2*n+2*per-1:Nat):Int) by omega,zpq];have e:(2*n+2*per-1) / (2*per)=yt n per:=by
   unfold yt;rw[<- Nat.div_div_eq_div_mul];congr 1;omega
  rw[e];have:yt n per<=n:=by
   unfold yt;rw[Nat.div_le_iff_le_mul_add_pred (by omega)];have:1*n<=per*n:=Nat.mul_le_mul_right _ (by omega);omega
  rw[wrap_i64 (by omega) (by omega)]
end V
/- Contracts of the package super,and of the document's answer (11):pages,checks,blocks. -/
namespace V
open Go Go.Proofs Go.RowKit Crc
theorem zm7 {ls:List Lf} {w:World} {b o:Nat} {cs rest:List Value} {t:TypeId} {K:LT ls->WP} (x:LT ls) (h:Blk w b cs t) (hx:cs.drop o=LT.vals ls x++rest) (hK:K x w):zk ls ((aD b).add o) K w:=by
 refine qp (x:=x) ?_ hK;refine za7 (a:=⟨b,0,none⟩) rfl (vs:=LT.vals ls x) (o:=o) ?_ _ 0 rfl;intro j v hj;rw[zy,h.cell,Nat.zero_add,<- List.getElem?_drop,hx,List.getElem?_append_left]
 ·exact hj
 ·exact(List.getElem?_eq_some_iff.1 hj).1
theorem zm8 {l:Lf} {w:World} {b:Nat} {cs:List Value} {t:TypeId} {K:l.T->WP} (x:l.T) (h:Blk w b cs t) (hx:cs[2]?=some (l.val x)) (hK:K x w):ldW l (((aD b).add 1).add 1) K w:=by
 rw[show(((aD b).add 1).add 1)=(aD b).add 2 by simp only [zy]];exact zn 2 x h hx hK
theorem zpr {w:World} {a:Addr} {v:Value} {K:WP} (h:w.cell? a=some v) (hK:K w):zq [[(a,v)]] K w:=by
 refine⟨fun l hl p hp=>?_,hK⟩;simp only [mem_singleton]at hl;subst hl;simp only [mem_singleton]at hp;subst hp;exact h
theorem zfX {w:World} {b o:Nat} {cs:List Value} {t:TypeId} {v:Value} {K:WP} (h:Blk w b cs t) (hv:cs[o]?=some v) (hK:K w):zq [[((aD b).add o,v)]] K w:=
 zpr (by rw[zy,h.cell,Nat.zero_add];exact hv) hK
abbrev sLs:List Lf:=[.int .u64,.int .i64,.int .i64,.int .u32,.slc]
def sT (s:Sup) (x:SLC):Int×Int×Int×Int×SLC×Unit:=((s.gen:Int),s.size,s.blocks,(s.root:Int),x,())
def sV (s:Sup) (x:SLC):List Value:=[.int .u64 (s.gen:Int),.int .i64 s.size,.int .i64 s.blocks,.int .u32 (s.root:Int),.slice x.1 x.2.1 x.2.2]
theorem zo4 (s:Sup) (x:SLC):∀ v∈sV s x,v.oneCell'=true:=by
 intro v hv;simp only [sV,mem_cons,not_mem_nil,or_false]at hv;rcases hv with rfl|rfl|rfl|rfl|rfl<;>rfl
structure Pg (w:World) (x:SLC) (ps:List Nat):Prop where
 sl:Sli (zu .u32) w x.1 x.2.1 ps
 nc:x.2.1<=x.2.2
theorem Pg.ext {w w':World} {x:SLC} {ps:List Nat} (h:Pg w x ps) (he:Ext w w'):Pg w' x ps:=⟨h.sl.ext he,h.nc⟩
theorem Pg.len {w:World} {x:SLC} {ps:List Nat} (h:Pg w x ps):ps.length=x.2.1:=h.sl.len
theorem zdy (w:World) (size blocks:Int):Calls prog 115 #[.agg #[.int .i64 size,.int .i64 blocks]] w (Ret fun v w'=>v=.int .i64 (kJ size blocks)/\Ext w w'):=by
 apply zgu;unfold S115 kJ;refine zr fun r1 w1 hb1 he1 _ _=>?_;refine zZ (ls:=[.int .i64,.int .i64]) (size,blocks,()) hb1 rfl ?_;refine zb (qj w1 size blocks) ?_;rintro _ w2 ⟨rfl,he2⟩;refine⟨_,rfl,?_⟩;have hb1:=hb1.ext he2;have he:=he1.trans he2;cases hg:zW size blocks with
 |false=>exact zf (by rfl) ⟨rfl,he⟩
 |true=>
  obtain⟨h0,h1,h2,h3,h4⟩:=xY hg;refine zd (by rfl) ?_;refine zF size hb1 (by rfl) ?_;refine zb (jj w2 size) ?_;rintro _ w3 ⟨rfl,he3⟩;refine⟨_,rfl,?_⟩;have hb1:=hb1.ext he3;refine zn 1 blocks hb1 (by rfl) (zK (by omega) ?_);rw[if_pos rfl];have hd:Int.tdiv (2*blocks+zD size-1) (zD size)=(2*blocks+zD size-1) / zD size:=Int.tdiv_eq_ediv_of_nonneg (by omega);have hle:=Int.ediv_le_self (a:=2*blocks+zD size-1) (zD size) (by omega);have h0':=Int.ediv_nonneg (a:=2*blocks+zD size-1) (b:=zD size) (by omega) (by omega);rw[wrap_i64 (x:=2*blocks) (by omega) (by omega),wrap_i64 (x:=2*blocks+zD size) (by omega) (by omega),wrap_i64 (x:=2*blocks+zD size-1) (by omega) (by omega),hd,wrap_i64 (by omega) (by omega)];exact⟨rfl,he.trans he3⟩
theorem zea {w:World} {b:Nat} {s:Sup} {x:SLC} {t:TypeId} {n:Nat} (hb:Blk w b (sV s x) t) (hn:n<4294967296) (h0:0<=s.blocks) (h1:s.blocks<9223372036854775808):
  Calls prog 161 #[.int .u32 (n:Int),.pointer (some ⟨b,0,none⟩)] w (Ret fun v w'=>v=.bool (vO s.blocks n)/\w'=w):=by
 apply zlK;unfold S161 vO;refine zg (fun h=>?_) (fun h=>?_)
 ·have h:=of_decide_eq_true h;refine zm8 s.blocks hb (by rfl) ?_;obtain⟨k,hk⟩:∃ k:Nat,s.blocks=k:=⟨s.blocks.toNat,by omega⟩;rw[hk,zx (by omega),zx (by omega)];refine⟨?_,rfl⟩;congr 1;exact decide_eq_decide.2 (by omega)
 ·have h:=of_decide_eq_false h;refine⟨?_,rfl⟩;congr 1;exact(decide_eq_false (by omega)).symm
theorem zhI {w:World} {A:Option Addr} {n c:Nat} {xs:List Nat} {y:Nat} (h:Sli (zu .u32) w A n xs):
  Calls prog 164 #[.slice A n c,.int .u32 (y:Int)] w (Ret fun v w'=>(∃ k:Int,v=.int .i64 k/\(0<=k↔y∈xs))/\w'=w):=by
 apply zlN;unfold S164;have hl:=h.len;have hle:=h.le;refine zz (fun z w'=>∃ i:Nat,i<=n/\z=((i:Int),())/\w'=w/\y∉xs.take i) (fun z=>(n-z.1).toNat) ⟨0,by omega,rfl,rfl,by simp⟩ ?_;rintro _ _ ⟨i,hi,rfl,rfl,hno⟩;dsimp only
 by_cases hlt:i<n
 ·refine zf (decide_eq_true (by omega)) ?_;refine zU h (by omega) (by omega) ?_;rw[Int.toNat_natCast];have e:xs[i]?=some (xs.getD i 0):=by rw[getD_eq_getElem?_getD,List.getElem?_eq_getElem (by omega)];rfl
  refine zg (fun hq=>?_) (fun hq=>?_)
  ·have hq:=beq_iff_eq.1 hq
   refine⟨⟨_,rfl,by constructor<;>intro _;· exact mem_of_getElem? (i:=i) (by rw[e];congr 1;omega)
                    ·omega⟩,rfl⟩
  ·have hq:=beq_eq_false_iff_ne.1 hq;refine⟨⟨i+1,by omega,by rw[wrap_i64 (by omega) (by omega)];rfl,rfl,?_⟩,by rw[wrap_i64 (by omega) (by omega)];omega⟩;rw[take_add_one,e];simp only [Option.toList_some,mem_append,mem_singleton];rintro(hh|hh)
   ·exact hno hh
   ·exact hq (by rw[hh])
 ·refine zd (decide_eq_false (by omega)) ?_
  refine⟨⟨_,rfl,by constructor;· intro hh;omega
                   ·intro hh;rw[take_of_length_le (by omega)]at hno;exact absurd hh hno⟩,rfl⟩
theorem zaQ {w:World} {A:Option Addr} {n c:Nat} {xs:List Nat} {y:Nat} (h:Sli (zu .u32) w A n xs):
  Calls prog 120 #[.slice A n c,.int .u32 (y:Int)] w (Ret fun v w'=>v=.bool (decide (y∈xs))/\w'=w):=by
 apply zlp;unfold S120;refine zb (zhI (c:=c) h) ?_;rintro _ _ ⟨⟨k,rfl,hk⟩,rfl⟩;refine⟨k,rfl,?_,rfl⟩;congr 1;exact decide_eq_decide.2 (by rw[<- hk])
theorem Sup.Fits.at_ {s:Sup} (h:s.Fits) (i:Nat):s.pages.getD i 0<4294967296:=by
 by_cases hi:i<s.pages.length
 ·rw[getD_eq_getElem?_getD,List.getElem?_eq_getElem hi];exact h.pages _ (getElem_mem hi)
 ·rw[getD_eq_getElem?_getD,List.getElem?_eq_none (by omega)];show 0<4294967296
  decide
theorem zc0 {w:World} {s:Sup} {x:SLC} (hf:s.Fits) (hp:Pg w x s.pages):
  Calls prog 117 #[.agg (sV s x).toArray] w (Ret fun v w'=>v=.int .i64 (chk s)/\Ext w w'):=by
 apply zlm;unfold S117;have hlen:=hp.len;refine zr fun r1 w1 hb1 he1 _ _=>?_;have hb1:Blk w1 r1 (sV s x) 79:=hb1;have hp:=hp.ext he1;refine yk (fun _ w'=>s.head/\Ext w1 w') ?_ (fun J hJ=>?_)
 ·rintro _ w2 ⟨hh,he2⟩;have hb1:=hb1.ext he2;have hp:=hp.ext he2;have he2:=he1.trans he2;obtain⟨h0,h1,h2,h3,h4⟩:=xY hh.1;have hpl:=zi8 (size:=s.size) (blocks:=s.blocks);have hln:(s.pages.length:Int)<=20000:=by have:=hh.2.2.2;omega
  refine zn 4 x hb1 (by rfl) ?_;refine zz (fun y w'=>∃ i:Nat,i<=x.2.1/\y=((i:Int),())/\Ext w2 w'/\∀ j,j<i->s.good j) (fun y=>(x.2.1-y.1).toNat) ⟨0,by omega,rfl,Ext.refl w2,fun j hj=>by omega⟩ ?_;rintro _ w3 ⟨i,hi,rfl,he3,hgood⟩;have hb1:=hb1.ext he3;have hp:=hp.ext he3;have he3':=he2.trans he3;dsimp only
  by_cases hlt:i<x.2.1
  ·refine zf (decide_eq_true (by omega)) ?_;refine zU hp.sl (by omega) (by omega) ?_;rw[Int.toNat_natCast];refine xU (by kernel_rfl) ?_;refine zb (zea hb1 (hf.at_ i) (by omega) (by omega)) ?_;rintro _ w4 ⟨rfl,hw⟩;subst hw;refine⟨_,rfl,?_⟩;cases hpo:vO s.blocks (s.pages.getD i 0) with
   |false=>exact zf (by rfl) ⟨by rw[zeR (s:=s) (j:=i) (by omega) (fun h=>by rw[h.1]at hpo;cases hpo)],he3'⟩
   |true=>
    refine zd (by rfl) ?_;refine zn 3 (s.root:Int) hb1 (by rfl) ?_;refine zg (fun hq=>?_) (fun hq=>?_)
    ·have hq:=beq_iff_eq.1 hq;exact⟨by rw[zeR (s:=s) (j:=i) (by omega) (fun h=>h.2.1 (by omega))],he3'⟩
    have hq:=beq_eq_false_iff_ne.1 hq;refine zn 4 x hb1 (by rfl) (zK ⟨by omega,by have:=hp.nc;omega⟩ ?_);have hcut:=hp.sl.zeM (k:=i) (m:=x.2.2) (z:=1) rfl (by omega) (by have:=hp.nc;omega);refine zb (zaQ (c:=x.2.2) hcut) ?_;rintro _ w4 ⟨rfl,hw⟩;subst hw;refine⟨_,rfl,?_⟩
    by_cases hm:s.pages.getD i 0∈s.pages.take i
    ·exact zf (decide_eq_true hm) ⟨by rw[zeR (s:=s) (j:=i) (by omega) (fun h=>h.2.2 hm)],he3'⟩
    ·refine zd (decide_eq_false hm) ?_;refine⟨⟨i+1,by omega,by rw[wrap_i64 (by omega) (by omega)];rfl,he3,fun j hj=>?_⟩,by rw[wrap_i64 (by omega) (by omega)];omega⟩
     by_cases hji:j=i
     ·subst hji;exact⟨hpo,fun e=>hq (by rw[e]),hm⟩
     ·exact hgood j (by omega)
  ·refine zd (decide_eq_false (by omega)) ?_;refine zM fun w4 he4 _ _=>?_;have hb1:=hb1.ext he4;have he4:=he3'.trans he4;refine zn 4 x hb1 (by rfl) (zn 1 s.size hb1 (by rfl) ?_);refine zb (jj w4 s.size) ?_;rintro _ w5 ⟨rfl,he5⟩;refine⟨_,rfl,?_⟩;have hb1:=hb1.ext he5;refine zfX hb1 (by rfl) ?_;rw[wrap_i64 (x:=4*(x.2.1:Int)) (by omega) (by omega),wrap_i64 (by omega) (by omega),zgD hh (fun j hj=>hgood j (by omega)),hlen];refine zg (fun hq=>?_) (fun hq=>?_)
   ·rw[if_pos (of_decide_eq_true hq)];exact⟨rfl,he4.trans he5⟩
   ·rw[if_neg (of_decide_eq_false hq)];exact⟨rfl,he4.trans he5⟩
 ·have bad:∀ {w':World},¬s.head->Ext w w'->(Value.int .i64 2=.int .i64 (chk s)/\Ext w w'):=fun h he=>⟨by rw[zmv h],he⟩;refine zM fun w2 he2 _ _=>?_;have hb1:=hb1.ext he2;refine zm7 (ls:=[.int .i64,.int .i64]) (s.size,s.blocks,()) hb1 (by rfl) ?_;refine zb (qj w2 s.size s.blocks) ?_;rintro _ w3 ⟨rfl,he3⟩;refine⟨_,rfl,?_⟩;have hb1:=hb1.ext he3;have he3:=he2.trans he3;cases hg:zW s.size s.blocks with
  |false=>exact zf (by rfl) (bad (fun h=>by rw[h.1]at hg;cases hg) (he1.trans he3))
  |true=>
   obtain⟨h0,h1,h2,h3,h4⟩:=xY hg;refine zd (by rfl) ?_;refine zF (s.gen:Int) hb1 (by rfl) ?_;refine zg (fun hq=>?_) (fun hq=>?_)
   ·exact bad (fun h=>h.2.1 (by have:=beq_iff_eq.1 hq;omega)) (he1.trans he3)
   have hgen:=beq_eq_false_iff_ne.1 hq;refine zn 3 (s.root:Int) hb1 (by rfl) ?_;have last:∀ {w':World},Blk w' r1 (sV s x) 79->Ext w1 w'->(s.root=0\/vO s.blocks s.root=true)->
     (ldW .slc ((aD r1).add 4) fun(u:SLC)=>zk [.int .i64,.int .i64] ((aD r1).add 1) fun(v:Int×Int×Unit)=>ze prog 115 [.agg #[.int .i64 v.1,.int .i64 v.2.1]] (.one (.one (.int .i64))) fun(z:Int)=>
      zq [[((aD r1).add 4,.slice u.1 u.2.1 u.2.2)]]<|za (((u.2.1:Nat):Int) !=z) (fun w'=>Value.int .i64 (2:Int)=.int .i64 (chk s)/\Ext w w') (J ())) w':=by
    intro w' hb1 he hr;refine zn 4 x hb1 (by rfl) (zm7 (ls:=[.int .i64,.int .i64]) (s.size,s.blocks,()) hb1 (by rfl) ?_);refine zb (zdy w' s.size s.blocks) ?_;rintro _ w5 ⟨rfl,he5⟩;refine⟨_,rfl,?_⟩;refine zfX (hb1.ext he5) (by rfl) ?_;refine zg (fun hq=>?_) (fun hq=>?_)
    ·exact bad (fun h=>bne_iff_ne.1 hq (by rw[<- h.2.2.2,hlen])) ((he1.trans he).trans he5)
    ·have hq:=bne_eq_false_iff_eq.1 hq;exact hJ _ _ ⟨⟨hg,by omega,hr,by rw[hlen];exact hq⟩,he.trans he5⟩
   refine zg (fun hq=>?_) (fun hq=>?_)
   ·refine zn 3 (s.root:Int) hb1 (by rfl) (xU (by kernel_rfl) ?_);refine zb (zea hb1 hf.root (by omega) (by omega)) ?_;rintro _ w4 ⟨rfl,hw⟩;subst hw;refine⟨_,rfl,?_⟩;cases hpo:vO s.blocks s.root with
    |false=>exact zf (by rfl) (bad (fun h=>by
      rcases h.2.2.1 with h|h
      ·exact bne_iff_ne.1 hq (by rw[h];rfl)
      ·rw[h]at hpo;cases hpo) (he1.trans he3))
    |true=>exact zd (by rfl) (last hb1 he3 (.inr hpo))
   ·have hq:=bne_eq_false_iff_eq.1 hq;exact last hb1 he3 (.inl (by omega))
theorem zc1 {ps:List Nat} {i:Nat} (h:i<ps.length):yv (ps.take (i+1))=yv (ps.take i)++le 4 (ps.getD i 0):=by
 have e:ps[i]?=some (ps.getD i 0):=by rw[getD_eq_getElem?_getD,List.getElem?_eq_getElem h];rfl
 rw[take_add_one,e];simp[yv]
theorem zjc {w:World} {s:Sup} {x:SLC} (hf:s.Fits) (hp:Pg w x s.pages):
  Calls prog 143 #[.agg (sV s x).toArray] w (Ret fun v w'=>v=.tuple #[.string ⟨(xz s).1.toArray⟩,.int .i64 (xz s).2]/\Ext w w'):=by
 apply zlE;unfold S143;have hlen:=hp.len;refine zr fun r1 w1 hb1 he1 _ _=>?_;have hb1:Blk w1 r1 (sV s x) 79:=hb1;have hp:=hp.ext he1;refine zZ (ls:=sLs) (sT s x) hb1 rfl ?_;refine zb (zc0 hf hp) ?_;rintro _ w2 ⟨rfl,he2⟩;refine⟨_,rfl,?_⟩;have hb1:=hb1.ext he2;have hp:=hp.ext he2;have he2:=he1.trans he2;refine zg (fun hq=>?_) (fun hq=>?_)
 ·rw[zgE (bne_iff_ne.1 hq)];exact⟨rfl,he2⟩
 have hc:=bne_eq_false_iff_eq.1 hq;obtain⟨hh,hgd,h14⟩:=zaO hc;obtain⟨g0,g1,g2,g3,g4⟩:=xY hh.1;have hroot:=hf.root;have hn:s.pages.length<=4080:=by omega
 obtain⟨sz,hsz⟩:∃ k:Nat,s.size=k:=⟨s.size.toNat,by omega⟩;obtain⟨nb,hnb⟩:∃ k:Nat,s.blocks=k:=⟨s.blocks.toNat,by omega⟩;refine zn 1 s.size hb1 (by rfl) (zm8 s.blocks hb1 (by rfl) (zn 3 (s.root:Int) hb1 (by rfl) ?_));rw[hsz,hnb,zx (by omega),zx (by omega),zx (by omega)];refine zr fun r7 w3 hb7 he3 _ _=>?_;have hb7:Blk w3 r7 ((zu .u64).flat [sz,nb,s.root]) 42:=hb7;have hs7:Sli (zu .u64) w3 (some ⟨r7,0,none⟩) 3 [sz,nb,s.root]:=Sli.xC hb7 rfl (by omega);have hb1:=hb1.ext he3;have hp:=hp.ext he3;have he3:=he2.trans he3;have hb3:=hb1;have hp3:=hp;have grow:∀ {w' w'':World} {A A':Option Addr} {n c:Nat} {bs:List UInt8},Ext w3 w'->Own 5 w' w3.heap.size A n c (bV bs)->Grew w' w'' (orow A) (orow A')->Ext w3 w'':=fun he ho hg=>he.grown hg.grown (fun j hj=>ho.row' j hj);refine zz (fun y w'=>∃ i:Nat,i<=3/\y.2.1=(i:Int)/\Own 5 w' w3.heap.size y.1.1 y.1.2.1 y.1.2.2 (bV (yv ([sz,nb,s.root].take i)))/\Ext w3 w') (fun y=>(3-y.2.1).toNat) ⟨0,by omega,rfl,Own.nil _ _ _,Ext.refl _⟩ ?_;rintro⟨⟨A,n,c⟩,_,_⟩ w4 ⟨i,hi,hiy,ho,he4⟩;dsimp only at hiy ho ⊢;subst hiy;have hs7:=hs7.ext he4;have lo:=ho.sl.blen;rw[xn,length_take]at lo;simp only [length_cons,length_nil]at lo
 by_cases hlt:i<3
 ·refine zf (decide_eq_true (by omega)) ?_;refine zU hs7 (by omega) (by omega) ?_;rw[Int.toNat_natCast];have hv:[sz,nb,s.root].getD i 0<18446744073709551616:=by
   match i,hlt with
   |0,_=>show sz<_;omega
   |1,_=>show nb<_;omega
   |2,_=>show s.root<_;omega
  refine zb (xi (k:=4) ho he4.size (by omega) hv (by omega) (by omega)) ?_;rintro _ w5 ⟨⟨A5,n5,c5⟩,rfl,ho5,hg5⟩;refine⟨(A5,n5,c5),rfl,?_⟩;refine⟨⟨i+1,by omega,by rw[wrap_i64 (by omega) (by omega)];rfl,?_,grow he4 ho hg5⟩,by rw[wrap_i64 (by omega) (by omega)];omega⟩;have e:[sz,nb,s.root].take (i+1)=[sz,nb,s.root].take i++[[sz,nb,s.root].getD i 0]:=by
   match i,hlt with
   |0,_=>rfl
   |1,_=>rfl
   |2,_=>rfl
  rw[e];have e2:yv ([sz,nb,s.root].take i++[[sz,nb,s.root].getD i 0])=yv ([sz,nb,s.root].take i)++le 4 ([sz,nb,s.root].getD i 0):=by simp[yv]
  rw[e2];exact ho5
 ·obtain rfl:i=3:=by omega
  refine zd (decide_eq_false (by omega)) ?_;have hb1:=hb1.ext he4;have hp:=hp.ext he4;refine zn 4 x hb1 (by rfl) ?_;rw[zx (by omega)];refine zb (xi (k:=2) ho he4.size (by omega) (by omega) (by omega) (by omega)) ?_;rintro _ w5 ⟨⟨A5,n5,c5⟩,rfl,ho5,hg5⟩;refine⟨(A5,n5,c5),rfl,?_⟩;have he5:=grow he4 ho hg5;dsimp only at ho5 ⊢;have eh:yv ([sz,nb,s.root].take 3)++le 2 x.2.1=zbf s:=by
   unfold zbf;rw[hsz,hnb,hlen,Int.toNat_natCast,Int.toNat_natCast];simp[yv]
  rw[eh]at ho5;have hb5:=hb3.ext he5;refine zn 4 x hb5 (by rfl) ?_;refine zz (fun y w'=>∃ i:Nat,i<=x.2.1/\y.2.1=(i:Int)/\Own 5 w' w3.heap.size y.1.1 y.1.2.1 y.1.2.2 (bV (zbf s++yv (s.pages.take i)))/\Ext w3 w') (fun y=>(x.2.1-y.2.1).toNat) ⟨0,by omega,rfl,by simpa [yv] using ho5,he5⟩ ?_;rintro⟨⟨A6,n6,c6⟩,_,_⟩ w6 ⟨i,hi,hiy,ho6,he6⟩;dsimp only at hiy ho6 ⊢;subst hiy;have l6:=ho6.sl.blen;rw[length_append,zb6,xn,length_take]at l6;have hp6:=hp3.ext he6
  by_cases hlt:i<x.2.1
  ·refine zf (decide_eq_true (by omega)) ?_;refine zU hp6.sl (by omega) (by omega) ?_;rw[Int.toNat_natCast];have hv:=hf.at_ i;rw[zx (by omega)];refine zb (xi (k:=4) ho6 he6.size (by omega) (by omega) (by omega) (by omega)) ?_;rintro _ w7 ⟨⟨A7,n7,c7⟩,rfl,ho7,hg7⟩;refine⟨(A7,n7,c7),rfl,?_⟩;refine⟨⟨i+1,by omega,by rw[wrap_i64 (by omega) (by omega)];rfl,?_,grow he6 ho6 hg7⟩,by rw[wrap_i64 (by omega) (by omega)];omega⟩;rw[zc1 (by omega),<- append_assoc];exact ho7
  ·obtain rfl:i=x.2.1:=by omega
   refine zd (decide_eq_false (by omega)) ?_;rw[take_of_length_le (by omega)]at ho6;have hb6:=hb3.ext he6;refine zn 1 s.size hb6 (by rfl) (zF (s.gen:Int) hb6 (by rfl) ?_);refine qO (e:=5) (by kernel_rfl) (by kernel_rfl) (by kernel_rfl) ho6.sl ?_;refine zb (zbe w6 s.size (f:=vr s) hf.gen) ?_;rintro _ w7 ⟨rfl,he7⟩;refine⟨(⟨(xp s.size (vr s)).1.toArray⟩,(xp s.size (vr s)).2,()),rfl,?_⟩;unfold xz;rw[if_pos hc];exact⟨rfl,he3.trans (he6.trans he7)⟩
end V
/- Contracts of the package super:Get. -/
namespace V
open Go Go.Proofs Go.RowKit Crc
theorem zo5 {w:World} {t:TypeId} {s:Sup} {x:SLC} {K:Nat->WP} {us:Array Value} (hu:us.size=5) (hK:∀ r w',Blk w' r (sV s x) t->Ext w w'->w.heap.size<=r->K r w'):
  (zh (.cells #[(.int .u64 (0:Int)),(.int .i64 (0:Int)),(.int .i64 (0:Int)),(.int .u32 (0:Int)),(.slice none 0 0)] t) fun r=>zc (us.size=5)<|zt (aD r) (sV s x) (K r)) w:=
 yn (vs:=sV s x) (by rfl) (zo4 s x) (fun r w' hb he hr=>hK r w' hb he hr) hu
theorem zkl (bs:List UInt8):(rd bs 4).1<4294967296:=by
 unfold rd;split
 ·show(0:Nat)<4294967296;decide
 ·exact zcE (by rw[length_take];omega)
theorem jF:jR prog 54 41 (.int .u32 0) 1 4:=⟨by kernel_rfl,by kernel_rfl,by kernel_rfl⟩
theorem zfq (k:IntKind) (l:List Nat):(zu k).flat l=l.map fun n:Nat=>(.int k (n:Int):Value):=by
 induction l with
 |nil=>rfl
 |cons a r ih=>rw[map_cons,<- ih];rfl
theorem zmz (k:IntKind) (l:List Nat) (i v:Nat):((zu k).flat l).set i (.int k (v:Int))=(zu k).flat (l.set i v):=by
 rw[zfq,zfq,List.map_set]
theorem zo6 (bs:List UInt8):(rd bs 2).1<65536:=by
 unfold rd;split
 ·show(0:Nat)<65536;decide
 ·have h:=jA (bs.take 2);have h2:(bs.take 2).length<=2:=by rw[length_take];omega
  have:256 ^ (bs.take 2).length<=256 ^ 2:=Nat.pow_le_pow_right (by omega) h2;dsimp only;omega
end V
/- Contracts of the document's answer (11):Get. -/
namespace V
open Go Go.Proofs Go.RowKit Crc
end V
/- Contracts of the package super and of the document's answer (11):Choose,Other,Same. -/
namespace V
open Go Go.Proofs Go.RowKit Crc
theorem Sli.grown {α:Type} {E:Enc α} {w w':World} {A:Option Addr} {n:Nat} {xs:List α} {row:Option Nat} (h:Sli E w A n xs) (hg:w.grownBy w' row) (hr:∀ a,A=some a->some a.block≠row):Sli E w' A n xs:=by
 refine⟨h.1,h.2.1,fun hn=>?_⟩;obtain⟨a,ha,hs,hc⟩:=h.2.2 hn;refine⟨a,ha,hs,fun j v hj=>hg.cell (hc j v hj) ?_⟩;have:(a.add j).block=a.block:=by unfold Addr.add;split<;>rfl
 rw[this];exact hr a ha
end V
/- Spaces in memory. -/
namespace V
open Go Go.Proofs Go.RowKit Crc
theorem qt {l:Lf} {w:World} {b:Nat} {a:Addr} {cs:List Value} {t:TypeId} {K:l.T->WP} (o:Nat) (x:l.T) (h:Blk w b cs t) (ha:a=⟨b,o,none⟩) (hx:cs[o]?=some (l.val x)) (hK:K x w):ldW l a K w:=by
 subst ha;exact zo h hx hK
abbrev MkL:=Option (Nat×Nat)
def zjd:MkL->Option Addr
 |none=>none
 |some a=>some ⟨a.1,0,none⟩
def zcb:MkL->List Nat
 |none=>[]
 |some a=>[a.1,a.2]
def zje (w:World) (size:Int):MkL->Option (List Nat)->Prop
 |none,none=>True
 |some a,some l=>∃ q,Cnt w a.1 a.2 size q l
 |_,_=>False
theorem Cnt.only {F:Nat->Prop} {w w':World} {b r:Nat} {size:Int} {q:List Value} {l:List Nat} (h:Cnt w b r size q l) (k:Only F w w') (h1:¬F b) (h2:¬F r):Cnt w' b r size q l:=⟨h.head.only k h1,h.row.only k h2,h.ne,h.len,h.fits⟩
theorem zje.only {F:Nat->Prop} {w w':World} {size:Int} {m:MkL} {l:Option (List Nat)} (h:zje w size m l) (k:Only F w w') (hk:∀ j∈zcb m,¬F j):zje w' size m l:=by
 cases m with
 |none=>cases l with
  |none=>trivial
  |some _=>exact h.elim
 |some a=>cases l with
  |none=>exact h.elim
  |some l=>
   obtain⟨q,h⟩:=h;exact⟨q,h.only k (hk _ (by simp[zcb])) (hk _ (by simp[zcb]))⟩
theorem Sli.only {α:Type} {E:Enc α} {F:Nat->Prop} {w w':World} {A:Option Addr} {n:Nat} {xs:List α} (h:Sli E w A n xs) (k:Only F w w') (hr:∀ a,A=some a->¬F a.block):Sli E w' A n xs:=by
 refine⟨h.1,h.2.1,fun hn=>?_⟩;obtain⟨a,e1,e2,e3⟩:=h.2.2 hn;refine⟨a,e1,e2,fun j v hj=>?_⟩;have hc:=e3 j v hj;have hab:(a.add j).block=a.block:=by unfold Addr.add;split<;>rfl
 have hlt:=World.block_lt_of_cell? w _ hc;unfold World.cell? at hc ⊢;rw[k.2.2.2.2 _ hlt (by rw[hab];exact hr a e1)];exact hc
def zaq (x:SLC):List Nat:=(x.1.map fun a=>a.block).toList
def yL (b hb hr nb nr:Nat) (x:SLC) (m:MkL):List Nat:=b::hb::hr::nb::nr::(zaq x++zcb m)
def spV (db:Nat) (s:Sup) (x:SLC) (slot:Int) (hb nb:Nat) (m:MkL):List Value:=
 [.pointer (some ⟨db,0,none⟩),.int .u64 (s.gen:Int),.int .i64 s.size,.int .i64 s.blocks,.int .u32 (s.root:Int),.slice x.1 x.2.1 x.2.2,.int .i64 slot,.pointer (some ⟨hb,0,none⟩),.pointer (some ⟨nb,0,none⟩),.pointer (zjd m)]
structure Spa.Ok (S:Spa):Prop where
 size:S.sup.size=S.dev.size
 blocks:S.sup.blocks=S.dev.blocks
 fits:S.sup.Fits
 held:S.held.length=S.N
 now:S.now.length=S.N
 mark:∀ l,S.mark=some l->l.length=S.N
structure SpM (w:World) (b db:Nat) (S:Spa) (F Fd:Nat->Prop) (x:SLC) (hb hr nb nr:Nat) (m:MkL):Prop where
 box:∃ t,Blk w b (spV db S.sup x S.slot hb nb m) t
 dev:xd w db S.dev Fd
 pgs:Pg w x S.sup.pages
 heldC:∃ q,Cnt w hb hr S.sup.size q S.held
 nowC:∃ q,Cnt w nb nr S.sup.size q S.now
 markC:zje w S.sup.size m S.mark
 own:∀ k,F k↔Fd k\/k∈yL b hb hr nb nr x m
 nodup:(yL b hb hr nb nr x m).Nodup
 apart:∀ k∈yL b hb hr nb nr x m,¬Fd k
 rowlt:∀ k∈zaq x,k<w.heap.size
 ok:S.Ok
variable {w w':World} {b db:Nat} {S:Spa} {F Fd:Nat->Prop} {x:SLC} {hb hr nb nr:Nat} {m:MkL}
theorem SpM.lt (h:SpM w b db S F Fd x hb hr nb nr m):∀ k,F k->k<w.heap.size:=by
 intro k hk;rcases (h.own k).1 hk with hk|hk
 ·exact h.dev.lt k hk
 obtain⟨t,hbx⟩:=h.box;obtain⟨q1,c1⟩:=h.heldC;obtain⟨q2,c2⟩:=h.nowC;simp only [yL,mem_cons,mem_append]at hk;rcases hk with rfl|rfl|rfl|rfl|rfl|hk|hk
 ·exact hbx.lt
 ·exact c1.head.lt
 ·exact c1.row.lt
 ·exact c2.head.lt
 ·exact c2.row.lt
 ·exact h.rowlt k hk
 ·have hm:=h.markC;cases m with
  |none=>cases hk
  |some a=>
   cases hS:S.mark with
   |none=>rw[hS]at hm;exact hm.elim
   |some l=>
    rw[hS]at hm;obtain⟨q,hm⟩:=hm;simp only [zcb,mem_cons,not_mem_nil,or_false]at hk;rcases hk with rfl|rfl
    ·exact hm.head.lt
    ·exact hm.row.lt
theorem SpM.only {G:Nat->Prop} (h:SpM w b db S F Fd x hb hr nb nr m) (k:Only G w w') (hFG:∀ j,F j->¬G j):SpM w' b db S F Fd x hb hr nb nr m:=by
 have hF:∀ j∈yL b hb hr nb nr x m,¬G j:=fun j hj=>hFG j ((h.own j).2 (.inr hj));obtain⟨t,hbx⟩:=h.box;obtain⟨q1,c1⟩:=h.heldC;obtain⟨q2,c2⟩:=h.nowC;refine⟨⟨t,hbx.only k (hF b (by simp[yL]))⟩,h.dev.apart k (fun j hj=>hFG j ((h.own j).2 (.inl hj))),⟨h.pgs.sl.only k (fun a ha=>hF _ (by simp[yL,zaq,ha])),h.pgs.nc⟩,⟨q1,c1.only k (hF _ (by simp[yL])) (hF _ (by simp[yL]))⟩,
  ⟨q2,c2.only k (hF _ (by simp[yL])) (hF _ (by simp[yL]))⟩,h.markC.only k (fun j hj=>hF j (by simp[yL,hj])),h.own,h.nodup,h.apart,fun j hj=>Nat.lt_of_lt_of_le (h.rowlt j hj) k.2.2.2.1,h.ok⟩
theorem SpM.ext (h:SpM w b db S F Fd x hb hr nb nr m) (he:Ext w w'):SpM w' b db S F Fd x hb hr nb nr m:=
 h.only (G:=fun _=>False) (Only.zB he) (fun _ _ h=>h)
theorem SpM.ke {l:List Nat} {q:List Value} (h:SpM w b db S F Fd x hb hr nb nr m) (hg:w.grownBy w' (some nr)) (hc:Cnt w' nb nr S.sup.size q l) (hl:l.length=S.now.length):
  SpM w' b db { S with now:=l } F Fd x hb hr nb nr m:=by
 have hnd:=h.nodup;have hO:Only (fun k=>k=nr) w w':=Only.z8 hg (fun j hj=>.inl (by injection hj with hj;exact hj.symm));have hne:∀ j∈yL b hb hr nb nr x m,j≠nr->¬(fun k=>k=nr) j:=fun j _ h=>h;simp only [yL,nodup_cons,mem_cons,not_or]at hnd;obtain⟨⟨h1,h2,h3,h4,h5⟩,⟨h6,h7,h8,h9⟩,⟨h10,h11,h12⟩,⟨h13,h14⟩,h15,h16⟩:=hnd;obtain⟨t,hbx⟩:=h.box;obtain⟨q1,c1⟩:=h.heldC;refine⟨⟨t,hbx.only hO h4⟩,h.dev.apart hO (fun j hj e=>h.apart nr (by simp[yL]) (by rw[<- show j=nr from e];exact hj)),⟨h.pgs.sl.only hO (fun a ha e=>h15 (mem_append_left _ (by rw[<- show a.block=nr from e];simp[zaq,ha]))),h.pgs.nc⟩,
  ⟨q1,c1.only hO h8 h11⟩,⟨q,hc⟩,h.markC.only hO (fun j hj e=>h15 (List.mem_append_right _ (by rw[<- show j=nr from e];exact hj))),h.own,h.nodup,h.apart,fun j hj=>Nat.lt_of_lt_of_le (h.rowlt j hj) hg.size,⟨h.ok.size,h.ok.blocks,h.ok.fits,h.ok.held,hl.trans h.ok.now,h.ok.mark⟩⟩
theorem SpM.zo7 {d':Dev} (h:SpM w b db S F Fd x hb hr nb nr m) (hst:Step w db Fd d' w') (hd:d'.size=S.dev.size/\d'.blocks=S.dev.blocks):
  ∃ F' Fd',SpM w' b db { S with dev:=d' } F' Fd' x hb hr nb nr m/\(∀ k,F' k->F k\/w.heap.size<=k)/\Only F w w':=by
 obtain⟨Fd',hD,hF,hO⟩:=hst;have hap:=h.apart;have hlt:=h.lt;have hin:∀ j∈yL b hb hr nb nr x m,F j:=fun j hj=>(h.own j).2 (.inr hj);obtain⟨t,hbx⟩:=h.box;obtain⟨q1,c1⟩:=h.heldC;obtain⟨q2,c2⟩:=h.nowC;refine⟨fun k=>Fd' k\/k∈yL b hb hr nb nr x m,Fd',⟨⟨t,hbx.only hO (hap b (by simp[yL]))⟩,hD,⟨h.pgs.sl.only hO (fun a ha=>hap _ (by simp[yL,zaq,ha])),h.pgs.nc⟩,⟨q1,c1.only hO (hap _ (by simp[yL])) (hap _ (by simp[yL]))⟩,
  ⟨q2,c2.only hO (hap _ (by simp[yL])) (hap _ (by simp[yL]))⟩,h.markC.only hO (fun j hj=>hap j (by simp[yL,hj])),fun _=>Iff.rfl,h.nodup,fun j hj hf=>?_,fun j hj=>Nat.lt_of_lt_of_le (h.rowlt j hj) hO.2.2.2.1,⟨h.ok.size.trans hd.1.symm,h.ok.blocks.trans hd.2.symm,h.ok.fits,h.ok.held,h.ok.now,h.ok.mark⟩⟩,?_,?_⟩
 ·rcases hF j hf with x|x
  ·exact hap j hj x
  ·have:=hlt j (hin j hj);omega
 ·rintro j (hj|hj)
  ·rcases hF j hj with x|x
   ·exact .inl ((h.own j).2 (.inl x))
   ·exact .inr x
  ·exact .inl (hin j hj)
 ·obtain⟨o1,o2,o3,o4,o5⟩:=hO;exact⟨o1,o2,o3,o4,fun j hj hf=>o5 j hj (fun e=>hf ((h.own j).2 (.inl e)))⟩
def zV (w:World) (b db:Nat) (S:Spa) (F:Nat->Prop):Prop:=∃ Fd x hb hr nb nr m,SpM w b db S F Fd x hb hr nb nr m
def yw (w:World) (b db:Nat) (F:Nat->Prop) (S':Spa) (w':World):Prop:=∃ F',zV w' b db S' F'/\(∀ k,F' k->F k\/w.heap.size<=k)/\Only F w w'
theorem SpM.zeU (h:SpM w b db S F Fd x hb hr nb nr m):zV w b db S F:=⟨Fd,x,hb,hr,nb,nr,m,h⟩
theorem zV.ext (h:zV w b db S F) (he:Ext w w'):zV w' b db S F:=by
 obtain⟨Fd,x,hb,hr,nb,nr,m,h⟩:=h;exact⟨Fd,x,hb,hr,nb,nr,m,h.ext he⟩
theorem zV.lt (h:zV w b db S F):∀ k,F k->k<w.heap.size:=by
 obtain⟨Fd,x,hb,hr,nb,nr,m,h⟩:=h;exact h.lt
theorem zV.only {G:Nat->Prop} (h:zV w b db S F) (k:Only G w w') (hFG:∀ j,F j->¬G j):zV w' b db S F:=by
 obtain⟨Fd,x,hb,hr,nb,nr,m,h⟩:=h;exact⟨Fd,x,hb,hr,nb,nr,m,h.only k hFG⟩
theorem yw.ext (h:zV w b db S F) (he:Ext w w'):yw w b db F S w':=⟨F,h.ext he,fun k hk=>.inl hk,Only.zB he⟩
theorem yw.trans {w0:World} {F':Nat->Prop} {S':Spa} (hO:Only F w0 w) (hF:∀ k,F' k->F k\/w0.heap.size<=k) (h:yw w b db F' S' w'):yw w0 b db F S' w':=by
 obtain⟨F2,h1,h2,h3⟩:=h;refine⟨F2,h1,fun k hk=>?_,Only.trans hO h3 hF⟩;rcases h2 k hk with x|x
 ·exact hF k x
 ·exact .inr (Nat.le_trans hO.2.2.2.1 x)
end V
/- Contracts of the package space:what may be asked for,Room,what is free. -/
namespace V
open Go Go.Proofs Go.RowKit Crc
variable {w w':World} {b db:Nat} {S:Spa} {F Fd:Nat->Prop} {x:SLC} {hb hr nb nr:Nat} {m:MkL}
structure uK (S:Spa):Prop where
 geo:zW S.sup.size S.sup.blocks=true
 room:zD S.sup.size=S.sup.size-16
 size:128<=S.sup.size/\S.sup.size<=4096
 blocks:S.sup.blocks=(S.N:Int)
 n:8<=S.N/\S.N<=4096
theorem SpM.dims (h:SpM w b db S F Fd x hb hr nb nr m):uK S:=by
 have hg:=h.dev.ok.geo;rw[<- h.ok.size,<- h.ok.blocks]at hg;obtain⟨g1,g2,g3,g4,g5⟩:=xY hg;have:S.sup.blocks=(S.N:Int):=by unfold Spa.N;omega
 exact⟨hg,g1,⟨g2,g3⟩,this,by omega⟩
theorem zo8 (h:SpM w b db S F Fd x hb hr nb nr m) (n:Nat):S.now.getD n 0<65536/\S.held.getD n 0<65536/\cnt S.mark n<65536:=by
 obtain⟨q1,c1⟩:=h.heldC;obtain⟨q2,c2⟩:=h.nowC;refine⟨c2.qz n,c1.qz n,?_⟩;have hm:=h.markC;cases hS:S.mark with
 |none=>simp[cnt]
 |some l=>
  rw[hS]at hm;cases m with
  |none=>exact hm.elim
  |some a=>
   obtain⟨q,hm⟩:=hm;exact hm.qz n
theorem vI (h:SpM w b db S F Fd x hb hr nb nr m) {n:Nat} (hn:n<4294967296):
  Calls prog 73 #[.pointer (some ⟨b,0,none⟩),.int .u32 (n:Int)] w (Ret fun v w'=>v=.bool (S.asked n)/\w'=w):=by
 obtain⟨t,hbx⟩:=h.box;have hd:=h.dims;have hb2:=hd.blocks;have hn2:=hd.n;apply zn1;unfold S73 Spa.asked;refine zg (fun hz=>?_) (fun hz=>?_)
 ·have hz:=of_decide_eq_true hz;refine zs (qt 3 S.sup.blocks hbx (by rfl) (by rfl) ?_);have eb:wrap .u64 S.sup.blocks=(S.N:Int):=by rw[hb2,zx (by omega)]
  rw[zx (by omega),eb];refine zg (fun hq=>?_) (fun hq=>?_)
  ·have hq:=of_decide_eq_true hq;refine zs (qt (l:=.slc) 5 x hbx (by rfl) (by rfl) ?_);refine zb (zaQ (c:=x.2.2) h.pgs.sl) ?_;rintro _ w1 ⟨rfl,rfl⟩;refine⟨_,rfl,?_,rfl⟩;rw[decide_eq_true (show 2<=n by omega),decide_eq_true (show n<S.N by omega)];rfl
  ·have hq:=of_decide_eq_false hq;refine⟨?_,rfl⟩;rw[decide_eq_false (show ¬n<S.N by omega)];simp
 ·have hz:=of_decide_eq_false hz;refine⟨?_,rfl⟩;rw[decide_eq_false (show ¬2<=n by omega)];rfl
theorem qQ (h:SpM w b db S F Fd x hb hr nb nr m) {k:Int} (hk0:-9223372036854775808<=k) (hk:k<9223372036854775808):
  Calls prog 76 #[.pointer (some ⟨b,0,none⟩),.int .i64 k] w (Ret fun v w'=>v=.int .i64 (S.room k)/\Ext w w'):=by
 obtain⟨t,hbx⟩:=h.box;have hd:=h.dims;have h1:=hd.room;have h2:=hd.size;apply zn3;unfold S76 Spa.room;refine zd (by rfl) (zs (qt 2 S.sup.size hbx (by rfl) (by rfl) ?_));refine zb (jj w S.sup.size) ?_;rintro _ w1 ⟨rfl,he⟩;refine⟨_,rfl,?_⟩;have e1:wrap .i64 (zD S.sup.size-2)=zD S.sup.size-2:=wrap_i64 (by omega) (by omega);have e2:wrap .i64 (Int.tdiv (zD S.sup.size-2) 4)=(zD S.sup.size-2) / 4:=by
  rw[Int.tdiv_eq_ediv_of_nonneg (by omega),wrap_i64 (by omega) (by omega)]
 rw[e1,e2];refine zg (fun hz=>?_) (fun hz=>?_)
 ·rw[if_pos (.inl (of_decide_eq_true hz))];exact⟨rfl,he⟩
 have hz:=of_decide_eq_false hz;refine zg (fun hq=>?_) (fun hq=>?_)
 ·rw[if_pos (.inr (of_decide_eq_true hq))];exact⟨rfl,he⟩
 have hq:=of_decide_eq_false hq;rw[if_neg (by omega),wrap_i64 (x:=4*k) (by omega) (by omega),wrap_i64 (by omega) (by omega)];exact⟨rfl,he⟩
theorem zbF (h:SpM w b db S F Fd x hb hr nb nr m) (n:Nat) (hn:n<4294967296):
  Calls prog 75 #[.pointer (zjd m),.int .u32 (n:Int)] w (Ret fun v w'=>v=.int .i64 ((cnt S.mark n:Nat):Int)/\w'=w):=by
 have hm:=h.markC;cases hS:S.mark with
 |none=>
  rw[hS]at hm;cases m with
  |none=>exact zb7 w n
  |some a=>exact hm.elim
 |some l=>
  rw[hS]at hm;cases m with
  |none=>exact hm.elim
  |some a=>
   obtain⟨q,hm⟩:=hm;exact zac hm n hn
theorem jG (h:SpM w b db S F Fd x hb hr nb nr m) (n:Nat) (hn:n<4294967296):
  Calls prog 75 #[.pointer (some ⟨nb,0,none⟩),.int .u32 (n:Int)] w (Ret fun v w'=>v=.int .i64 ((S.now.getD n 0:Nat):Int)/\w'=w):=by
 obtain⟨q,c⟩:=h.nowC;exact zac c n hn
theorem zfO (h:SpM w b db S F Fd x hb hr nb nr m) (n:Nat) (hn:n<4294967296):
  Calls prog 75 #[.pointer (some ⟨hb,0,none⟩),.int .u32 (n:Int)] w (Ret fun v w'=>v=.int .i64 ((S.held.getD n 0:Nat):Int)/\w'=w):=by
 obtain⟨q,c⟩:=h.heldC;exact zac c n hn
theorem zoq {K:WP} {w:World} (h:K w.drew):zA K w:=h
theorem zcc {w:World} {A:Option Addr} {n c:Nat} {xs:List Nat} {g:FuncId} {cap:Array Value} {q:Nat->Bool} (h:Sli (zu .u32) w A n xs) (hen:enterable prog g=true)
  (hq:∀ y∈xs,Calls prog g ([Value.int .u32 (y:Int)]++cap.toList).toArray w (Ret fun v w'=>v=.bool (q y)/\w'=w)):
  Calls prog 71 #[.slice A n c,.func (.func g) #[] cap] w (Ret fun v w'=>v=.bool (xs.any q)/\w'=w):=by
 apply znZ;unfold S71;have hl:=h.len;have hle:=h.le;have hi:Calls prog 119 #[.slice A n c,.func (.func g) #[] cap] w (Ret fun v w'=>(∃ k:Int,v=.int .i64 k/\(0<=k↔xs.any q=true))/\w'=w):=by
  apply zlo;unfold S119;refine zz (fun y w'=>w'=w/\∃ i:Nat,i<=n/\y=((i:Int),())/\(xs.take i).any q=false) (fun y=>(n-y.1).toNat) ⟨rfl,0,by omega,rfl,rfl⟩ ?_;rintro _ w1 ⟨rfl,i,hi,rfl,hno⟩;dsimp only
  by_cases hlt:i<n
  ·refine zf (decide_eq_true (by omega)) ?_;refine zU h (by omega) (by omega) ?_;rw[Int.toNat_natCast];have e:xs[i]?=some (xs.getD i 0):=by rw[getD_eq_getElem?_getD,List.getElem?_eq_getElem (by omega)];rfl
   refine xU hen (zb (hq (xs.getD i 0) (mem_of_getElem? e)) ?_);rintro _ w2 ⟨rfl,rfl⟩;refine⟨_,rfl,?_⟩;have e2:(xs.take (i+1)).any q=q (xs.getD i 0):=by
    rw[take_add_one,e,List.any_append,hno];simp
   refine zg (fun hz=>?_) (fun hz=>?_)
   ·refine⟨⟨i,rfl,fun _=>?_,fun _=>by omega⟩,rfl⟩;rw[List.any_eq_true];exact⟨_,mem_of_getElem? e,hz⟩
   ·refine⟨⟨rfl,i+1,by omega,by rw[wrap_i64 (by omega) (by omega)];rfl,by rw[e2];exact hz⟩,by rw[wrap_i64 (by omega) (by omega)];omega⟩
  ·obtain rfl:i=n:=by omega
   refine zd (decide_eq_false (by omega)) ?_;rw[take_of_length_le (by omega)]at hno;refine⟨⟨-1,rfl,fun h=>by omega,fun h=>by rw[hno]at h;cases h⟩,rfl⟩
 refine zb hi ?_;rintro _ w1 ⟨⟨k,rfl,hk⟩,rfl⟩;refine⟨k,rfl,?_,rfl⟩;have e:decide (k>=0)=xs.any q:=by rw[Bool.eq_iff_iff,decide_eq_true_iff];exact hk
 rw[<- e]
def kY (S:Spa):List (List Value):=S.ye.map fun n:Nat=>[.int .u32 (n:Int)]
def jk (S:Spa) (n:Nat):List Nat:=(List.range n).filter fun n=>decide (2<=n)&&S.yx n
theorem qE (S:Spa) (n:Nat):jk S (n+1)=if (decide (2<=n)&&S.yx n)=true then jk S n++[n] else jk S n:=by
 unfold jk;rw[range_succ,List.filter_append];simp only [List.filter_cons,List.filter_nil];split<;>simp
theorem ziv (S:Spa):∀ (k n:Nat),(jk S n) <+:(jk S (n+k))
 |0,n=>List.prefix_refl _
 |k+1,n=>by
  refine(ziv S k n).trans ?_;rw[<- Nat.add_assoc,qE];split
  ·exact List.prefix_append _ _
  ·exact List.prefix_refl _
theorem zkm {S:Spa} {n:Nat} (hn:n<S.N) (hf:(decide (2<=n)&&S.yx n)=true):S.ye[(jk S n).length]?=some n:=by
 have h1:jk S (n+1) <+:S.ye:=by
  have:=ziv S (S.N-(n+1)) (n+1);rw[show n+1+(S.N-(n+1))=S.N by omega]at this;exact this
 rw[qE,if_pos hf]at h1;obtain⟨r,hr⟩:=h1;rw[<- hr];simp
def zjf (b r:Nat) (P:WP):WP:=fun w=>Blk w r [.pointer (some ⟨b,0,none⟩)] 48/\P w
theorem zjg (h:SpM w b db S F Fd x hb hr nb nr m):
  Calls prog 84 #[.pointer (some ⟨b,0,none⟩)] w (Ret fun v w'=>Iter prog v (kY S) (zjf b w.heap.size fun w=>SpM w b db S F Fd x hb hr nb nr m)/\zjf b w.heap.size (fun w=>SpM w b db S F Fd x hb hr nb nr m) w'/\w'.heap.size=w.heap.size+1/\Ext w w'):=by
 apply zoa;unfold S84;apply yG;have he:=(Ext.refl w).alloc (.cells #[.pointer (some ⟨b,0,none⟩)] 48);have hdim:=h.dims;have hN:=hdim.n;have hbl:=hdim.blocks;refine⟨⟨_,_,rfl,by kernel_rfl,fun l J w1 hJ hR hdr hY=>?_⟩,⟨Blk.new w _ _,h.ext he⟩,by simp,he⟩;apply zlu;unfold S130;have hlen:(kY S).length=S.ye.length:=by simp[kY]
 refine zz (fun y w'=>∃ n:Nat,2<=n/\n<=S.N/\y=((n:Int),())/\J (jk S n).length w') (fun y=>(S.N-y.1).toNat) ⟨2,by omega,by omega,rfl,?_⟩ ?_
 ·have:(jk S 2).length=0:=by rw[qE,if_neg (by simp),qE,if_neg (by simp)];rfl
  rw[this];exact hJ
 rintro _ w2 ⟨n,h2,hn,rfl,hJ2⟩;dsimp only;have hR2:=hR _ _ hJ2;obtain⟨hbk,hS⟩:=hR2;obtain⟨t,hbx⟩:=hS.box;refine zo (x:=some ⟨b,0,none⟩) hbk (by rfl) (zs (qt 3 S.sup.blocks hbx (by rfl) (by rfl) ?_));rw[wrap_i64 (by omega) (by omega)]
 by_cases hlt:n<S.N
 ·refine zf (decide_eq_true (by omega)) ?_;have hJ3:=hdr _ _ hJ2;have hlt32:n<4294967296:=by omega
  refine zoq ?_;generalize w2.drew=w3 at hJ3 ⊢;obtain⟨hbk,hS⟩:=hR _ _ hJ3;obtain⟨t,hbx⟩:=hS.box;obtain⟨c1,c2,c3⟩:=zo8 hS n;refine zo (x:=some ⟨b,0,none⟩) hbk (by rfl) (zs (qt (l:=.ptr) 8 (some ⟨nb,0,none⟩) hbx (by rfl) (by rfl) ?_));refine zo (x:=some ⟨b,0,none⟩) hbk (by rfl) (zs (qt (l:=.ptr) 7 (some ⟨hb,0,none⟩) hbx (by rfl) (by rfl) ?_));refine zo (x:=some ⟨b,0,none⟩) hbk (by rfl) (zs (qt (l:=.ptr) 9 (zjd m) hbx (by rfl) (by rfl) ?_));refine zb (jG hS n hlt32) ?_;rintro _ w4 ⟨rfl,rfl⟩;refine⟨_,rfl,?_⟩;refine⟨?_,zb (zfO hS n hlt32) ?_⟩
  ·intro p hp q hq;simp only [mem_cons,not_mem_nil,or_false]at hp;rcases hp with rfl|rfl|rfl|rfl<;>(simp only [mem_cons,not_mem_nil,or_false]at hq;subst hq)
   ·exact(hbx.cell 9).trans rfl
   ·exact(hbk.cell 0).trans rfl
   ·exact(hbx.cell 7).trans rfl
   ·exact(hbk.cell 0).trans rfl
  rintro _ w5 ⟨rfl,rfl⟩;refine⟨_,rfl,?_⟩;refine⟨?_,zb (zbF hS n hlt32) ?_⟩
  ·intro p hp q hq;simp only [mem_cons,not_mem_nil,or_false]at hp;rcases hp with rfl|rfl<;>(simp only [mem_cons,not_mem_nil,or_false]at hq;subst hq)
   ·exact(hbx.cell 9).trans rfl
   ·exact(hbk.cell 0).trans rfl
  rintro _ w6 ⟨rfl,rfl⟩;refine⟨_,rfl,?_⟩;rw[wrap_i64 (x:=(S.now.getD n 0:Int)+_) (by omega) (by omega),wrap_i64 (by omega) (by omega)];have hfree:S.yx n=true↔S.now.getD n 0=0/\S.held.getD n 0=0/\cnt S.mark n=0:=by simp[Spa.yx,and_assoc]
  have hnx:wrap .u32 ((n:Int)+1)=((n+1:Nat):Int):=by rw[show(n:Int)+1=((n+1:Nat):Int) by omega,uC (by omega)]
  refine zg (fun hz=>?_) (fun hz=>?_)
  ·have hz:=beq_iff_eq.1 hz;have hf:(decide (2<=n)&&S.yx n)=true:=by
    rw[hfree.2 (by omega),decide_eq_true h2];rfl
   have hget:=zkm hlt hf;have hidx:(jk S n).length<(kY S).length:=by
    rw[hlen];exact(List.getElem?_eq_some_iff.1 hget).1
   refine .inr ⟨l,rfl,?_⟩;have hy:=hY _ w6 hidx hJ3;have el:(kY S)[(jk S n).length]=[.int .u32 (n:Int)]:=by
    obtain⟨h1,h2⟩:=List.getElem?_eq_some_iff.1 hget;simp[kY,h2]
   rw[el]at hy;obtain⟨fn,tmps,asg,bd,hy1,hy2⟩:=hy;refine⟨fn,tmps,asg,bd,hy1,RoundIn.mono hy2 ?_⟩;rintro(v|c|_) w7 hv
   ·obtain⟨rfl,hJ7⟩:=hv;refine⟨true,rfl,zd (by rfl) ?_⟩;rw[hnx];refine⟨⟨n+1,by omega,by omega,rfl,?_⟩,by omega⟩;rw[qE,if_pos hf,length_append];exact hJ7
   ·exact hv
   ·exact hv
  ·have hz:=beq_eq_false_iff_ne.1 hz;rw[hnx];refine⟨⟨n+1,by omega,by omega,rfl,?_⟩,by omega⟩;rw[qE,if_neg (by
    intro hh
    simp only [Bool.and_eq_true,hfree]at hh
    omega)]
   exact hJ3
 ·refine zd (decide_eq_false (by omega)) ?_;obtain rfl:n=S.N:=by omega
  rw[hlen];exact hJ2
end V
/- Contracts of the package space:Free,take. -/
namespace V
open Go Go.Proofs Go.RowKit Crc
variable {w w':World} {b db:Nat} {S:Spa} {F Fd:Nat->Prop} {x:SLC} {hb hr nb nr:Nat} {m:MkL}
theorem SpM.qk {a c:Nat} (h:SpM w b db S F Fd x hb hr nb nr m) (hs:yR a c w w') (h1:¬F a) (h2:¬F c):SpM w' b db S F Fd x hb hr nb nr m:=by
 refine h.only (G:=fun k=>k=a\/k=c) ⟨hs.1,hs.2.1,hs.2.2.1,Nat.le_of_eq hs.2.2.2.1.symm,fun k hk hg=>hs.2.2.2.2 k (fun e=>hg (.inl e)) (fun e=>hg (.inr e))⟩ ?_;rintro j hj (rfl|rfl)
 ·exact h1 hj
 ·exact h2 hj
theorem zmA (S:Spa):S.zQ<=S.N:=by
 unfold Spa.zQ Spa.ye;exact Nat.le_trans (List.length_filter_le _ _) (by simp)
theorem zc2 (h:SpM w b db S F Fd x hb hr nb nr m):
  Calls prog 26 #[.pointer (some ⟨b,0,none⟩)] w (Ret fun v w'=>v=.int .i64 (S.zQ:Int)/\Ext w w'):=by
 have hdim:=h.dims;have hN:=hdim.n;have hle:=zmA S;apply znz;unfold S26;refine zr fun r1 w1 hb1 he1 hr1 hs1=>?_;refine zd (by rfl) ?_;refine zb (zjg (h.ext he1)) ?_;rintro v w2 ⟨hit,hR2,hs2,he2⟩;refine⟨v,rfl,?_⟩;have hlt:=(h.ext he1).lt;have h12:=he2.size;have hr2:=hR2.1.lt;have hlen:(kY S).length=S.zQ:=by simp[kY,Spa.zQ]
 refine zaJ (fun i w'=>zjf b w1.heap.size (fun w=>SpM w b db S F Fd x hb hr nb nr m) w'/\Blk w' r1 [.int .i64 (i:Int)] 3/\Ext w w') hit (fun i w' hI=>hI.1) ?_ ?_ ?_ ?_ ?_
 ·rintro i w' ⟨⟨g1,g2⟩,g3,g4⟩;have hx:=(Ext.refl w').drew;exact⟨⟨g1.ext hx,g2.ext hx⟩,g3.ext hx,g4.trans hx⟩
 ·rintro i w' w'' hs ⟨⟨g1,g2⟩,g3,g4⟩;refine⟨⟨hs.blk g1 (by omega),g2.qk hs (fun hf=>?_) (fun hf=>?_)⟩,hs.blk g3 (by omega),hs.ext g4 (by have:=he1.size;omega)⟩
  ·have:=hlt _ hf;omega
  ·have:=hlt _ hf;omega
 ·intro o;have hx:Ext w2 ((w2.alloc (.deferred (some []))).alloc o):=((Ext.refl w2).alloc _).alloc _;exact⟨⟨hR2.1.ext hx,hR2.2.ext hx⟩,(hb1.ext he2).ext hx,(he1.trans he2).trans hx⟩
 ·rintro i hi w' N jump ⟨⟨g1,g2⟩,g3,g4⟩ hsz hN'
  have hi':i<S.ye.length:=by have:(kY S).length=S.ye.length:=by simp[kY]
                             omega
  refine⟨((S.ye[i]:Nat),()),by simp[kY],?_⟩;refine zo (x:=(i:Int)) g3 (by rfl) ?_;rw[wrap_i64 (by omega) (by omega)];refine zS g3 (by show 0<1;omega) ?_;have hg:=yH w' r1 0 (.int .i64 ((i:Int)+1));refine hN' _ ⟨⟨g1.other (p:=⟨r1,0,none⟩) (by show r1≠w1.heap.size;omega) _,?_⟩,g3.set 0 (.int .i64 ((i:Int)+1)),g4.set (p:=⟨r1,0,none⟩) (by show w.heap.size<=r1;omega) _⟩ (by simp) (fun k hk=>Below.heap_setCell _ _ _ _ (by show k≠r1;omega));refine g2.only (Only.z8 (F:=fun k=>k=r1) hg (fun j hj=>.inl (by injection hj with hj;exact hj.symm))) (fun j hj e=>?_);have hF:=h.lt j hj;have:j=r1:=e;omega
 ·rintro w' ⟨⟨g1,g2⟩,g3,g4⟩ hsz hdf;rw[qT];rw[hlen]at g3;refine zo (x:=(S.zQ:Int)) g3 (by rfl) ?_;refine zS g3 (by show 0<1;omega) ?_;have g5:=g3.set 0 (.int .i64 (S.zQ:Int));refine ja ?_ ?_
  ·rw[Below.heap_setCell _ _ _ _ (by show w2.heap.size≠r1;omega)];exact hdf
  have hsb:=zX (a:=w2.heap.size) (b:=w2.heap.size+1) (w:=w'.setCell ⟨r1,0,none⟩ (.int .i64 (S.zQ:Int))) (o:=.deferred none) (.inl rfl);refine zo (x:=(S.zQ:Int)) (hsb.blk g5 (by omega)) (by rfl) ?_;refine⟨rfl,hsb.ext (g4.set (p:=⟨r1,0,none⟩) (by show w.heap.size<=r1;omega) _) (by have:=he1.size;omega)⟩
def subs (l:List Nat):List Nat->List Nat
 |[]=>l
 |n::r=>subs (xk l n) r
theorem zc3 (l:List Nat):∀ a c:List Nat,subs l (a++c)=subs (subs l a) c
 |[],_=>rfl
 |n::r,c=>zc3 (xk l n) r c
theorem zc4 (l:List Nat) (n:Nat):(xk l n).length=l.length:=by unfold xk;split<;>simp
theorem zar:∀ (a l:List Nat),(subs l a).length=l.length
 |[],l=>rfl
 |n::r,l=>by rw[subs,zar r,zc4]
theorem zcG (h:SpM w b db S F Fd x hb hr nb nr m) {n:Nat} (hn:n<4294967296):
  Calls prog 87 #[.pointer (some ⟨nb,0,none⟩),.int .u32 (n:Int)] w (Ret fun v w'=>v=.tuple #[.int .i64 (zbg S.now n:Int),.int .i64 (atE S.now n)]/\SpM w' b db { S with now:=xk S.now n } F Fd x hb hr nb nr m/\w.grownBy w' (some nr)):=by
 obtain⟨q,c⟩:=h.nowC;refine(zkh c n hn).mono (Ret.mono ?_);rintro v w' ⟨rfl,hc,hg⟩;exact⟨rfl,h.ke hg hc (zc4 _ _),hg⟩
theorem zeV {A:Option Addr} {n c r1 r2:Nat} {ns:List Nat} (h:SpM w b db S F Fd x hb hr nb nr m) (h1:Blk w r1 [.slice A n c] 54) (h2:Blk w r2 [.pointer (some ⟨b,0,none⟩)] 48) (hs:Sli (zu .u32) w A n ns)
  (hns:∀ k∈ns,k<4294967296) (hf1:r1≠nr) (hf2:r2≠nr) (hA:∀ a,A=some a->a.block≠nr):
  uv prog 122 [.pointer (some ⟨r1,0,none⟩),.pointer (some ⟨r2,0,none⟩)] w fun _ w'=>SpM w' b db { S with now:=subs S.now ns } F Fd x hb hr nb nr m/\w.grownBy w' (some nr):=by
 apply zj4;unfold S122;have hl:=hs.len;have hle:=hs.le;refine zo (x:=(A,n,c)) h1 (by rfl) ?_;dsimp only;refine zz (fun y w'=>∃ i:Nat,i<=n/\y=((i:Int),())/\SpM w' b db { S with now:=subs S.now (ns.take i) } F Fd x hb hr nb nr m/\w.grownBy w' (some nr)) (fun y=>(n-y.1).toNat) ⟨0,by omega,rfl,h,xD _ _⟩ ?_;rintro _ w1 ⟨i,hi,rfl,hS,hg⟩;dsimp only
 by_cases hlt:i<n
 ·refine zf (decide_eq_true (by omega)) ?_;have hs1:Sli (zu .u32) w1 A n ns:=hs.grown hg (fun a ha e=>hA a ha (by injection e));refine zU hs1 (by omega) (by omega) ?_;rw[Int.toNat_natCast];have e:ns[i]?=some (ns.getD i 0):=by rw[getD_eq_getElem?_getD,List.getElem?_eq_getElem (by omega)];rfl
  obtain⟨t,hbx⟩:=hS.box;refine zo (x:=some ⟨b,0,none⟩) (h2.grown hg (by simpa using hf2)) (by rfl) (zs (qt (l:=.ptr) 8 (some ⟨nb,0,none⟩) hbx (by rfl) (by rfl) ?_));refine zb (zcG hS (hns _ (mem_of_getElem? e))) ?_;rintro _ w2 ⟨rfl,hS2,hg2⟩;refine⟨(_,_,()),rfl,?_⟩;have e2:subs S.now (ns.take (i+1))=xk (subs S.now (ns.take i)) (ns.getD i 0):=by
   rw[take_add_one,e,zc3];rfl
  refine⟨⟨i+1,by omega,by rw[wrap_i64 (by omega) (by omega)];rfl,by rw[e2];exact hS2,xb hg hg2 (fun j hj=>.inl hj)⟩,by rw[wrap_i64 (by omega) (by omega)];omega⟩
 ·refine zd (decide_eq_false (by omega)) ?_;rw[take_of_length_le (by omega)]at hS;exact⟨hS,hg⟩
end V
/- Contracts of the package space:take. -/
namespace V
open Go Go.Proofs Go.RowKit Crc
theorem ziw {T:Type} {x0:T} {B:T->(T->WP)->WP} {w:World} (I:T->Nat->WP) (k0:Nat) (h0:I x0 k0 w)
  (h:∀ x k w (J:T->WP),I x k w->(∀ x' k' w',k'<k->I x' k' w'->J x' w')->B x J w):zH T x0 B w:=by
 classical
 refine⟨fun x w=>∃ k,I x k w,fun x w=>if hh:∃ k,I x k w then Classical.choose (least hh) else 0,⟨k0,h0⟩,?_⟩;rintro x w ⟨k,hk⟩;have hh:∃ k,I x k w:=⟨k,hk⟩;have hs:=Classical.choose_spec (least hh);refine h x _ w _ hs.1 (fun x' k' w' hlt hI=>⟨⟨k',hI⟩,?_⟩);have hh':∃ k,I x' k w':=⟨k',hI⟩;simp only [dif_pos hh',dif_pos hh];exact Nat.lt_of_le_of_lt ((Classical.choose_spec (least hh')).2 k' hI) hlt
theorem qA {l r:List Nat} (hl:l.length=r.length) (h:∀ k,l.getD k 0=r.getD k 0):l=r:=by
 apply List.ext_getElem hl;intro k h1 h2;have:=h k;rw[getD_eq_getElem?_getD,getD_eq_getElem?_getD,List.getElem?_eq_getElem h1,List.getElem?_eq_getElem h2]at this;exact this
theorem yr (l:List Nat) (i k x:Nat):(l.set i x).getD k 0=if i=k/\k<l.length then x else l.getD k 0:=by
 rw[getD_eq_getElem?_getD,getD_eq_getElem?_getD,List.getElem?_set]
 by_cases hik:i=k
 ·subst hik
  by_cases hk:i<l.length
  ·simp[hk]
  ·simp[hk]
 ·rw[if_neg hik,if_neg (fun h=>hik h.1)]
def onL (l:List Nat) (ns:List Nat):List Nat:=ns.foldl (fun l n=>l.set n 1) l
theorem zjh (l a:List Nat) (n:Nat):onL l (a++[n])=(onL l a).set n 1:=by simp[onL]
theorem qF:∀ (ns l:List Nat),(onL l ns).length=l.length
 |[],l=>rfl
 |n::r,l=>by rw[onL,foldl_cons];show(onL (l.set n 1) r).length=_;rw[qF r];simp
theorem zix:∀ (ns l:List Nat) (k:Nat),(∀ n∈ns,n<l.length)->(onL l ns).getD k 0=if k∈ns then 1 else l.getD k 0
 |[],l,k,_=>by simp[onL]
 |n::r,l,k,h=>by
  show(onL (l.set n 1) r).getD k 0=_;rw[zix r _ k (fun j hj=>by rw[length_set];exact h j (mem_cons_of_mem _ hj)),yr];have hn:=h n mem_cons_self
  by_cases hk:k∈r
  ·rw[if_pos hk,if_pos (mem_cons_of_mem _ hk)]
  ·rw[if_neg hk]
   by_cases hkn:n=k
   ·subst hkn;rw[if_pos ⟨rfl,hn⟩,if_pos mem_cons_self]
   ·rw[if_neg (fun e=>hkn e.1),if_neg (fun e=>by rcases mem_cons.1 e with e|e;exact hkn e.symm;exact hk e)]
theorem zdz:∀ (ns l:List Nat) (k:Nat),ns.Nodup->(∀ n∈ns,2<=n/\n<l.length/\l.getD n 0≠0)->(subs l ns).getD k 0=if k∈ns then l.getD k 0-1 else l.getD k 0
 |[],l,k,_,_=>by simp[subs]
 |n::r,l,k,hnd,h=>by
  obtain⟨h2,hlt,h0⟩:=h n mem_cons_self;obtain⟨hnr,hnd⟩:=nodup_cons.1 hnd;have ea:atE l n=0:=by unfold atE;rw[if_neg (by omega),if_neg h0]
  have es:xk l n=l.set n (l.getD n 0-1):=by
   unfold xk;rw[if_pos ea]
  show(subs (xk l n) r).getD k 0=_;rw[es,zdz r _ k hnd (fun j hj=>?_),yr]
  ·by_cases hkn:n=k
   ·subst hkn;rw[if_neg hnr,if_pos ⟨rfl,hlt⟩,if_pos mem_cons_self]
   ·rw[if_neg (show ¬(n=k/\k<l.length) from fun e=>hkn e.1)]
    by_cases hk:k∈r
    ·rw[if_pos hk,if_pos (mem_cons_of_mem _ hk)]
    ·rw[if_neg hk,if_neg (fun e=>by rcases mem_cons.1 e with e|e;exact hkn e.symm;exact hk e)]
  ·obtain⟨g1,g2,g3⟩:=h j (mem_cons_of_mem _ hj);refine⟨g1,by rw[length_set];exact g2,?_⟩;rw[yr,if_neg (show ¬(n=j/\j<l.length) from fun e=>hnr (e.1▸hj))];exact g3
structure Marked (S:Spa) (ns:List Nat):Prop where
 nodup:ns.Nodup
 each:∀ n∈ns,2<=n/\n<S.now.length/\S.now.getD n 0=0/\cnt S.mark n≠0
theorem Marked.get {S:Spa} {ns:List Nat} (h:Marked S ns) (k:Nat):(onL S.now ns).getD k 0=if k∈ns then 1 else S.now.getD k 0:=zix _ _ _ (fun n hn=>(h.each n hn).2.1)
theorem Marked.back {S:Spa} {ns:List Nat} (h:Marked S ns):subs (onL S.now ns) ns=S.now:=by
 refine qA (by rw[zar,qF]) (fun k=>?_);rw[zdz _ _ _ h.nodup (fun n hn=>?_),h.get]
 ·split
  ·rename_i hk;have:=(h.each k hk).2.2.1;omega
  ·rfl
 ·obtain⟨g1,g2,g3,g4⟩:=h.each n hn;refine⟨g1,by rw[qF];exact g2,?_⟩;rw[h.get,if_pos hn]
  decide
theorem Marked.zor {S:Spa} {ns:List Nat} (h:Marked S ns) {n:Nat} (hn:n∉ns):subs ((onL S.now ns).set n 1) ns=S.now.set n 1:=by
 refine qA (by rw[zar,length_set,qF,length_set]) (fun k=>?_);rw[zdz _ _ _ h.nodup (fun j hj=>?_),yr,yr,h.get,qF]
 ·by_cases hk:k∈ns
  ·rw[if_pos hk,if_neg (show ¬(n=k/\k<S.now.length) from fun e=>hn (e.1▸hk)),if_pos hk,if_neg (show ¬(n=k/\k<S.now.length) from fun e=>hn (e.1▸hk))];have:=(h.each k hk).2.2.1;omega
  ·rw[if_neg hk,if_neg hk]
 ·obtain⟨g1,g2,g3,g4⟩:=h.each j hj;refine⟨g1,by rw[length_set,qF];exact g2,?_⟩;rw[yr,if_neg (show ¬(n=j/\j<(onL S.now ns).length) from fun e=>hn (e.1▸hj)),h.get,if_pos hj]
  decide
theorem zeb {p:Nat->Bool} {n N:Nat} (hn:n<N) (hp:p n=true) (hno:∀ j,j<n->p j=false):(List.range N).findIdx p=n:=by
 have h1:(List.range N).findIdx p<(List.range N).length:=List.findIdx_lt_length_of_exists ⟨n,mem_range.2 hn,hp⟩;rw[length_range]at h1;rcases Nat.lt_trichotomy ((List.range N).findIdx p) n with h|h|h
 ·have:=List.findIdx_getElem (p:=p) (xs:=List.range N) (w:=by rw[length_range];exact h1);rw[getElem_range,hno _ h]at this;cases this
 ·exact h
 ·have:=List.not_of_lt_findIdx (p:=p) (xs:=List.range N) h;rw[getElem_range,hp]at this;simp at this
theorem zP {S:Spa} {n:Nat}:S.yx n=true↔S.now.getD n 0=0/\S.held.getD n 0=0/\cnt S.mark n=0:=by simp[Spa.yx,and_assoc]
theorem jT {l hl:List Nat} {n:Nat}:qD l hl n=true↔l.getD n 0=0/\hl.getD n 0=0:=by simp[qD]
theorem Marked.take {S:Spa} {ns:List Nat} (h:Marked S ns) (hlt:zC (onL S.now ns) S.held<S.now.length) (h0:cnt S.mark (zC (onL S.now ns) S.held)=0):S.zC=zC (onL S.now ns) S.held:=by
 have hf:=jT.1 (zdv (l:=onL S.now ns) (hl:=S.held) (by rw[qF];exact hlt));have hg:=h.get (zC (onL S.now ns) S.held);refine zeb hlt (zP.2 ⟨?_,hf.2,h0⟩) (fun j hj=>?_)
 ·by_cases hk:zC (onL S.now ns) S.held∈ns
  ·exact absurd h0 (h.each _ hk).2.2.2
  ·rw[if_neg hk]at hg;omega
 ·have:=zb9 hj;cases hq:S.yx j with
  |false=>rfl
  |true=>
   obtain⟨g1,g2,g3⟩:=zP.1 hq;have hgj:=h.get j
   by_cases hk:j∈ns
   ·exact absurd g3 (h.each _ hk).2.2.2
   ·rw[if_neg hk]at hgj;rw[jT.2 ⟨by omega,g2⟩]at this;cases this
theorem Marked.none {S:Spa} {ns:List Nat} (h:Marked S ns) (hlt:¬zC (onL S.now ns) S.held<S.now.length):¬S.zC<S.now.length:=by
 intro hh;have hp:=List.findIdx_getElem (p:=S.yx) (xs:=List.range S.now.length) (w:=by rw[length_range];exact hh);rw[getElem_range]at hp;obtain⟨g1,g2,g3⟩:=zP.1 hp;have hgj:=h.get S.zC;have hk:S.zC∉ns:=fun hk=>absurd g3 (h.each _ hk).2.2.2;have g1':S.now.getD S.zC 0=0:=g1;rw[if_neg hk]at hgj;have:=zb9 (l:=onL S.now ns) (hl:=S.held) (i:=S.zC) (by omega);have hf:qD (onL S.now ns) S.held S.zC=true:=jT.2 ⟨by omega,g2⟩;rw[hf]at this;cases this
variable {w w':World} {b db:Nat} {S:Spa} {F Fd:Nat->Prop} {x:SLC} {hb hr nb nr:Nat} {m:MkL}
theorem zmB (h:SpM w b db S F Fd x hb hr nb nr m):
  Calls prog 116 #[.pointer (some ⟨nb,0,none⟩),.pointer (some ⟨hb,0,none⟩)] w (Ret fun v w'=>v=.tuple #[.int .u32 ((takeN S.now S.held:Nat):Int),.int .i64 (yP S.now S.held)]/\SpM w' b db { S with now:=yQ S.now S.held } F Fd x hb hr nb nr m/\w.grownBy w' (some nr)):=by
 obtain⟨q,c⟩:=h.nowC;have hnd:=h.nodup;simp only [yL,nodup_cons,mem_cons,not_or]at hnd;refine(zd9 c (.inr ⟨hb,hr,rfl,h.heldC,by rw[h.ok.held,h.ok.now],hnd.2.1.2.2.1,hnd.2.2.1.2.1⟩)).mono (Ret.mono ?_);rintro v w' ⟨rfl,hc,hg⟩;exact⟨rfl,h.ke hg hc (by unfold yQ;split<;>simp),hg⟩
theorem zfr:∀ {N:Nat} {ns:List Nat},ns.Nodup->(∀ n∈ns,n<N)->ns.length<=N
 |0,ns,_,hb=>by
  cases ns with
  |nil=>exact Nat.le_refl _
  |cons a r=>have:=hb a mem_cons_self;omega
 |N+1,ns,h,hb=>by
  have h2:=zfr (N:=N) (ns:=ns.erase N) (h.erase N) (fun n hn=>by
   have:=hb n (List.mem_of_mem_erase hn)
   have:=(h.mem_erase_iff.1 hn).1
   omega)
  rw[List.length_erase]at h2;split at h2<;>omega
theorem zhJ (h:SpM w b db S F Fd x hb hr nb nr m) (h01:S.now.getD 0 0≠0/\S.now.getD 1 0≠0):
  Calls prog 77 #[.pointer (some ⟨b,0,none⟩)] w (Ret fun v w'=>v=.tuple #[.int .u32 ((S.takeN:Nat):Int),.int .i64 S.yP]/\SpM w' b db { S with now:=S.yQ } F Fd x hb hr nb nr m/\Only F w w'):=by
 have hFlt:=h.lt;have hnrF:F nr:=(h.own nr).2 (.inr (by simp[yL]));have hdim:=h.dims;have hN:=hdim.n;have hlen:=h.ok.now;apply zn4;unfold S77;refine zr fun r1 w1 hb1 he1 hr1 hs1=>?_;refine zr fun r2 w2 hb2 he2 hr2 hs2=>?_;have hnr:=hFlt nr hnrF;have hb1:=hb1.ext he2;have he:=he1.trans he2;have hz:=he1.size;refine ziw (fun _ k w'=>∃ (ns:List Nat) (A:Option Addr) (c:Nat),k=S.N-ns.length/\Marked S ns/\SpM w' b db { S with now:=onL S.now ns } F Fd x hb hr nb nr m/\Blk w' r1 [.pointer (some ⟨b,0,none⟩)] 48
  /\ Blk w' r2 [.slice A ns.length c] 54/\Owni (zu .u32) 41 w' w2.heap.size A ns.length c ns/\Only F w w') (S.N-0) ⟨[],none,0,rfl,⟨List.nodup_nil,by simp⟩,h.ext he,hb1,hb2,Owni.nil _ _ _,Only.zB he⟩ ?_
 rintro⟨⟩ k w3 J ⟨ns,A,c,rfl,hM,hS,g1,g2,g3,g4⟩ hJ;refine zM fun w4 he4 _ _=>?_;have hS:=hS.ext he4;have g1:=g1.ext he4;have g2:=g2.ext he4;have g3:=g3.ext he4;have g4:=Only.trans g4 (Only.zB (F:=F) he4) (fun j hj=>.inl hj);obtain⟨t,hbx⟩:=hS.box;refine zo (x:=some ⟨b,0,none⟩) g1 (by rfl) (zs (qt (l:=.ptr) 8 (some ⟨nb,0,none⟩) hbx (by rfl) (by rfl) ?_));refine zo (x:=some ⟨b,0,none⟩) g1 (by rfl) (zs (qt (l:=.ptr) 7 (some ⟨hb,0,none⟩) hbx (by rfl) (by rfl) ?_));refine zb (zmB hS) ?_;rintro _ w5 ⟨rfl,hS5,hg5⟩;refine⟨(((takeN (onL S.now ns) S.held:Nat):Int),yP (onL S.now ns) S.held,()),rfl,?_⟩;have hg5':∀ j,some nr=some j->F j\/w.heap.size<=j:=fun j hj=>.inl (by injection hj with hj;subst hj;exact hnrF);have o5:Only F w w5:=Only.trans g4 (Only.z8 (F:=F) hg5 (fun j hj=>.inl (by injection hj with hj;subst hj;exact hnrF))) (fun j hj=>.inl hj);have g1:=g1.grown hg5 (by simp;omega);have g2:=g2.grown hg5 (by simp;omega);have hge:∀ j,orow A=some j->w2.heap.size<=j:=g3.row;have g3:=g3.grown hg5 (fun j hj e=>by injection hj with hj;subst hj;have:=hge _ e;have:=he.size;omega);have hn32:∀ n∈ns,n<4294967296:=fun n hn=>by have:=(hM.each n hn).2.1;omega
 have hAnr:∀ a,A=some a->a.block≠nr:=fun a ha e=>by have:=hge a.block (by rw[ha];rfl);have:=he.size;omega
 -- the end: what was marked goes back
 have fin:∀ {l:List Nat} {l':List Nat} {w6:World} {v:Value},SpM w6 b db { S with now:=l } F Fd x hb hr nb nr m->Ext w5 w6->subs l ns=l'->v=.tuple #[.int .u32 ((S.takeN:Nat):Int),.int .i64 S.yP]->l'=S.yQ->
   zR prog (⟨.fn (.func 122) #[.pointer (some ⟨r2,0,none⟩),.pointer (some ⟨r1,0,none⟩)],#[]⟩::[]) (fun w'=>v=.tuple #[.int .u32 ((S.takeN:Nat):Int),.int .i64 S.yP]/\SpM w' b db { S with now:=S.yQ } F Fd x hb hr nb nr m/\Only F w w') w6:=by
  rintro l l' w6 v hS6 he6 rfl hv hl;refine .inr ⟨_,_,rfl,by kernel_rfl,?_⟩;refine CallsDIn.mono (zeV hS6 (g2.ext he6) (g1.ext he6) ((g3.ext he6).sl) hn32 (by omega) (by omega) hAnr) ?_;rintro e u' w7 ⟨hu,hR⟩;refine⟨hu,?_⟩;cases e with
  |returned v7=>
   obtain⟨hS7,hg7⟩:=hR;refine⟨hv,?_,?_⟩
   ·rw[<- hl];exact hS7
   ·exact Only.trans (Only.trans o5 (Only.zB (F:=F) he6) (fun j hj=>.inl hj)) (Only.z8 (F:=F) hg7 (fun j hj=>.inl (by injection hj with hj;subst hj;exact hnrF))) (fun j hj=>.inl hj)
  |panicked c=>exact hR.elim
  |outgrown=>exact hR.elim
 have hol:(onL S.now ns).length=S.now.length:=qF _ _
 by_cases hlt:zC (onL S.now ns) S.held<S.now.length
 ·have eN:takeN (onL S.now ns) S.held=zC (onL S.now ns) S.held:=by unfold takeN;rw[if_pos (by omega)]
  have eE:yP (onL S.now ns) S.held=0:=by unfold yP;rw[if_pos (by omega)]
  have eL:yQ (onL S.now ns) S.held=(onL S.now ns).set (zC (onL S.now ns) S.held) 1:=by unfold yQ;rw[if_pos (by omega)]
  dsimp only at eN eE ⊢;rw[eN,eE];rw[eL]at hS5;have hf:=jT.1 (zdv (l:=onL S.now ns) (hl:=S.held) (by omega));have hget:=hM.get (zC (onL S.now ns) S.held);generalize hn:zC (onL S.now ns) S.held=n at *;have hnns:n∉ns:=fun hk=>by rw[if_pos hk]at hget;omega
  rw[if_neg hnns]at hget;have h2n:2<=n:=by
   rcases Nat.lt_or_ge n 2 with hh|hh
   ·have:n=0\/n=1:=by omega
    rcases this with rfl|rfl
    ·exact absurd (by omega:S.now.getD 0 0=0) h01.1
    ·exact absurd (by omega:S.now.getD 1 0=0) h01.2
   ·exact hh
  refine zd (by rfl) ?_;obtain⟨t,hbx⟩:=hS5.box;refine zo (x:=some ⟨b,0,none⟩) g1 (by rfl) (zs (qt (l:=.ptr) 9 (zjd m) hbx (by rfl) (by rfl) ?_));refine zb (zbF hS5 n (by omega)) ?_;rintro _ w6 ⟨rfl,hw6⟩;refine⟨_,rfl,?_⟩;rw[hw6];dsimp only;refine zg (fun hz=>?_) (fun hz=>?_)
  ·have hz:cnt S.mark n=0:=by have:=beq_iff_eq.1 hz;omega
   have eT:S.zC=n:=by rw[<- hn];exact hM.take (by rw[hn];exact hlt) (by rw[hn];exact hz)
   have e1:S.takeN=n:=by unfold Spa.takeN;rw[eT,if_pos hlt]
   have e2:S.yP=0:=by unfold Spa.yP;rw[eT,if_pos hlt]
   have e3:S.yQ=S.now.set n 1:=by unfold Spa.yQ;rw[eT,if_pos hlt]
   exact fin hS5 (Ext.refl w5) (hM.zor hnns) (by rw[e1,e2]) e3.symm
  ·have hz:cnt S.mark n≠0:=by have:=beq_eq_false_iff_ne.1 hz;omega
   have hM':Marked S (ns++[n]):=by
    refine⟨?_,fun k hk=>?_⟩
    ·rw[List.nodup_append];exact⟨hM.nodup,by simp,fun a ha c hc e=>by simp at hc;subst hc;subst e;exact hnns ha⟩
    ·rcases mem_append.1 hk with hk|hk
     ·exact hM.each k hk
     ·rw[mem_singleton.1 hk];exact⟨h2n,hlt,by omega,hz⟩
   have hlen1:=zfr hM'.nodup (fun k hk=>(hM'.each k hk).2.1);rw[length_append,length_singleton]at hlen1;refine zo (x:=(A,ns.length,c)) g2 (by rfl) ?_;have hle:=g3.le;dsimp only;refine xa (E:=zu .u32) (ys:=[n]) (by rfl) rfl jF g3 (by have:=he4.size;have:=hg5.size;have:=g4.2.2.2.1;have:=he.size;have hh:=g2.lt;omega) (by omega) (by omega) ?_;intro A' c' w7 ho7 hg7;have hx7:∀ j,orow A=some j->¬F j:=fun j hj hf=>by have:=hge j hj;have:=hFlt j hf;have:=he.size;omega
   have o7:Only (fun j=>orow A=some j) w5 w7:=Only.z8 hg7.grown (fun j hj=>.inl hj);have hS7:=hS5.only o7 (fun j hj e=>hx7 j e hj);have g1:=g1.only o7 (fun e=>by have:=hge _ e;omega);have g2:=g2.only o7 (fun e=>by have:=hge _ e;omega);refine zS g2 (by show 0<1;omega) ?_;have hg8:=yH w7 r2 0 (.slice A' (ns.length+1) c');have o8:Only (fun j=>j=r2) w7 (w7.setCell ⟨r2,0,none⟩ (.slice A' (ns.length+1) c')):=Only.z8 hg8 (fun j hj=>.inl (by injection hj with hj;exact hj.symm));have hr2F:¬F r2:=fun hf=>by have:=hFlt r2 hf;omega
   have hAr2:∀ j,orow A'=some j->j≠r2:=fun j hj e=>by
    have:=ho7.row j hj;omega
   refine hJ () (S.N-(ns++[n]).length) _ (by rw[length_append,length_singleton];omega) ⟨ns++[n],A',c',rfl,hM',?_,g1.only o8 (by omega),?_,?_,?_⟩
   ·rw[zjh];exact hS7.only o8 (fun j hj e=>hr2F (by rw[<- show j=r2 from e];exact hj))
   ·rw[length_append,length_singleton];exact g2.set 0 _
   ·rw[length_append,length_singleton];exact ho7.only o8 (fun j hj e=>hAr2 j hj e)
   ·refine Only.trans (Only.trans o5 o7 (fun j hj=>.inr (by have:=hge j hj;have:=he.size;omega))) o8 (fun j hj=>.inr (by have:j=r2:=hj;omega))
 ·have eN:takeN (onL S.now ns) S.held=0:=by unfold takeN;rw[if_neg (by omega)]
  have eE:yP (onL S.now ns) S.held=9:=by unfold yP;rw[if_neg (by omega)]
  have eL:yQ (onL S.now ns) S.held=onL S.now ns:=by unfold yQ;rw[if_neg (by omega)]
  dsimp only at eN eE ⊢;rw[eN,eE];rw[eL]at hS5;refine zf (by rfl) ?_;have hno:=hM.none hlt;have e1:S.takeN=0:=by unfold Spa.takeN;rw[if_neg hno]
  have e2:S.yP=9:=by unfold Spa.yP;rw[if_neg hno]
  have e3:S.yQ=S.now:=by unfold Spa.yQ;rw[if_neg hno]
  exact fin hS5 (Ext.refl w5) hM.back (by rw[e1,e2]) e3.symm
end V
/- Contracts of the package space:page,Get. -/
namespace V
open Go Go.Proofs Go.RowKit Crc
theorem zji {w:World} {lo b:Nat} {bs:List UInt8} (h:Rdr w lo b bs):
  Calls prog 178 #[.pointer (some ⟨b,0,none⟩)] w (Ret fun v w'=>v=.int .i64 (bs.length:Int)/\w'=w):=by
 obtain⟨A,n,c,t,hb,hs,hc,ha,hlo⟩:=h;have hl:=hs.blen;apply zl0;unfold S178;refine zd (by rfl) (zs (zF (A,n,c) hb (by rfl) ⟨?_,rfl⟩));rw[hl]
theorem zhK {w:World} {lo b k:Nat} {bs:List UInt8} (h:Rdr w lo b bs) (hk:k<=1000000):
  Calls prog 177 #[.pointer (some ⟨b,0,none⟩),.int .i64 (k:Int)] w (Ret fun v w'=>∃ A n c,v=.tuple #[.slice A n c,.int .i64 (rd bs k).2.1]/\Sl w' A n (bV (if bs.length<k then [] else bs.take k))/\w.grownBy w' (some b)):=by
 apply zlZ;unfold S177;refine zd (by rfl) (zd (decide_eq_false (by omega)) ?_);refine zb (zcW h hk) ?_;rintro _ w1 ⟨A,n,c,rfl,hs,hr,hg⟩;refine⟨((A,n,c),(rd bs k).2.1,()),rfl,?_⟩;have hl:=hs.blen;have hn:n<=1000000:=by
  split at hl
  ·simp only [length_nil]at hl;omega
  ·rw[length_take]at hl;omega
 refine zb (zcV hs (by dsimp only;omega)) ?_;rintro _ w2 ⟨⟨A2,n2,c2⟩,rfl,ho2,he2⟩;refine⟨(A2,n2,c2),rfl,A2,n2,c2,rfl,ho2.sl,xb hg (xO he2 none) (fun j hj=>by cases hj)⟩
def pgV (p:Page) (y:SLC):List Value:=[.int .u8 (p.1.toNat:Int),.slice y.1 y.2.1 y.2.2,.string p.2.2]
def pgT (p:Page) (y:SLC):Int×SLC×ByteArray×Unit:=((p.1.toNat:Int),y,p.2.2,())
abbrev zeW:List Lf:=[.int .u8,.slc,.str]
theorem jU (p:Page) (y:SLC):∀ v∈pgV p y,v.oneCell'=true:=by
 intro v hv;simp only [pgV,mem_cons,not_mem_nil,or_false]at hv;rcases hv with rfl|rfl|rfl<;>rfl
theorem zdA {w:World} {r:Nat} {cs:List Value} {t:TypeId} {K:(Int×SLC×ByteArray×Unit)->WP} {us:Array Value} (p:Page) (y:SLC) (hb:Blk w r cs t) (hl:cs.length=3) (hu:us.size=3)
  (hK:∀ w',Blk w' r (pgV p y) t->(∀ w0,Ext w0 w->w0.heap.size<=r->Ext w0 w')->(∀ k:Nat,k≠r->w'.heap[k]?=w.heap[k]?)->w'.heap.size=w.heap.size->K (pgT p y) w'):
  (zc (us.size=3)<|zt (aD r) (pgV p y)<|zk zeW (aD r) K) w:=
 refill (vs:=pgV p y) hb (by rw[hl];rfl) (jU p y) hu fun w' hb' hx hs hz=>zZ (ls:=zeW) (pgT p y) hb' rfl (hK w' hb' hx hs hz)
theorem zjj {w:World} {r:Nat} {t:TypeId} {K:(Int×SLC×ByteArray×Unit)->WP} (p:Page) (y:SLC) (hb:Blk w r (pgV p y) t)
  (hK:∀ w',(∀ w0,Ext w0 w->w0.heap.size<=r->Ext w0 w')->(∀ k:Nat,k≠r->w'.heap[k]?=w.heap[k]?)->w'.heap.size=w.heap.size->K (pgT p y) w'):
  (zk zeW (aD r) fun(u:Int×SLC×ByteArray×Unit)=>zc ((#[(.int .u8 u.1),(.slice u.2.1.1 u.2.1.2.1 u.2.1.2.2),(.string u.2.2.1)]:Array Value).size=3)<|zt (aD r) [(.int .u8 u.1),(.slice u.2.1.1 u.2.1.2.1 u.2.1.2.2),(.string u.2.2.1)]<|zk zeW (aD r) K) w:=
 zZ (ls:=zeW) (pgT p y) hb rfl (zdA p y hb rfl rfl fun w' _ hx hs hz=>hK w' hx hs hz)
def zfY (w:World) (p:Page×Int) (v:Value) (w':World):Prop:=∃ y:SLC,v=.tuple #[.agg (pgV p.1 y).toArray,.int .i64 p.2]/\Owni (zu .u32) 41 w' w.heap.size y.1 y.2.1 y.2.2 p.1.2.1/\Ext w w'
theorem jg {w w':World} (he:Ext w w') (e:Int):zfY w (yX,e) (.tuple #[.agg (pgV yX (none,0,0)).toArray,.int .i64 e]) w':=⟨(none,0,0),rfl,Owni.nil _ _ _,he⟩
theorem Owni.xP {α:Type} {E:Enc α} {e:TypeId} {w w':World} {B:Nat} {A:Option Addr} {n c r:Nat} {xs:List α} (h:Owni E e w B A n c xs) (hr:r<B) (hz:w'.heap.size=w.heap.size) (ho:w'.os=w.os) (ht:w'.tape=w.tape) (hu:w'.output=w.output) (hs:∀ k:Nat,k≠r->w'.heap[k]?=w.heap[k]?):Owni E e w' B A n c xs:=
 h.only (F:=fun k=>k=r) ⟨ho,ht,hu,Nat.le_of_eq hz.symm,fun k _ hk=>hs k hk⟩ (fun j hj e=>by have:=h.row j hj;have:j=r:=e;omega)
variable {w w':World} {b db:Nat} {S:Spa} {F Fd:Nat->Prop} {x:SLC} {hb hr nb nr:Nat} {m:MkL}
theorem zgK (h:SpM w b db S F Fd x hb hr nb nr m) (s:ByteArray) (hs:s.size<=1000000):
  Calls prog 138 #[.pointer (some ⟨b,0,none⟩),.string s] w (Ret (zfY w (xQ S.N (B s)))):=by
 have hdim:=h.dims;have hN:=hdim.n;have hbl:=hdim.blocks;apply zlA;unfold S138;refine zr fun r1 w1 hb1 he1 hr1 hz1=>?_;have hb1:Blk w1 r1 (pgV yX (none,0,0)) _:=hb1;refine zb (zi7 w1 s (by omega)) ?_;rintro _ w2 ⟨rfl,he2⟩;refine⟨(fT (yo (B s)).1,(yo (B s)).2,()),rfl,?_⟩;refine boxed (f:=(yo (B s)).1) fun r3 w3 hb3 he3 hr3=>?_;have hb1:=(hb1.ext he2).ext he3;have he:=(he1.trans he2).trans he3;have hz2:=he2.size;have hz3:=he3.size;have hlt1:r1<w3.heap.size:=hb1.lt;have hlt3:r3<w3.heap.size:=hb3.lt;have hbad:∀ {w4:World},Ext w w4->(xQ S.N (B s)).2≠0\/(xQ S.N (B s))=(yX,10)->xQ S.N (B s)=(yX,10):=by
  intro w4 _ hh;rcases hh with hh|hh
  ·unfold xQ at hh ⊢;split
   ·rename_i hc;rw[if_pos hc]at hh;exact absurd rfl hh
   ·rfl
  ·exact hh
 refine zg (fun hq=>?_) (fun hq=>?_)
 ·have hq:=bne_iff_ne.1 hq;have ep:xQ S.N (B s)=(yX,10):=by unfold xQ;rw[if_neg (fun hc=>hq hc.1)]
  refine zjj yX (none,0,0) hb1 fun w4 hx _ _=>?_;rw[ep];exact jg (hx w he (by omega)) 10
 have hg0:=bne_eq_false_iff_eq.1 hq;refine zF (((yo (B s)).1.1.toNat:Nat):Int) hb3 (by rfl) ?_;refine zg (fun hq=>?_) (fun hq=>?_)
 ·have hq:=of_decide_eq_true hq;have ep:xQ S.N (B s)=(yX,10):=by unfold xQ;rw[if_neg (fun hc=>by omega)]
  refine zjj yX (none,0,0) hb1 fun w4 hx _ _=>?_;rw[ep];exact jg (hx w he (by omega)) 10
 have hq3:3<=(yo (B s)).1.1.toNat:=by have:=of_decide_eq_false hq;omega
 have hdl:(B (yo (B s)).1.2.2).length<=4096:=by
  obtain⟨_,_,_,q4,_⟩:=zeQ (by rw[(um hg0).2]);rw[(um hg0).1];have hsz:=yj s;have:=zeQ (size:=((B s).length:Int)) (f:=xj (B s)) (by rw[(um hg0).2]);omega
 have hpg:xQ S.N (B s)=if zaP S.N (B (yo (B s)).1.2.2) then (((yo (B s)).1.1,ka (B (yo (B s)).1.2.2),mkB ((B (yo (B s)).1.2.2).drop (2+4*lev ((B (yo (B s)).1.2.2).take 2)))),0) else (yX,10):=by
  unfold xQ
  by_cases hc:zaP S.N (B (yo (B s)).1.2.2)
  ·rw[if_pos ⟨hg0,hq3,hc⟩,if_pos hc]
  ·rw[if_neg (fun hh=>hc hh.2.2),if_neg hc]
 rw[hpg];clear hpg hbad;generalize (yo (B s)).1=f at *;refine zn 2 f.2.2 hb3 (by rfl) ?_;refine kU (u:=.string) (e:=5) (by kernel_rfl) (by kernel_rfl) (by kernel_rfl) (by have:=yj f.2.2;omega) ?_;intro c w4 hsl he4 hs4 hc4;have hb1:=hb1.ext he4;have hb3:=hb3.ext he4;have he4:=he.trans he4;have hlt14:=hb1.lt;have hlt34:=hb3.lt;refine zb (zi2 hsl (by have:=yj f.2.2;dsimp only;omega)) ?_;rintro _ w5 ⟨rb,rfl,hrb,hrd,he5⟩;refine⟨some ⟨rb,0,none⟩,rfl,?_⟩;have hb1:=hb1.ext he5;have hb3:=hb3.ext he5;have he5':=he4.trans he5;generalize hd:B f.2.2=d at *;refine zb (zb1 (k:=2) hrd (by omega) (by omega)) ?_;rintro _ w6 ⟨rfl,hrd6,hg6⟩;have hb1:=hb1.grown hg6 (by simp;omega);have hb3:=hb3.grown hg6 (by simp;omega);have he6:Ext w w6:=he5'.grown hg6 (fun j hj=>by injection hj with hj;have:=he4.size;omega);refine⟨(((rd d 2).1:Int),(rd d 2).2.1,()),rfl,?_⟩;dsimp only
 by_cases hl2:d.length<2
 ·have e1:rd d 2=(0,7,d):=by unfold rd;rw[if_pos hl2]
  rw[e1];refine zf (by rfl) ?_;refine zjj yX (none,0,0) hb1 fun w7 hx _ _=>?_;rw[if_neg (fun hc=>by have:=hc.1;omega)];exact jg (hx w he6 (by omega)) 10
 have e1:rd d 2=(lev (d.take 2),0,d.drop 2):=by unfold rd;rw[if_neg hl2]
 have hk16:lev (d.take 2)<65536:=by
  have:=zo6 d;rw[e1]at this;exact this
 rw[e1]at hrd6 ⊢;dsimp only at hrd6 ⊢;refine zd (by rfl) ?_;refine zF ((f.1.toNat:Nat):Int) hb3 (by rfl) ?_;refine zS hb1 (by show 0<3;omega) ?_;have hg7:=yH w6 r1 0 (.int .u8 (f.1.toNat:Int));have hb1:Blk (w6.setCell ⟨r1,0,none⟩ (.int .u8 (f.1.toNat:Int))) r1 (pgV (f.1,[],ByteArray.empty) (none,0,0)) _:=hb1.set 0 (.int .u8 (f.1.toNat:Int));have hrd7:=hrd6.grown hg7 (fun j hj=>by injection hj with hj;left;omega);have he7:=he6.grown hg7 (fun j hj=>by injection hj with hj;omega);generalize hw7:w6.setCell ⟨r1,0,none⟩ (.int .u8 (f.1.toNat:Int))=w7 at *;generalize hk:lev (d.take 2)=k at *;have hr1w:r1<w4.heap.size:=hlt14;have h45:=he5.size;have h67:w6.heap.size<=w7.heap.size:=by rw[<- hw7];simp
 have h56:=hg6.size;refine zz (fun y w'=>∃ (i:Nat) (A:Option Addr) (c:Nat),i<=k/\y=((i:Int),())/\2+4*i<=d.length/\(∀ n∈yJ i (d.drop 2),2<=n/\n<S.N)/\Ext w w'/\w7.heap.size<=w'.heap.size/\Rdr w' w4.heap.size rb (d.drop (2+4*i))/\Blk w' r1 (pgV (f.1,[],ByteArray.empty) (A,i,c)) 56
   /\ Owni (zu .u32) 41 w' w7.heap.size A i c (yJ i (d.drop 2))) (fun y=>(k-y.1).toNat) ⟨0,none,0,by omega,rfl,by omega,by simp[yJ],he7,Nat.le_refl _,hrd7,hb1,Owni.nil _ _ _⟩ ?_
 rintro _ w8 ⟨i,A,c,hi,rfl,hdl8,hok,he8,hz8,hrd8,hb8,ho8⟩;dsimp only
 by_cases hlt:i<k
 ·refine zf (decide_eq_true (by omega)) ?_;refine zb (zb1 (k:=4) hrd8 (by omega) (by omega)) ?_;rintro _ w9 ⟨rfl,hrd9,hg9⟩;have hb9:=hb8.grown hg9 (by simp;omega);have hrdlt:=hrd8.lt;have hrb7:rb<w7.heap.size:=by have:=hrd7.lt;omega
  have ho9:=ho8.grown hg9 (fun j hj e=>by injection hj with hj;have:=ho8.row _ e;omega);have he9:Ext w w9:=he8.grown hg9 (fun j hj=>by injection hj with hj;have:=he4.size;omega);refine⟨(((rd (d.drop (2+4*i)) 4).1:Int),(rd (d.drop (2+4*i)) 4).2.1,()),rfl,?_⟩;dsimp only
  by_cases hshort:d.length<2+4*i+4
  ·have e2:rd (d.drop (2+4*i)) 4=(0,7,d.drop (2+4*i)):=by unfold rd;rw[if_pos (by rw[length_drop];omega)]
   rw[e2];refine zf (by rfl) (zdA yX (none,0,0) hb9 (by rfl) (by rfl) fun w10 _ hx _ _=>?_);rw[if_neg (fun hc=>by have:=hc.2.1;rw[hk]at this;omega)];exact jg (hx w he9 (by omega)) 10
  have e2:rd (d.drop (2+4*i)) 4=(lev ((d.drop (2+4*i)).take 4),0,(d.drop (2+4*i)).drop 4):=by unfold rd;rw[if_neg (by rw[length_drop];omega)]
  have hn32:lev ((d.drop (2+4*i)).take 4)<4294967296:=by
   have:=zkl (d.drop (2+4*i));rw[e2]at this;exact this
  rw[e2]at hrd9 ⊢;dsimp only at hrd9 ⊢;refine zd (by rfl) ?_;have hmem:∀ (hlen:2+4*k<=d.length),lev ((d.drop (2+4*i)).take 4)∈ka d:=by
   intro _;unfold ka yJ;rw[hk];refine mem_map.2 ⟨i,mem_range.2 hlt,?_⟩;rw[drop_drop]
  generalize hn:lev ((d.drop (2+4*i)).take 4)=n at *;refine zg (fun hq=>?_) (fun hq=>?_)
  ·have hq:=of_decide_eq_true hq;refine zdA yX (none,0,0) hb9 (by rfl) (by rfl) fun w10 _ hx _ _=>?_;rw[if_neg (fun hc=>by have h1:=hc.2.1;rw[hk]at h1;have:=hc.2.2 n (hmem h1);omega)];exact jg (hx w he9 (by omega)) 10
  have hq2:=of_decide_eq_false hq;obtain⟨t,hbx⟩:=(h.ext he9).box;refine zs (qt 3 S.sup.blocks hbx (by rfl) (by rfl) ?_);have eb:wrap .u64 S.sup.blocks=(S.N:Int):=by rw[hbl,zx (by omega)]
  rw[eb];refine zg (fun hq=>?_) (fun hq=>?_)
  ·have hq:=of_decide_eq_true hq;refine zdA yX (none,0,0) hb9 (by rfl) (by rfl) fun w10 _ hx _ _=>?_;rw[if_neg (fun hc=>by have h1:=hc.2.1;rw[hk]at h1;have:=hc.2.2 n (hmem h1);omega)];exact jg (hx w he9 (by omega)) 10
  have hq3:=of_decide_eq_false hq;refine zn (l:=.slc) 1 (A,i,c) hb9 (by rfl) ?_;dsimp only;rw[uC (by omega)];have hle:=ho9.le;refine xa (E:=zu .u32) (ys:=[n]) (by rfl) rfl jF ho9 (by have:=hg9.size;omega) (by omega) (by omega) ?_;intro A' c' w10 ho10 hg10;have hx10:∀ j,orow A=some j->w7.heap.size<=j:=fun j hj=>ho9.row j hj;have hb10:=hb9.grown hg10.grown (fun e=>by have:=hx10 r1 e.symm;omega);have hrd10:=hrd9.grown hg10.grown (fun j hj=>by have:=hx10 j hj;omega);have he10:Ext w w10:=he9.grown hg10.grown (fun j hj=>by have:=hx10 j hj;have:=he7.size;omega);rw[zy];refine zS hb10 (by show 0+1<3;omega) ?_;have hg11:=yH w10 r1 (0+1) (.slice A' (i+1) c');have hb11:=hb10.set (0+1) (.slice A' (i+1) c');have ho11:=ho10.grown hg11 (fun j hj e=>by injection hj with hj;have:=ho10.row _ e;omega);have ew:yJ (i+1) (d.drop 2)=yJ i (d.drop 2)++[n]:=by rw[zgF,drop_drop,hn]
  refine⟨⟨i+1,A',c',by omega,by rw[wrap_u64,show((i:Int)+1) % 18446744073709551616=((i+1:Nat):Int) by omega],by omega,?_,he10.grown hg11 (fun j hj=>by injection hj with hj;omega),?_,?_,hb11,by rw[ew];exact ho11⟩,by rw[wrap_u64];omega⟩
  ·rw[ew];intro a ha;rcases mem_append.1 ha with ha|ha
   ·exact hok a ha
   ·rw[mem_singleton.1 ha];omega
  ·exact Nat.le_trans (Nat.le_trans (Nat.le_trans hz8 hg9.size) hg10.grown.size) hg11.size
  ·have:=hrd10.grown hg11 (fun j hj=>by injection hj with hj;left;omega);rw[drop_drop]at this;rw[show 2+4*(i+1)=2+4*i+4 by omega];exact this
 obtain rfl:i=k:=by omega
 refine zd (decide_eq_false (by omega)) ?_;refine zb (zji hrd8) ?_;rintro _ w9 ⟨rfl,hw9⟩;refine⟨_,rfl,?_⟩;rw[hw9];refine zb (zhK hrd8 (by rw[length_drop];omega)) ?_;rintro _ w10 ⟨A2,n2,c2,rfl,hs10,hg10⟩;refine⟨((A2,n2,c2),(rd (d.drop (2+4*i)) (d.drop (2+4*i)).length).2.1,()),rfl,?_⟩;have e3:rd (d.drop (2+4*i)) (d.drop (2+4*i)).length=(lev ((d.drop (2+4*i)).take (d.drop (2+4*i)).length),0,(d.drop (2+4*i)).drop (d.drop (2+4*i)).length):=by unfold rd;rw[if_neg (by omega)]
 rw[if_neg (by omega),List.take_length]at hs10;rw[e3];dsimp only;have hrb7:rb<w7.heap.size:=by have:=hrd7.lt;omega
 have hb10:=hb8.grown hg10 (by simp;omega);have ho10:=ho8.grown hg10 (fun j hj e=>by injection hj with hj;have:=ho8.row _ e;omega);have he10:Ext w w10:=he8.grown hg10 (fun j hj=>by injection hj with hj;have:=he4.size;omega);refine qO (e:=5) (by kernel_rfl) (by kernel_rfl) (by kernel_rfl) hs10 ?_;rw[zy];refine zS hb10 (by show 0+2<3;omega) ?_;have hg11:=yH w10 r1 (0+2) (.string (mkB (d.drop (2+4*i))));have hb11:Blk (w10.setCell ⟨r1,0+2,none⟩ (.string (mkB (d.drop (2+4*i))))) r1 (pgV (f.1,yJ i (d.drop 2),mkB (d.drop (2+4*i))) (A,i,c)) _:=hb10.set (0+2) (.string (mkB (d.drop (2+4*i))));have ho11:=ho10.grown hg11 (fun j hj e=>by injection hj with hj;have:=ho10.row _ e;omega);have he11:=he10.grown hg11 (fun j hj=>by injection hj with hj;omega);refine zjj _ (A,i,c) hb11 fun w12 hx hs12 hz12=>?_;have hxx:=hx _ (Ext.refl _);have ekd:ka d=yJ i (d.drop 2):=by unfold ka;rw[hk]
 rw[if_pos ⟨by omega,by rw[hk];omega,by rw[ekd];exact hok⟩,ekd];have he12:=hx w he11 (by omega);refine⟨(A,i,c),rfl,?_,he12⟩;refine Owni.lower ?_ (show w.heap.size<=w7.heap.size from he7.size);refine ho11.xP (r:=r1) (by omega) hz12 ?_ ?_ ?_ hs12
 ·exact he12.os.trans he11.os.symm
 ·exact he12.tape.trans he11.tape.symm
 ·exact he12.output.trans he11.output.symm
theorem zhL (h:SpM w b db S F Fd x hb hr nb nr m) (k:Int):
  Calls prog 137 #[.pointer (some ⟨db,0,none⟩),.int .i64 k] w (Ret fun v w'=>v=.tuple #[.string (S.dev.read k).1,.int .i64 (S.dev.read k).2]/\Ext w w'):=zi4 h.dev k
theorem Dev.Ok.read {d:Dev} (h:d.Ok) {k:Int} (h0:0<=k) (h1:k<d.blocks):(d.read k).2=0/\((d.read k).1.size:Int)=d.size:=by
 unfold Dev.read;rw[if_neg (fun hh=>hh ⟨h0,h1⟩)];refine⟨rfl,?_⟩;have hl:=uF d.pen d.dur;have hlen:=h.len;have he:=zb2 (n:=d.size) d.pen d.dur h.each (fun p hp=>(h.pend p hp).2.2);have hk:k.toNat<(d.pen.foldl Go.Proofs.YtplgodmmmppmeaaGreat.V.put d.dur).length:=by rw[hl];omega
 show(((d.pen.foldl Go.Proofs.YtplgodmmmppmeaaGreat.V.put d.dur).getD k.toNat ByteArray.empty).size:Int)=_;rw[getD_eq_getElem?_getD,List.getElem?_eq_getElem hk];exact he _ (getElem_mem hk)
theorem kM {S:Spa} {n:Nat}:S.asked n=true↔2<=n/\n<S.N/\n∉S.sup.pages:=by simp[Spa.asked]
theorem ub (h:SpM w b db S F Fd x hb hr nb nr m) {n:Nat} (hn:n<4294967296):
  Calls prog 88 #[.pointer (some ⟨b,0,none⟩),.int .u32 (n:Int)] w (Ret (zfY w (S.get n))):=by
 have hdim:=h.dims;have hN:=hdim.n;have hbl:=hdim.blocks;have hsz:=hdim.size;apply zoe;unfold S88 Spa.get;refine zr fun r1 w1 hb1 he1 hr1 hz1=>?_;have hb1:Blk w1 r1 (pgV yX (none,0,0)) _:=hb1;refine zd (by rfl) ?_;refine zb (vI (h.ext he1) hn) ?_;rintro _ w2 ⟨rfl,hw2⟩;refine⟨_,rfl,?_⟩;rw[hw2];refine zg (fun hq=>?_) (fun hq=>?_)
 ·have hq:S.asked n=false:=by simpa using hq
  rw[if_pos hq];refine zdA yX (none,0,0) hb1 (by rfl) (by rfl) fun w3 _ hx _ _=>?_;exact jg (hx w he1 (by omega)) 2
 have hq:S.asked n=true:=by simpa using hq
 rw[if_neg (by rw[hq];simp)];obtain⟨t,hbx⟩:=(h.ext he1).box;refine zs (qt (l:=.ptr) 8 (some ⟨nb,0,none⟩) hbx (by rfl) (by rfl) ?_);refine zb (jG (h.ext he1) n hn) ?_;rintro _ w3 ⟨rfl,hw3⟩;refine⟨_,rfl,?_⟩;rw[hw3];refine zg (fun hz=>?_) (fun hz=>?_)
 ·have hz:S.now.getD n 0=0:=by have:=beq_iff_eq.1 hz;omega
  rw[if_pos hz];refine zdA yX (none,0,0) hb1 (by rfl) (by rfl) fun w3 _ hx _ _=>?_;exact jg (hx w he1 (by omega)) 8
 have hz:¬S.now.getD n 0=0:=by have:=beq_eq_false_iff_ne.1 hz;omega
 rw[if_neg hz];refine zs (zF (l:=.ptr) (some ⟨db,0,none⟩) hbx (by rfl) ?_);rw[wrap_i64 (by omega) (by omega)];refine zb (zhL (h.ext he1) (n:Int)) ?_;rintro _ w4 ⟨rfl,he4⟩;obtain⟨a1,a2,a3⟩:=kM.1 hq;have hrd:=h.dev.ok.read (k:=(n:Int)) (by omega) (by rw[<- h.ok.blocks];omega);refine⟨((S.dev.read n).1,(S.dev.read n).2,()),rfl,?_⟩;rw[hrd.1];refine zd (by rfl) ?_;have hb1:=hb1.ext he4;have he14:=he1.trans he4;have hr14:r1<w4.heap.size:=hb1.lt;refine zb (zgK (h.ext he14) (S.dev.read n).1 (by have:=hrd.2;have:=h.ok.size;omega)) ?_;rintro _ w5 ⟨y,rfl,ho5,he5⟩;refine⟨(pgT (xQ S.N (B (S.dev.read n).1)).1 y,(xQ S.N (B (S.dev.read n).1)).2,()),rfl,?_⟩;have he15:=he14.trans he5;refine zdA (xQ S.N (B (S.dev.read n).1)).1 y (hb1.ext he5) (by rfl) (by rfl) fun w6 _ hx hs6 hz6=>?_;have he16:=hx w he15 (by omega);refine⟨y,rfl,?_,he16⟩;refine Owni.lower ?_ (show w.heap.size<=w4.heap.size from he14.size);exact ho5.xP (r:=r1) (by omega) hz6 (he16.os.trans he15.os.symm) (he16.tape.trans he15.tape.symm) (he16.output.trans he15.output.symm) hs6
end V
/- Contracts of the package space:write,Put. -/
namespace V
open Go Go.Proofs Go.RowKit Crc
theorem zcd {w:World} {db:Nat} {d:Dev} {Fd:Nat->Prop} (h:xd w db d Fd) (k:Nat) (hk:k<4294967296) (f:Fra) (hg:f.2.1<18446744073709551616) (hn:d.pen.length<=1000000):
  Calls prog 78 #[.pointer (some ⟨db,0,none⟩),.int .u32 (k:Int),.agg (fV f).toArray] w (Ret fun v w'=>v=.int .i64 (yp d k f).2/\Step w db Fd (yp d k f).1 w'):=by
 apply zn5;unfold S78 yp;refine zr fun r1 w1 hb1 he1 _ _=>?_;have hb1:Blk w1 r1 (fV f) 127:=hb1;refine zM fun w2 he2 _ _=>?_;have hb2:=hb1.ext he2;have he:=he1.trans he2;refine zZ (ls:=fLs) (fT f) hb2 rfl ?_;refine zb (vN (h.ext he)) ?_;rintro _ w3 ⟨rfl,he3⟩;refine⟨(d.size,d.blocks,()),rfl,?_⟩;have hb3:=hb2.ext he3;have he3:=he.trans he3;refine⟨fun l hl p hp=>?_,?_⟩
 ·simp only [mem_singleton]at hl;subst hl;simp only [mem_cons,not_mem_nil,or_false]at hp;rcases hp with rfl|rfl|rfl
  ·exact(hb3.cell 0).trans rfl
  ·exact(hb3.cell 1).trans rfl
  ·exact(hb3.cell 2).trans rfl
 refine zb (zbe w3 d.size hg) ?_;rintro _ w4 ⟨rfl,he4⟩;refine⟨(mkB (xp d.size f).1,(xp d.size f).2,()),rfl,?_⟩;have he4:=he3.trans he4;have stay:∀ {w':World},Ext w w'->Step w db Fd d w':=fun e=>⟨Fd,h.ext e,fun k hk=>.inl hk,Only.zB e⟩;refine zg (fun hq=>?_) (fun hq=>?_)
 ·have hq:=bne_iff_ne.1 hq;rw[if_pos hq];exact⟨rfl,stay he4⟩
 ·have hq:=bne_eq_false_iff_eq.1 hq;rw[if_neg (fun hh=>hh hq)];rw[wrap_i64 (by omega) (by omega)];refine zb (zap (h.ext he4) (k:Int) (mkB (xp d.size f).1) hn) ?_;rintro _ w5 ⟨rfl,F',g1,g2,g3⟩;refine⟨_,rfl,rfl,F',g1,fun j hj=>?_,Only.trans (Only.zB he4) g3 (fun j hj=>.inl hj)⟩;rcases g2 j hj with e|e
  ·exact .inl e
  ·exact .inr (Nat.le_trans he4.size e)
variable {w w':World} {b db:Nat} {S:Spa} {F Fd:Nat->Prop} {x:SLC} {hb hr nb nr:Nat} {m:MkL}
theorem zjk (h:SpM w b db S F Fd x hb hr nb nr m) {r k:Nat} (hr1:Blk w r [.pointer (some ⟨b,0,none⟩)] 48) (hk:k<4294967296):
  Calls prog 72 ([Value.int .u32 (k:Int)]++(#[Value.pointer (some ⟨r,0,none⟩)]:Array Value).toList).toArray w (Ret fun v w'=>v=.bool (!S.asked k)/\w'=w):=by
 apply zn0;unfold S72;refine zo (x:=some ⟨b,0,none⟩) hr1 (by rfl) ?_;refine zb (vI h hk) ?_;rintro _ w1 ⟨rfl,rfl⟩;exact⟨_,rfl,rfl,rfl⟩
theorem zjl (h:SpM w b db S F Fd x hb hr nb nr m) {r k:Nat} (hr1:Blk w r [.pointer (some ⟨b,0,none⟩)] 48) (hk:k<4294967296):
  Calls prog 74 ([Value.int .u32 (k:Int)]++(#[Value.pointer (some ⟨r,0,none⟩)]:Array Value).toList).toArray w (Ret fun v w'=>v=.bool (decide (S.now.getD k 0=0))/\w'=w):=by
 apply zn2;unfold S74;obtain⟨t,hbx⟩:=h.box;refine zo (x:=some ⟨b,0,none⟩) hr1 (by rfl) (zs (qt (l:=.ptr) 8 (some ⟨nb,0,none⟩) hbx (by rfl) (by rfl) ?_));refine zb (jG h k hk) ?_;rintro _ w1 ⟨rfl,rfl⟩;refine⟨_,rfl,?_,rfl⟩;congr 1;rw[Bool.eq_iff_iff,beq_iff_eq,decide_eq_true_iff];omega
theorem zkn {S:Spa} {l:List Nat}:l.any (fun k=>!S.asked k)=true↔∃ k∈l,S.asked k=false:=by simp
theorem any_zero {S:Spa} {l:List Nat}:l.any (fun k=>decide (S.now.getD k 0=0))=true↔∃ k∈l,S.now.getD k 0=0:=by simp
theorem Sli.only' {α:Type} {E:Enc α} {F:Nat->Prop} {w w':World} {A:Option Addr} {n:Nat} {xs:List α} (h:Sli E w A n xs) (k:Only F w w') (hr:0<n->∀ a,A=some a->¬F a.block):Sli E w' A n xs:=by
 rcases Nat.eq_zero_or_pos n with e|e
 ·subst e;have:=h.len;rw[eq_nil_of_length_eq_zero this];exact Sli.nil w' A
 ·exact h.only k (hr e)
theorem zhM (h:SpM w b db S F Fd x hb hr nb nr m) (h01:S.now.getD 0 0≠0/\S.now.getD 1 0≠0) (hgen:S.sup.gen+1<18446744073709551616) (hpen:S.dev.pen.length<=1000000)
  {A:Option Addr} {n c:Nat} (p:Page) (hs:Sli (zu .u32) w A n p.2.1) (hk32:∀ k∈p.2.1,k<4294967296) (hA:0<n->∀ a,A=some a->¬F a.block) (hds:p.2.2.size<=1000000000):
  Calls prog 24 #[.pointer (some ⟨b,0,none⟩),.agg (pgV p (A,n,c)).toArray] w (Ret fun v w'=>v=.tuple #[.int .u32 ((S.put p).2.1:Int),.int .i64 (S.put p).2.2]/\yw w b db F (S.put p).1 w'):=by
 have hdim:=h.dims;have hN:=hdim.n;have hsz:=hdim.size;have hroom:=hdim.room;have hFlt:=h.lt;have hl:=hs.len;have hle:=hs.le;apply zny;unfold S24;refine zr fun r1 w1 hb1 he1 hr1 hz1=>?_;refine zr fun r2 w2 hb2 he2 hr2 hz2=>?_;have hb1:=hb1.ext he2;have he:=he1.trans he2;have hb2:Blk w2 r2 (pgV p (A,n,c)) 56:=hb2;have hS:=h.ext he;have hs2:=hs.ext he;have hz:=he1.size;have stay:∀ {w':World},Ext w w'->yw w b db F S w':=fun e=>⟨F,⟨Fd,x,hb,hr,nb,nr,m,h.ext e⟩,fun k hk=>.inl hk,Only.zB e⟩;refine zo (x:=some ⟨b,0,none⟩) hb1 (by rfl) (zd (by rfl) ?_);have e1:∀ e:Int,S.jE p=e->e≠0->(fun v w'=>v=Value.tuple #[.int .u32 ((S.put p).2.1:Int),.int .i64 (S.put p).2.2]/\yw w b db F (S.put p).1 w')=fun v w'=>v=Value.tuple #[.int .u32 (0:Int),.int .i64 e]/\yw w b db F S w':=by
  intro e he0 hne;unfold Spa.put;rw[if_pos (by rw[he0];exact hne),he0];rfl
 refine yk (fun y w'=>y=(decide (p.1.toNat<3\/p.2.1.length>65535\/(∃ k∈p.2.1,S.asked k=false)),())/\w'=w2) ?_ (fun J hJ=>?_);rotate_left
 ·refine zF ((p.1.toNat:Nat):Int) hb2 (by rfl) ?_;refine zg (fun hq=>?_) (fun hq=>?_)
  ·have hq:=of_decide_eq_true hq;exact hJ _ _ ⟨by rw[decide_eq_true (.inl (by omega))],rfl⟩
  have hq:=of_decide_eq_false hq;refine zn (l:=.slc) 1 (A,n,c) hb2 (by rfl) (zg (fun hq2=>?_) (fun hq2=>?_))
  ·have hq2:=of_decide_eq_true hq2;exact hJ _ _ ⟨by rw[decide_eq_true (.inr (.inl (by dsimp only at hq2;omega)))],rfl⟩
  have hq2:=of_decide_eq_false hq2;refine zn (l:=.slc) 1 (A,n,c) hb2 (by rfl) ?_;refine zb (zcc (c:=c) (q:=fun k=>!S.asked k) hs2 (by kernel_rfl) (fun k hk=>zjk hS hb1 (hk32 k hk))) ?_;rintro _ w3 ⟨rfl,hw3⟩;refine⟨_,rfl,hJ _ _ ⟨?_,hw3⟩⟩;congr 1;rw[Bool.eq_iff_iff,decide_eq_true_iff,zkn];dsimp only at hq2;constructor
  ·intro hh;exact .inr (.inr hh)
  ·rintro(hh|hh|hh)
   ·omega
   ·omega
   ·exact hh
 rintro y w3 ⟨rfl,hw3⟩;rw[hw3];refine zg (fun hq=>?_) (fun hq=>?_)
 ·have hq:=of_decide_eq_true hq;have:=e1 2 (by unfold Spa.jE;rw[if_pos hq]) (by decide);rw[show(Value.tuple #[.int .u32 (0:Int),.int .i64 (2:Int)])=Value.tuple #[.int .u32 (0:Int),.int .i64 (2:Int)] from rfl];exact(congrFun (congrFun this _) _).mpr ⟨rfl,stay he⟩
 have hq1:=of_decide_eq_false hq;refine zn (l:=.slc) 1 (A,n,c) hb2 (by rfl) ?_;refine zb (zcc (c:=c) (q:=fun k=>decide (S.now.getD k 0=0)) hs2 (by kernel_rfl) (fun k hk=>zjl hS hb1 (hk32 k hk))) ?_;rintro _ w4 ⟨rfl,hw4⟩;refine⟨_,rfl,?_⟩;rw[hw4];refine zg (fun hq=>?_) (fun hq=>?_)
 ·have:=e1 8 (by unfold Spa.jE;rw[if_neg hq1,if_pos (any_zero.1 hq)]) (by decide);exact(congrFun (congrFun this _) _).mpr ⟨rfl,stay he⟩
 have hq2:¬ ∃ k∈p.2.1,S.now.getD k 0=0:=fun hh=>by rw[any_zero.2 hh]at hq;cases hq
 have hr0:S.room 0=S.sup.size-18:=by unfold Spa.room;rw[hroom,if_neg (by omega)];omega
 refine yk (fun y w'=>y=(decide ((p.2.1.length:Int)>S.room 0 / 4\/(p.2.2.size:Int)>S.room p.2.1.length),())/\Ext w2 w') ?_ (fun J hJ=>?_);rotate_left
 ·refine zM fun w5 he5 _ _=>?_;refine zn (l:=.slc) 1 (A,n,c) (hb2.ext he5) (by rfl) ?_;refine zo (x:=some ⟨b,0,none⟩) (hb1.ext he5) (by rfl) ?_;refine zb (qQ (hS.ext he5) (k:=0) (by omega) (by omega)) ?_;rintro _ w6 ⟨rfl,he6⟩;have he56:=he5.trans he6;refine⟨_,rfl,zfX (hb2.ext he56) (by rfl) ?_⟩;rw[Int.tdiv_eq_ediv_of_nonneg (by omega),wrap_i64 (x:=S.room 0 / 4) (by omega) (by omega)];dsimp only;refine zg (fun hq=>?_) (fun hq=>?_)
  ·have hq:=of_decide_eq_true hq;exact hJ _ _ ⟨by rw[decide_eq_true (.inl (by omega))],he56⟩
  have hq:=of_decide_eq_false hq;refine zn 2 p.2.2 (hb2.ext he56) (by rfl) ?_;refine zo (x:=some ⟨b,0,none⟩) (hb1.ext he56) (by rfl) ?_;refine zn (l:=.slc) 1 (A,n,c) (hb2.ext he56) (by rfl) ?_;dsimp only;refine zb (qQ (hS.ext he56) (k:=(n:Int)) (by omega) (by omega)) ?_;rintro _ w7 ⟨rfl,he7⟩;have he57:=he56.trans he7;refine⟨_,rfl,zfX (hb2.ext he57) (by rfl) ?_⟩;refine hJ _ _ ⟨?_,he57⟩;congr 1;rw[hl];exact decide_eq_decide.2 ⟨fun hh=>.inr hh,fun hh=>by rcases hh with hh|hh;omega;exact hh⟩
 rintro y w5 ⟨rfl,he25⟩;have he5:=he.trans he25;have hb1:=hb1.ext he25;have hb2:=hb2.ext he25;refine zg (fun hq=>?_) (fun hq=>?_)
 ·have hq:=of_decide_eq_true hq;have:=e1 3 (by unfold Spa.jE;rw[if_neg hq1,if_neg hq2,if_pos hq]) (by decide);exact(congrFun (congrFun this _) _).mpr ⟨rfl,stay he5⟩
 have hq3:=of_decide_eq_false hq;refine zM fun w6 he6 _ _=>?_;have hb1:=hb1.ext he6;have hb2:=hb2.ext he6;have he6:=he5.trans he6;obtain⟨t,hbx⟩:=(h.ext he6).box;refine zo (x:=some ⟨b,0,none⟩) hb1 (by rfl) ?_;refine zo (x:=some ⟨b,0,none⟩) hb1 (by rfl) (zs (qt (l:=.slc) 5 x hbx (by rfl) (by rfl) ?_));refine zb (zc2 (h.ext he6)) ?_;rintro _ w7 ⟨rfl,he7⟩;refine⟨_,rfl,?_⟩;have hb1:=hb1.ext he7;have hb2:=hb2.ext he7;have he7:=he6.trans he7;obtain⟨t,hbx⟩:=(h.ext he7).box;refine⟨fun l hl' q hq'=>?_,?_⟩
 ·simp only [mem_cons,not_mem_nil,or_false]at hl';rcases hl' with rfl|rfl<;>(simp only [mem_cons,not_mem_nil,or_false]at hq';subst hq')
  ·exact(hbx.cell 5).trans rfl
  ·exact(hb1.cell 0).trans rfl
 have hpl:=h.pgs.len;refine zg (fun hq=>?_) (fun hq=>?_)
 ·have hq:=of_decide_eq_true hq;have:=e1 9 (by unfold Spa.jE;rw[if_neg hq1,if_neg hq2,if_neg hq3,if_pos (by omega)]) (by decide);exact(congrFun (congrFun this _) _).mpr ⟨rfl,stay he7⟩
 have hq4:=of_decide_eq_false hq;have hE0:S.jE p=0:=by unfold Spa.jE;rw[if_neg hq1,if_neg hq2,if_neg hq3,if_neg (by omega)]
 refine zo (x:=some ⟨b,0,none⟩) hb1 (by rfl) ?_;refine zb (zhJ (h.ext he7) h01) ?_;rintro _ w8 ⟨rfl,hS8,hO8⟩;refine⟨((S.takeN:Int),S.yP,()),rfl,?_⟩;dsimp only;have hnF:∀ j,w.heap.size<=j->¬F j:=fun j hj hf=>by have:=hFlt j hf;omega
 have hb1:=hb1.only hO8 (hnF r1 (by omega));have hb2:=hb2.only hO8 (hnF r2 (by omega));have hr1lt:r1<w8.heap.size:=hb1.lt;have hr2lt:r2<w8.heap.size:=hb2.lt;have hs8:=(hs.ext he7).only' hO8 hA;have o8:Only F w w8:=Only.trans (Only.zB he7) hO8 (fun j hj=>.inl hj);refine zg (fun hq=>?_) (fun hq=>?_)
 ·have hq:=bne_iff_ne.1 hq;have e2:S.put p=(S,0,S.yP):=by unfold Spa.put;rw[if_neg (by rw[hE0];simp),if_pos hq]
  have e3:S.yQ=S.now:=by
   unfold Spa.yP at hq;unfold Spa.yQ;split at hq
   ·exact absurd rfl hq
   ·rename_i hh;rw[if_neg hh]
  rw[e2];rw[e3]at hS8;exact⟨rfl,F,⟨Fd,x,hb,hr,nb,nr,m,hS8⟩,fun k hk=>.inl hk,o8⟩
 have hT0:=bne_eq_false_iff_eq.1 hq;have hTN:S.takeN<S.N:=by
  unfold Spa.yP at hT0;unfold Spa.takeN;have:=h.ok.now;split at hT0
  ·rename_i hh;rw[if_pos hh];omega
  ·cases hT0
 have hkl:(p.2.1.length:Int)<=S.room 0 / 4:=by
  by_cases hh:S.room 0 / 4<p.2.1.length
  ·exact absurd (Or.inl hh) hq3
  ·omega
 refine zn (l:=.slc) 1 (A,n,c) hb2 (by rfl) ?_;dsimp only;rw[zx (by omega)];refine zb (xi (bs:=[]) (v:=n) (k:=2) (Own.nil 5 w8 w8.heap.size) (Nat.le_refl _) (by omega) (by omega) (by omega) (by omega)) ?_;rintro _ w9 ⟨⟨A1,n1,c1⟩,rfl,ho9,hg9⟩;refine⟨(A1,n1,c1),rfl,?_⟩;have hg9':Ext w8 w9:=(Ext.refl w8).grown hg9.grown (fun j hj=>by cases hj);have hb1:=hb1.ext hg9';have hb2:=hb2.ext hg9';refine zn (l:=.slc) 1 (A,n,c) hb2 (by rfl) ?_;dsimp only;have h8:w.heap.size<=w8.heap.size:=o8.2.2.2.1;have ez:(([]:List UInt8)++le 2 n)=le 2 p.2.1.length++yv (p.2.1.take 0):=by rw[hl];simp[yv]
 rw[ez]at ho9;refine zz (fun y w'=>∃ (i:Nat) (A2:Option Addr) (n2 c2:Nat),i<=n/\y=((A2,n2,c2),(i:Int),())/\Ext w8 w'/\Own 5 w' w8.heap.size A2 n2 c2 (bV (le 2 p.2.1.length++yv (p.2.1.take i)))) (fun y=>(n-y.2.1).toNat) ⟨0,A1,n1,c1,by omega,rfl,hg9',ho9⟩ ?_;rintro _ w10 ⟨i,A2,n2,c2,hi,rfl,he10,ho10⟩;dsimp only;have hn2:n2=2+4*i:=by
  have:=ho10.len;rw[yT,length_append,zv,xn,length_take]at this;omega
 by_cases hlt:i<n
 ·refine zf (decide_eq_true (by omega)) ?_;refine zU (hs8.ext he10) (by omega) (by omega) ?_;rw[Int.toNat_natCast];have e:p.2.1[i]?=some (p.2.1.getD i 0):=by rw[getD_eq_getElem?_getD,List.getElem?_eq_getElem (by omega)];rfl
  have hk:=hk32 _ (mem_of_getElem? e);rw[zx (by omega)];refine zb (xi (v:=p.2.1.getD i 0) (k:=4) ho10 he10.size (by omega) (by omega) (by omega) (by omega)) ?_;rintro _ w11 ⟨⟨A3,n3,c3⟩,rfl,ho11,hg11⟩;refine⟨(A3,n3,c3),rfl,?_⟩;rw[append_assoc,<- zc1 (by omega)]at ho11;refine⟨⟨i+1,A3,n3,c3,by omega,by rw[wrap_i64 (by omega) (by omega)];rfl,he10.grown hg11.grown (fun j hj=>ho10.row' j hj),ho11⟩,by rw[wrap_i64 (by omega) (by omega)];omega⟩
 obtain rfl:i=n:=by omega
 refine zd (decide_eq_false (by omega)) ?_;rw[take_of_length_le (by omega)]at ho10;refine zM fun w11 he11 _ _=>?_;have ho11:=ho10.ext he11;have he11:=he10.trans he11;have hb1:Blk w11 r1 _ _:=(Blk.at_ hb1 (show w11.heap[r1]?=w9.heap[r1]? by rw[he11.block r1 hr1lt,hg9'.block r1 hr1lt]));have hb2:Blk w11 r2 _ _:=(Blk.at_ hb2 (show w11.heap[r2]?=w9.heap[r2]? by rw[he11.block r2 hr2lt,hg9'.block r2 hr2lt]));obtain⟨t,hbx⟩:=(hS8.ext he11).box;refine zo (x:=some ⟨b,0,none⟩) hb1 (by rfl) (zs (zF (l:=.ptr) (some ⟨db,0,none⟩) hbx (by rfl) ?_));refine zF ((p.1.toNat:Nat):Int) hb2 (by rfl) ?_;refine zo (x:=some ⟨b,0,none⟩) hb1 (by rfl) (zs (qt 1 (S.sup.gen:Int) hbx (by rfl) (by rfl) ?_));refine zn 2 p.2.2 hb2 (by rfl) ?_;refine qO (e:=5) (by kernel_rfl) (by kernel_rfl) (by kernel_rfl) ho11.sl ?_;refine⟨fun l hl' q hq'=>?_,?_⟩
 ·simp only [mem_cons,not_mem_nil,or_false]at hl';rcases hl' with rfl|rfl|rfl|rfl|rfl|rfl<;>(simp only [mem_cons,not_mem_nil,or_false]at hq';subst hq')
  ·exact(hb2.cell 2).trans rfl
  ·exact(hbx.cell 1).trans rfl
  ·exact(hb1.cell 0).trans rfl
  ·exact(hb2.cell 0).trans rfl
  ·exact(hbx.cell 0).trans rfl
  ·exact(hb1.cell 0).trans rfl
 have hsz1:(mkB (le 2 p.2.1.length++yv p.2.1)).size=2+4*i:=by rw[xf,length_append,zv,xn];omega
 have hsz1':(⟨(le 2 p.2.1.length++yv p.2.1).toArray⟩:ByteArray).size=2+4*i:=hsz1;refine zK (by rw[hsz1'];show _<=(9223372036854775807:Int);omega) ?_;have ecat:(⟨(le 2 p.2.1.length++yv p.2.1).toArray⟩:ByteArray)++p.2.2=mkB (pgB p):=ko (by rw[zgs,jB,yW,pgB,append_assoc]);rw[ecat,show(S.sup.gen:Int)+1=((S.sup.gen+1:Nat):Int) by omega,zx (by omega)];refine zb (zcd (hS8.ext he11).dev S.takeN (by omega) (S.frame p) hgen hpen) ?_;rintro _ w12 ⟨rfl,hst⟩;refine⟨_,rfl,?_⟩;have hdim2:(yp S.dev S.takeN (S.frame p)).1.size=S.dev.size/\(yp S.dev S.takeN (S.frame p)).1.blocks=S.dev.blocks:=by
  unfold yp Dev.write;split
  ·exact⟨rfl,rfl⟩
  ·split
   ·exact⟨rfl,rfl⟩
   ·split<;>exact⟨rfl,rfl⟩
 obtain⟨F',Fd',hS12,hF12,hO12⟩:=(hS8.ext he11).zo7 hst hdim2;have o11:Only F w w11:=Only.trans o8 (Only.zB (F:=F) he11) (fun j hj=>.inl hj);have fin:yw w b db F { S with now:=S.yQ,dev:=(yp S.dev S.takeN (S.frame p)).1 } w12:=by
  refine⟨F',⟨Fd',x,hb,hr,nb,nr,m,hS12⟩,fun k hk=>?_,Only.trans o11 hO12 (fun j hj=>.inl hj)⟩;rcases hF12 k hk with e|e
  ·exact .inl e
  ·exact .inr (Nat.le_trans o11.2.2.2.1 e)
 refine zg (fun hq=>?_) (fun hq=>?_)
 ·have hq:=bne_iff_ne.1 hq;have e2:S.put p=({ S with now:=S.yQ,dev:=(yp S.dev S.takeN (S.frame p)).1 },0,(yp S.dev S.takeN (S.frame p)).2):=by
   unfold Spa.put;rw[if_neg (by rw[hE0];simp),if_neg (by rw[hT0];simp),if_pos hq]
  rw[e2];exact⟨rfl,fin⟩
 ·have hq:=bne_eq_false_iff_eq.1 hq;have e2:S.put p=({ S with now:=S.yQ,dev:=(yp S.dev S.takeN (S.frame p)).1 },S.takeN,0):=by
   unfold Spa.put;rw[if_neg (by rw[hE0];simp),if_neg (by rw[hT0];simp),if_neg (by rw[hq];simp)]
  rw[e2];exact⟨rfl,fin⟩
theorem zbh (h:SpM w b db S F Fd x hb hr nb nr m) (h01:S.now.getD 0 0≠0/\S.now.getD 1 0≠0) (hgen:S.sup.gen+1<18446744073709551616) (hpen:S.dev.pen.length<=1000000)
  {A:Option Addr} {n c:Nat} (p:Page) (hs:Sli (zu .u32) w A n p.2.1) (hk32:∀ k∈p.2.1,k<4294967296) (hA:∀ a,A=some a->¬F a.block) (hds:p.2.2.size<=1000000000):
  Calls prog 24 #[.pointer (some ⟨b,0,none⟩),.agg (pgV p (A,n,c)).toArray] w (Ret fun v w'=>v=.tuple #[.int .u32 ((S.put p).2.1:Int),.int .i64 (S.put p).2.2]/\yw w b db F (S.put p).1 w'):=zhM h h01 hgen hpen p hs hk32 (fun _=>hA) hds
end V
/- Counts of references:plain. -/
namespace V
open Go Go.Proofs Go.RowKit Crc
abbrev PgF:=Nat->Page×Int
def zE (ps c:List Nat) (n:Nat):Bool:=decide (2<=n)&&(!(decide (n∈ps))&&decide (0<c.getD n 0))
theorem zI {ps c:List Nat} {n:Nat}:zE ps c n=true↔2<=n/\n∉ps/\0<c.getD n 0:=by simp[zE]
abbrev z6 (pg:PgF) (n:Nat):List Nat:=(pg n).1.2.1
def xq (ps:List Nat) (pg:PgF) (c:List Nat) (x m:Nat):Nat:=if zE ps c m then (z6 pg m).count x else 0
def jt (N:Nat) (ps:List Nat) (pg:PgF) (c:List Nat) (x:Nat):Nat:=((List.range N).map (xq ps pg c x)).sum
structure ya (N:Nat) (ps:List Nat) (pg:PgF) (c R:List Nat):Prop where
 len:c.length=N
 two:2<=N
 head:c.getD 0 0=1/\c.getD 1 0=1
 pgs:∀ p∈ps,2<=p/\p<N/\c.getD p 0=1
 root:∀ n∈R,zE ps c n=true
 good:∀ n,zE ps c n=true->(pg n).2=0/\∀ k∈z6 pg n,zE ps c k=true
 rank:∃ r:Nat->Nat,∀ n,zE ps c n=true->∀ k∈z6 pg n,r k<r n
 sum:∀ n,2<=n->n∉ps->c.getD n 0=R.count n+jt N ps pg c n
theorem zeX {f g:Nat->Nat} {n:Nat}:∀ {N:Nat},(∀ m,m≠n->g m=f m)->((List.range N).map g).sum+(if n<N then f n else 0)=((List.range N).map f).sum+(if n<N then g n else 0)
 |0,_=>by simp
 |N+1,h=>by
  have ih:=zeX (f:=f) (g:=g) (n:=n) (N:=N) h;simp only [range_succ,map_append,map_cons,List.map_nil,List.sum_append,List.sum_cons,List.sum_nil,Nat.add_zero]
  by_cases hn:n<N
  ·rw[if_pos hn,if_pos hn]at ih;rw[if_pos (by omega),if_pos (by omega),h N (by omega)];omega
  ·rw[if_neg hn,if_neg hn]at ih
   by_cases hN:n=N
   ·subst hN;rw[if_pos (by omega),if_pos (by omega)];omega
   ·rw[if_neg (by omega),if_neg (by omega),h N (by omega)];omega
theorem zbi {x:Nat}:∀ {l:List Nat},x∈l->x<=l.sum
 |a::r,h=>by
  rcases mem_cons.1 h with rfl|h
  ·simp
  ·have:=zbi h;simp only [List.sum_cons];omega
theorem zmC {f:Nat->Nat} {N:Nat} (h:((List.range N).map f).sum=0):∀ m,m<N->f m=0:=by
 intro m hm;have:f m<=((List.range N).map f).sum:=zbi (mem_map.2 ⟨m,mem_range.2 hm,rfl⟩);omega
theorem yU (l:List Nat) (i k x:Nat):(l.set i x).getD k 0=if i=k/\k<l.length then x else l.getD k 0:=by
 rw[getD_eq_getElem?_getD,getD_eq_getElem?_getD,List.getElem?_set]
 by_cases hik:i=k
 ·subst hik
  by_cases hk:i<l.length
  ·simp[hk]
  ·simp[hk]
 ·rw[if_neg hik,if_neg (fun h=>hik h.1)]
theorem zhN {l:List Nat} {n:Nat} (h:0<l.getD n 0):n<l.length:=by
 by_cases hn:n<l.length
 ·exact hn
 ·rw[getD_eq_getElem?_getD,List.getElem?_eq_none (by omega)]at h;simp at h
section
variable {N:Nat} {ps:List Nat} {pg pg':PgF} {c R:List Nat}
theorem ya.lt (h:ya N ps pg c R) {n:Nat} (hn:zE ps c n=true):n<N:=by
 have:=zhN (zI.1 hn).2.2;rw[h.len]at this;exact this
theorem ya.perm {R':List Nat} (h:ya N ps pg c R) (hp:R.Perm R'):ya N ps pg c R':=
 ⟨h.len,h.two,h.head,h.pgs,fun n hn=>h.root n (hp.mem_iff.2 hn),h.good,h.rank,fun n h1 h2=>by rw[h.sum n h1 h2,hp.count_eq]⟩
theorem ya.none (h:ya N ps pg c R) {n:Nat} (h2:2<=n) (hp:n∉ps) (h0:c.getD n 0=0):n∉R/\∀ m,zE ps c m=true->n∉z6 pg m:=by
 have hs:=h.sum n h2 hp;refine⟨fun hn=>?_,fun m hm hn=>?_⟩
 ·have:=(zI.1 (h.root n hn)).2.2;omega
 ·have:=(zI.1 ((h.good m hm).2 n hn)).2.2;omega
theorem ya.put {ks:List Nat} {n:Nat} (h:ya N ps pg c (ks++R)) (h2:2<=n) (hN:n<N) (hp:n∉ps) (h0:c.getD n 0=0) (hn:(pg' n).2=0) (hk:z6 pg' n=ks) (ho:∀ m,m≠n->m<N->pg' m=pg m):
  ya N ps pg' (c.set n 1) (n::R):=by
 obtain⟨hnR,hnk⟩:=h.none h2 hp h0;have hl:=h.len;have hu:∀ m,zE ps (c.set n 1) m=(zE ps c m||decide (m=n)):=by
  intro m;unfold zE;rw[yU]
  by_cases hm:m=n
  ·subst hm;simp[hl,hN,h2,hp]
  ·rw[if_neg (fun e=>hm e.1.symm)];simp[hm]
 have hun:zE ps c n=false:=by
  cases hq:zE ps c n with
  |false=>rfl
  |true=>have:=(zI.1 hq).2.2;omega
 have hne:∀ m,zE ps c m=true->m≠n:=fun m hm e=>by rw[e,hun]at hm;cases hm
 obtain⟨r,hr⟩:=h.rank;refine⟨by simpa using hl,h.two,?_,?_,?_,?_,⟨fun m=>if m=n then (ks.map r).sum+1 else r m,?_⟩,?_⟩
 ·rw[yU,yU,if_neg (by omega),if_neg (by omega)];exact h.head
 ·intro p hpp;obtain⟨g1,g2,g3⟩:=h.pgs p hpp;refine⟨g1,g2,?_⟩;rw[yU,if_neg (fun e:n=p/\p<c.length=>hp (e.1▸hpp))];exact g3
 ·intro m hm;rw[hu];rcases mem_cons.1 hm with rfl|hm
  ·simp
  ·rw[h.root m (List.mem_append_right _ hm)];rfl
 ·intro m hm;rw[hu]at hm
  by_cases hmn:m=n
  ·subst hmn;refine⟨hn,fun k hk'=>?_⟩;rw[hk]at hk';rw[hu,h.root k (mem_append_left _ hk')];rfl
  ·have hm':zE ps c m=true:=by simpa [hmn] using hm
   rw[z6,ho m hmn (h.lt hm')];refine⟨(h.good m hm').1,fun k hk'=>?_⟩;rw[hu,(h.good m hm').2 k hk'];rfl
 ·intro m hm k hk';rw[hu]at hm;dsimp only
  by_cases hmn:m=n
  ·subst hmn;rw[hk]at hk';rw[if_pos rfl,if_neg (hne k (h.root k (mem_append_left _ hk')))];have:r k<=(ks.map r).sum:=zbi (mem_map.2 ⟨k,hk',rfl⟩);omega
  ·have hm':zE ps c m=true:=by simpa [hmn] using hm
   rw[z6,ho m hmn (h.lt hm')]at hk';rw[if_neg hmn,if_neg (hne k ((h.good m hm').2 k hk'))];exact hr m hm' k hk'
 ·intro x h2x hpx;have hg:∀ m,m<N->m≠n->xq ps pg' (c.set n 1) x m=xq ps pg c x m:=by
   intro m hm hmn;unfold xq;rw[hu,z6,z6,ho m hmn hm];simp[hmn]
  have hone:=zeX (f:=xq ps pg c x) (g:=fun m=>if m=n then xq ps pg' (c.set n 1) x n else xq ps pg c x m) (n:=n) (N:=N) (fun m hm=>if_neg hm);rw[if_pos hN,if_pos hN]at hone;have e1:((List.range N).map fun m=>if m=n then xq ps pg' (c.set n 1) x n else xq ps pg c x m)=(List.range N).map (xq ps pg' (c.set n 1) x):=by
   apply map_congr_left;intro m hm;split
   ·rename_i e;rw[e]
   ·rename_i e;exact(hg m (mem_range.1 hm) e).symm
  rw[e1]at hone;have e2:xq ps pg c x n=0:=by unfold xq;rw[hun];rfl
  have e3:xq ps pg' (c.set n 1) x n=ks.count x:=by unfold xq;rw[hu,hk];simp
  simp only [if_true,e2,e3,Nat.add_zero]at hone;have hs:=h.sum x h2x hpx;rw[List.count_append]at hs;show _=_+((List.range N).map (xq ps pg' (c.set n 1) x)).sum;rw[hone];unfold jt at hs;rw[yU,List.count_cons]
  by_cases hx:x=n
  ·subst hx;rw[if_pos ⟨rfl,by omega⟩];simp only [beq_self_eq_true,if_true];omega
  ·rw[if_neg (fun e=>hx e.1.symm),if_neg (by simpa using fun e=>hx e.symm)];omega
theorem ya.setPos {n v:Nat} {R':List Nat} (h:ya N ps pg c R) (hn:zE ps c n=true) (hv:0<v) (hR:∀ m∈R',zE ps c m=true) (hc:∀ x,x≠n->R'.count x=R.count x) (hv':v+R.count n=c.getD n 0+R'.count n):
  ya N ps pg (c.set n v) R':=by
 obtain⟨h2,hp,h0⟩:=zI.1 hn;have hl:=h.len;have hN:=h.lt hn;have hu:∀ m,zE ps (c.set n v) m=zE ps c m:=by
  intro m;unfold zE;rw[yU]
  by_cases hm:m=n
  ·subst hm;rw[if_pos ⟨rfl,by omega⟩];rw[decide_eq_true hv,decide_eq_true h0]
  ·rw[if_neg (fun e=>hm e.1.symm)]
 have hs:∀ x,jt N ps pg (c.set n v) x=jt N ps pg c x:=by
  intro x;unfold jt;congr 1;apply map_congr_left;intro m _;unfold xq;rw[hu]
 refine⟨by simpa using hl,h.two,?_,?_,fun m hm=>by rw[hu];exact hR m hm,fun m hm=>?_,?_,?_⟩
 ·rw[yU,yU,if_neg (by omega),if_neg (by omega)];exact h.head
 ·intro p hpp;obtain⟨g1,g2,g3⟩:=h.pgs p hpp;refine⟨g1,g2,?_⟩;rw[yU,if_neg (fun e:n=p/\p<c.length=>hp (e.1▸hpp))];exact g3
 ·rw[hu]at hm;exact⟨(h.good m hm).1,fun k hk=>by rw[hu];exact(h.good m hm).2 k hk⟩
 ·obtain⟨r,hr⟩:=h.rank;exact⟨r,fun m hm=>hr m (by rw[hu]at hm;exact hm)⟩
 ·intro x h2x hpx;have:=h.sum x h2x hpx;rw[hs,yU]
  by_cases hx:x=n
  ·subst hx;rw[if_pos ⟨rfl,by omega⟩];omega
  ·rw[if_neg (fun e=>hx e.1.symm),hc x hx];omega
theorem ya.share {n:Nat} (h:ya N ps pg c R) (hn:zE ps c n=true):ya N ps pg (c.set n (c.getD n 0+1)) (n::R):=
 h.setPos hn (by omega) (fun m hm=>by rcases mem_cons.1 hm with rfl|hm;exact hn;exact h.root m hm) (fun x hx=>by rw[List.count_cons,if_neg (by simpa using fun e=>hx e.symm)];rfl) (by rw[List.count_cons_self];omega)
theorem ya.dec {n:Nat} (h:ya N ps pg c (n::R)) (h1:c.getD n 0≠1):ya N ps pg (c.set n (c.getD n 0-1)) R:=by
 have hn:=h.root n mem_cons_self;have:=(zI.1 hn).2.2;exact h.setPos hn (by omega) (fun m hm=>h.root m (mem_cons_of_mem _ hm)) (fun x hx=>by rw[List.count_cons,if_neg (by simpa using fun e=>hx e.symm)];rfl) (by rw[List.count_cons_self];omega)
theorem ya.last {n:Nat} (h:ya N ps pg c (n::R)) (h1:c.getD n 0=1):ya N ps pg (c.set n 0) (z6 pg n++R):=by
 have hn:=h.root n mem_cons_self;obtain⟨h2,hp,h0⟩:=zI.1 hn;have hl:=h.len;have hN:=h.lt hn;have hsn:=h.sum n h2 hp;rw[h1,List.count_cons_self]at hsn;have hcR:R.count n=0:=by omega
 have hz:∀ m,m<N->xq ps pg c n m=0:=zmC (by unfold jt at hsn;omega);have hnR:n∉R:=List.count_eq_zero.1 hcR;have hnk:∀ m,zE ps c m=true->n∉z6 pg m:=by
  intro m hm;have:=hz m (h.lt hm);unfold xq at this;rw[if_pos hm]at this;exact List.count_eq_zero.1 this
 have hu:∀ m,zE ps (c.set n 0) m=(zE ps c m&&!(decide (m=n))):=by
  intro m;unfold zE;rw[yU]
  by_cases hm:m=n
  ·subst hm;rw[if_pos ⟨rfl,by omega⟩];simp
  ·rw[if_neg (fun e=>hm e.1.symm)];simp[hm]
 have hu2:∀ {m},zE ps c m=true->m≠n->zE ps (c.set n 0) m=true:=fun hm hmn=>by rw[hu,hm];simp[hmn]
 refine⟨by simpa using hl,h.two,?_,?_,?_,fun m hm=>?_,?_,?_⟩
 ·rw[yU,yU,if_neg (by omega),if_neg (by omega)];exact h.head
 ·intro p hpp;obtain⟨g1,g2,g3⟩:=h.pgs p hpp;refine⟨g1,g2,?_⟩;rw[yU,if_neg (fun e:n=p/\p<c.length=>hp (e.1▸hpp))];exact g3
 ·intro m hm;rcases mem_append.1 hm with hm|hm
  ·exact hu2 ((h.good n hn).2 m hm) (fun e=>hnk n hn (e▸hm))
  ·exact hu2 (h.root m (mem_cons_of_mem _ hm)) (fun e=>hnR (e▸hm))
 ·rw[hu]at hm;have hm':zE ps c m=true:=by simp at hm;exact hm.1
  exact⟨(h.good m hm').1,fun k hk=>hu2 ((h.good m hm').2 k hk) (fun e=>hnk m hm' (e▸hk))⟩
 ·obtain⟨r,hr⟩:=h.rank;exact⟨r,fun m hm=>hr m (by rw[hu]at hm;simp at hm;exact hm.1)⟩
 ·intro x h2x hpx;have hone:=zeX (f:=xq ps pg c x) (g:=xq ps pg (c.set n 0) x) (n:=n) (N:=N) (fun m hm=>by unfold xq;rw[hu];simp[hm]);rw[if_pos hN,if_pos hN]at hone;have e2:xq ps pg c x n=(z6 pg n).count x:=by unfold xq;rw[if_pos hn]
  have e3:xq ps pg (c.set n 0) x n=0:=by unfold xq;rw[hu];simp
  rw[e2,e3]at hone;have hs:=h.sum x h2x hpx;unfold jt at hs ⊢;rw[yU,List.count_append]
  by_cases hx:x=n
  ·subst hx;rw[if_pos ⟨rfl,by omega⟩];have:(z6 pg x).count x=0:=List.count_eq_zero.2 (hnk x hn);rw[List.count_cons_self]at hs;omega
  ·rw[if_neg (fun e=>hx e.1.symm)];rw[List.count_cons,if_neg (by simpa using fun e=>hx e.symm)]at hs;omega
theorem ya.uL (h:ya N ps pg c R) (ho:∀ m,zE ps c m=true->pg' m=pg m):ya N ps pg' c R:=by
 have hs:∀ x,jt N ps pg' c x=jt N ps pg c x:=by
  intro x;unfold jt;congr 1;apply map_congr_left;intro m _;unfold xq
  by_cases hm:zE ps c m=true
  ·rw[if_pos hm,if_pos hm,z6,ho m hm]
  ·rw[if_neg hm,if_neg hm]
 refine⟨h.len,h.two,h.head,h.pgs,h.root,fun n hn=>?_,?_,fun n h2 hp=>by rw[hs];exact h.sum n h2 hp⟩
 ·rw[z6,ho n hn];exact h.good n hn
 ·obtain⟨r,hr⟩:=h.rank;exact⟨r,fun n hn k hk=>hr n hn k (by rw[z6,ho n hn]at hk;exact hk)⟩
end
inductive Drp (ask:Nat->Bool) (pg:PgF):List Nat->List Nat->List Nat->Int->Prop
 |nil (c:List Nat):Drp ask pg c [] c 0
 |bad {c st:List Nat} {n:Nat}:c.getD n 0≠1->atE c n≠0->Drp ask pg c (n::st) c (atE c n)
 |dec {c c' st:List Nat} {n:Nat} {e:Int}:c.getD n 0≠1->atE c n=0->Drp ask pg (xk c n) st c' e->Drp ask pg c (n::st) c' e
 |noask {c st:List Nat} {n:Nat}:c.getD n 0=1->ask n=false->Drp ask pg c (n::st) c 2
 |err {c st:List Nat} {n:Nat} {e:Int}:c.getD n 0=1->ask n=true->(pg n).2=e->e≠0->Drp ask pg c (n::st) c e
 |last {c c' st:List Nat} {n:Nat} {e:Int}:c.getD n 0=1->ask n=true->(pg n).2=0->Drp ask pg (xk c n) (z6 pg n++st) c' e->Drp ask pg c (n::st) c' e
theorem zeY (l:List Nat):∀ (i x:Nat),i<l.length->(l.set i x).sum+l.getD i 0=l.sum+x:=by
 induction l with
 |nil=>intro i x h;simp at h
 |cons a r ih=>
  intro i x h;cases i with
  |zero=>simp[List.sum_cons];omega
  |succ i=>
   have:=ih i x (by simpa using h);simp only [List.set_cons_succ,List.sum_cons,List.getD_cons_succ];omega
theorem zbj {N:Nat} {ps:List Nat} {pg:PgF} {c R:List Nat} (h:ya N ps pg c R) {n:Nat} (hn:zE ps c n=true):atE c n=0:=by
 obtain⟨h2,hp,h0⟩:=zI.1 hn;have:=h.lt hn;have:=h.len;unfold atE;rw[if_neg (by omega),if_neg (by omega)]
theorem zce {N:Nat} {ps:List Nat} {pg:PgF} {c R:List Nat} (h:ya N ps pg c R) {n:Nat} (hn:zE ps c n=true):xk c n=c.set n (c.getD n 0-1):=by
 unfold xk;rw[if_pos (zbj h hn)]
theorem ya.drop {N:Nat} {ps:List Nat} {pg:PgF} {ask:Nat->Bool} (hask:∀ n,2<=n->n<N->n∉ps->ask n=true):∀ (z:Nat) {c R:List Nat} (st:List Nat),c.sum<=z->ya N ps pg c (st++R)->∃ c',Drp ask pg c st c' 0/\ya N ps pg c' R/\c'.length=c.length/\∀ n,c'.getD n 0<=c.getD n 0:=by
 intro z
 induction z with
 |zero=>
  intro c R st hz h;have h0:=h.head.1;have hl:=h.len;have h2:=h.two;have:=zeY c 0 0 (by omega);omega
 |succ z ih=>
  intro c R st hz h;cases st with
  |nil=>exact⟨c,.nil c,h,rfl,fun _=>Nat.le_refl _⟩
  |cons n st=>
   have hn:=h.root n (by simp);obtain⟨h2,hp,h0⟩:=zI.1 hn;have hN:=h.lt hn;have hl:=h.len;have hsum:=zeY c n (c.getD n 0-1) (by omega);have hle:∀ v,v<=c.getD n 0->∀ k,(c.set n v).getD k 0<=c.getD k 0:=by
    intro v hv k;rw[yU];split
    ·rename_i e;rw[<- e.1];exact hv
    ·exact Nat.le_refl _
   by_cases h1:c.getD n 0=1
   ·have hw:ya N ps pg (c.set n 0) (z6 pg n++st++R):=by
     rw[append_assoc];exact ya.last (R:=st++R) h h1
    have es:xk c n=c.set n 0:=by rw[zce h hn,h1]
    rw[h1]at hsum;obtain⟨c',g1,g2,g3,g4⟩:=ih _ (by simp only [Nat.sub_self]at hsum;omega) hw;exact⟨c',.last h1 (hask n h2 hN hp) (h.good n hn).1 (by rw[es];exact g1),g2,by rw[g3];simp,fun k=>Nat.le_trans (g4 k) (hle 0 (by omega) k)⟩
   ·have hw:ya N ps pg (c.set n (c.getD n 0-1)) (st++R):=ya.dec h h1;obtain⟨c',g1,g2,g3,g4⟩:=ih _ (by omega) hw;exact⟨c',.dec h1 (zbj h hn) (by rw[zce h hn];exact g1),g2,by rw[g3];simp,fun k=>Nat.le_trans (g4 k) (hle _ (by omega) k)⟩
end V
/- Contracts of the package space:Share,Count,Drop. -/
namespace V
open Go Go.Proofs Go.RowKit Crc
variable {w w':World} {b db:Nat} {S:Spa} {F Fd:Nat->Prop} {x:SLC} {hb hr nb nr:Nat} {m:MkL}
theorem SpM.nrF (h:SpM w b db S F Fd x hb hr nb nr m):F nr:=(h.own nr).2 (.inr (by simp[yL]))
theorem SpM.zgL (h:SpM w b db S F Fd x hb hr nb nr m) {w0:World} (hg:w0.grownBy w' (some nr)):Only F w0 w':=Only.z8 hg (fun j hj=>.inl (by injection hj with hj;subst hj;exact h.nrF))
theorem zhO (h:SpM w b db S F Fd x hb hr nb nr m) {n:Nat} (hn:n<4294967296):
  Calls prog 29 #[.pointer (some ⟨b,0,none⟩),.int .u32 (n:Int)] w (Ret fun v w'=>v=.int .i64 ((S.now.getD n 0:Nat):Int)/\w'=w):=by
 apply znC;unfold S29;obtain⟨t,hbx⟩:=h.box;refine zd (by rfl) (zs (qt (l:=.ptr) 8 (some ⟨nb,0,none⟩) hbx (by rfl) (by rfl) ?_));refine zb (jG h n hn) ?_;rintro _ w1 ⟨rfl,rfl⟩;exact⟨_,rfl,rfl,rfl⟩
def Spa.share (S:Spa) (n:Nat):Spa×Int:=if S.asked n=false then (S,2) else ({ S with now:=vw S.now n },kX S.now n)
theorem zc5 (h:SpM w b db S F Fd x hb hr nb nr m) {n:Nat} (hn:n<4294967296):
  Calls prog 90 #[.pointer (some ⟨b,0,none⟩),.int .u32 (n:Int)] w (Ret fun v w'=>v=.int .i64 (S.share n).2/\SpM w' b db (S.share n).1 F Fd x hb hr nb nr m/\Only F w w'):=by
 apply zog;unfold S90 Spa.share;refine zd (by rfl) (zb (vI h hn) ?_);rintro _ w1 ⟨rfl,hw1⟩;refine⟨_,rfl,?_⟩;rw[hw1];refine zg (fun hq=>?_) (fun hq=>?_)
 ·have hq:S.asked n=false:=by simpa using hq
  rw[if_pos hq];exact⟨rfl,h,Only.refl F w⟩
 have hq:S.asked n=true:=by simpa using hq
 rw[if_neg (by rw[hq];simp)];obtain⟨t,hbx⟩:=h.box;refine zs (qt (l:=.ptr) 8 (some ⟨nb,0,none⟩) hbx (by rfl) (by rfl) ?_);obtain⟨q,c⟩:=h.nowC;refine zb (zki c n hn) ?_;rintro _ w2 ⟨rfl,hc,hg⟩;exact⟨_,rfl,rfl,h.ke hg hc (by unfold vw;split<;>simp),h.zgL hg⟩
theorem zgM {k:IntKind} {w:World} {e:TypeId} {B:Nat} {A:Option Addr} {n c:Nat} {xs:List Nat} {i:Int} {v:Nat} {K:WP} (h:Owni (zu k) e w B A n c xs) (h0:0<=i) (h1:i<(n:Int))
  (hK:∀ w',Owni (zu k) e w' B A n c (xs.set i.toNat v)->w.grownBy w' (orow A)->K w'):
  (zc (0<=i/\i<((n:Nat):Int))<|zi A fun p=>stW (p.add (Int.toNat i*1)) (.int k (v:Int)) K) w:=by
 refine zih (e:=e) (B:=B) (c:=c) (vs:=(zu k).flat xs) h h0 h1 fun w' ho hg=>hK w' ?_ (by rw[xu]at hg;exact hg);rw[zmz]at ho;exact ho
theorem zko {w:World} {B:Nat} {A:Option Addr} {n c:Nat} {xs:List Nat} (h:Owni (zu .u32) 41 w B A n c xs) (hn:n<=1000000):
  Calls prog 89 #[.slice A n c] w (Ret fun v w'=>v=.tuple #[]/\Owni (zu .u32) 41 w' B A n c xs.reverse/\w.grownBy w' (orow A)):=by
 apply zof;unfold S89;have hl:=h.len;rw[wrap_i64 (by omega) (by omega)];refine zz (fun y w'=>∃ (i:Nat) (ys:List Nat),2*i<=n+1/\y=((i:Int),(n:Int)-1-i,())/\ys.length=n/\(∀ k,k<n->ys.getD k 0=if k<i\/n<=k+i then xs.getD (n-1-k) 0 else xs.getD k 0)/\Owni (zu .u32) 41 w' B A n c ys/\w.grownBy w' (orow A)) (fun y=>(n-y.1).toNat)
  ⟨0,xs,by omega,by simp,hl,fun k hk=>by rw[if_neg (by omega)],h,xD _ _⟩ ?_
 rintro _ w1 ⟨i,ys,hi,rfl,hyl,hys,ho,hg⟩;dsimp only
 by_cases hlt:(i:Int)<(n:Int)-1-i
 ·refine zf (decide_eq_true hlt) ?_;refine zM fun w2 he2 _ _=>?_;have ho:=ho.ext he2;have hg:=xb hg (xO he2 none) (fun j hj=>by cases hj);refine zU ho.sl (by omega) (by omega) ?_;refine zU ho.sl (by omega) (by omega) ?_;have ej:((n:Int)-1-i).toNat=n-1-i:=by omega
  refine zgM ho (by omega) (by omega) ?_;intro w3 ho3 hg3;refine zgM ho3 (by omega) (by omega) ?_;intro w4 ho4 hg4;rw[ej,Int.toNat_natCast]at ho4;refine⟨⟨i+1,(ys.set i (ys.getD (n-1-i) 0)).set (n-1-i) (ys.getD i 0),by omega,?_,by simp[hyl],fun k hk=>?_,ho4,xb (xb hg hg3 (fun j hj=>.inl hj)) hg4 (fun j hj=>.inl hj)⟩,?_⟩
  ·rw[show wrap .i64 ((i:Int)+1)=((i+1:Nat):Int) from by rw[wrap_i64 (by omega) (by omega)];rfl,show wrap .i64 ((n:Int)-1-i-1)=(n:Int)-1-((i+1:Nat):Int) from by rw[wrap_i64 (by omega) (by omega)];omega]
  ·rw[yr,yr];simp only [length_set,hyl];have h1:=hys i (by omega);have h2:=hys (n-1-i) (by omega);rw[if_neg (by omega)]at h1 h2
   by_cases e1:n-1-i=k
   ·subst e1;rw[if_pos ⟨rfl,hk⟩,if_pos (by omega),h1];congr 1;omega
   ·rw[if_neg (fun e=>e1 e.1)]
    by_cases e2:i=k
    ·subst e2;rw[if_pos ⟨rfl,hk⟩,if_pos (by omega),h2]
    ·rw[if_neg (fun e=>e2 e.1),hys k hk]
     by_cases e3:k<i\/n<=k+i
     ·rw[if_pos e3,if_pos (by omega)]
     ·rw[if_neg e3,if_neg (by omega)]
  ·rw[wrap_i64 (by omega) (by omega)];omega
 ·refine zd (decide_eq_false hlt) ⟨rfl,?_,hg⟩;have e:ys=xs.reverse:=by
   refine qA (by simp[hyl,hl]) (fun k=>?_)
   by_cases hk:k<n
   ·rw[hys k hk,getD_eq_getElem?_getD (l:=xs.reverse),List.getElem?_reverse (by omega),hl,<- getD_eq_getElem?_getD];split
    ·rfl
    ·congr 1;omega
   ·rw[getD_eq_getElem?_getD,getD_eq_getElem?_getD,List.getElem?_eq_none (by omega),List.getElem?_eq_none (by simp;omega)]
  rw[<- e];exact ho
theorem Owni.trunc {w:World} {e:TypeId} {B:Nat} {A:Option Addr} {n c:Nat} {ys:List Nat} {k:Nat} (h:Owni (zu .u32) e w B A n c (ys++[k])):zm A 0 c 1=A/\n=ys.length+1/\Owni (zu .u32) e w B A ys.length c ys:=by
 have hl:=h.len;rw[length_append,length_singleton]at hl;have hle:=h.le;obtain⟨h1,h2⟩:=h;rcases h2 with ⟨_,hn⟩|⟨g,cap,cur,hv,hB,hg,hnc,hcm,hcs,ht⟩
 ·omega
 ·injection hv with hA hn hc
  subst hA hc;refine⟨?_,hl.symm,⟨by rw[(zu .u32).xh],.inr ⟨g,c,cur,rfl,hB,hg,by omega,hcm,hcs,?_⟩⟩⟩
  ·unfold zm;split
   ·rename_i h0;omega
   ·simp[Addr.add]
  ·have e1:cur.toList.take (ys.length*(zu .u32).k)=((zu .u32).flat (ys++[k])).take (ys.length*(zu .u32).k):=by
    rw[<- ht,List.take_take,Nat.min_eq_left (Nat.mul_le_mul_right _ (by omega))]
   have e2:=(zu .u32).xh ys;rw[e1,(zu .u32).zcT,List.take_append_of_le_length (by omega),take_of_length_le (by omega)]
theorem Drp.inv {ask:Nat->Bool} {pg:PgF} {c st c':List Nat} {n:Nat} {e:Int} (h:Drp ask pg c (n::st) c' e):
  (c.getD n 0≠1/\atE c n≠0/\c'=c/\e=atE c n)\/(c.getD n 0≠1/\atE c n=0/\Drp ask pg (xk c n) st c' e)\/(c.getD n 0=1/\ask n=false/\c'=c/\e=2)\/
  (c.getD n 0=1/\ask n=true/\(pg n).2=e/\e≠0/\c'=c)\/(c.getD n 0=1/\ask n=true/\(pg n).2=0/\Drp ask pg (xk c n) (z6 pg n++st) c' e):=by
 cases h with
 |bad h1 h2=>exact .inl ⟨h1,h2,rfl,rfl⟩
 |dec h1 h2 h3=>exact .inr (.inl ⟨h1,h2,h3⟩)
 |noask h1 h2=>exact .inr (.inr (.inl ⟨h1,h2,rfl,rfl⟩))
 |err h1 h2 h3 h4=>exact .inr (.inr (.inr (.inl ⟨h1,h2,h3,h4,rfl⟩)))
 |last h1 h2 h3 h4=>exact .inr (.inr (.inr (.inr ⟨h1,h2,h3,h4⟩)))
theorem zec {N:Nat} {bs:List UInt8}:(xQ N bs).1.2.1.length<=1024/\∀ k∈(xQ N bs).1.2.1,2<=k/\k<N:=by
 unfold xQ;split
 ·rename_i hc;obtain⟨h0,h1,h2,h3,h4⟩:=hc;refine⟨?_,h4⟩;dsimp only;have hdl:(B (yo bs).1.2.2).length<=4096:=by
   have:=zeQ (size:=(bs.length:Int)) (f:=xj bs) (by rw[(um h0).2]);rw[(um h0).1];omega
  unfold ka;rw[zeS];omega
 ·simp[yX]
theorem zgN {c:List Nat} {n:Nat} (h:atE c n=0):(xk c n).sum+1=c.sum:=by
 rcases zb8 c n with ⟨_,h2,h3,h4⟩|h2|h2
 ·unfold xk;rw[if_pos h];have:=zeY c n (c.getD n 0-1) h3;omega
 ·omega
 ·omega
theorem zjm {α:Type} (l:List α):l=[]\/∃ (r:List α) (a:α),l=r++[a]:=by
 rcases List.eq_nil_or_concat l with h|⟨r,a,h⟩
 ·exact .inl h
 ·exact .inr ⟨r,a,by rw[h,List.concat_eq_append]⟩
theorem zo9 {l:List Nat} {B:Nat} (h:∀ n∈l,n<=B):l.sum<=l.length*B:=by
 induction l with
 |nil=>simp
 |cons a r ih=>
  have h1:=ih (fun n hn=>h n (mem_cons_of_mem _ hn));have h2:=h a mem_cons_self;rw[List.sum_cons,length_cons,Nat.add_mul];omega
theorem zed (h:SpM w b db S F Fd x hb hr nb nr m) {n:Nat} (hn:n<4294967296) {c':List Nat} {e:Int} (hD:S.asked n=true->Drp S.asked S.page S.now [n] c' e) (hno:S.asked n=false->c'=S.now/\e=2):
  Calls prog 28 #[.pointer (some ⟨b,0,none⟩),.int .u32 (n:Int)] w (Ret fun v w'=>v=.int .i64 e/\SpM w' b db { S with now:=c' } F Fd x hb hr nb nr m/\Only F w w'):=by
 have hFlt:=h.lt;have hdim:=h.dims;have hN:=hdim.n;have hnrlt:=hFlt nr h.nrF;have hsum0:S.now.sum<=4096*65535:=by
  obtain⟨q,hc⟩:=h.nowC;have:=zo9 (l:=S.now) (B:=65535) (fun a ha=>by have:=hc.fits a ha;omega);have hl:=hc.len;exact Nat.le_trans this (Nat.mul_le_mul_right _ hl.2)
 apply znB;unfold S28;refine zd (by rfl) (zb (vI h hn) ?_);rintro _ w1 ⟨rfl,hw1⟩;refine⟨_,rfl,?_⟩;rw[hw1];refine zg (fun hq=>?_) (fun hq=>?_)
 ·have hq:S.asked n=false:=by simpa using hq
  obtain⟨rfl,rfl⟩:=hno hq;exact⟨rfl,h,Only.refl F w⟩
 have hq:S.asked n=true:=by simpa using hq
 have hD:=hD hq;refine zr fun r2 w2 hb2 he2 hr2 hz2=>?_;have ho2:Owni (zu .u32) 41 w2 r2 (some ⟨r2,0,none⟩) 1 1 [n]:=j8 (by exact hb2) rfl (by omega) (Nat.le_refl _);refine ziw (fun y k w'=>∃ (cc xs:List Nat) (A:Option Addr) (cp:Nat),y=((A,xs.length,cp),())/\k=cc.sum/\Drp S.asked S.page cc xs.reverse c' e/\SpM w' b db { S with now:=cc } F Fd x hb hr nb nr m/\Owni (zu .u32) 41 w' r2 A xs.length cp xs/\(∀ a∈xs,a<4294967296)/\Only F w w'/\xs.length+1100*cc.sum<=1+1100*S.now.sum)
  S.now.sum ⟨S.now,[n],_,1,rfl,rfl,hD,h.ext he2,ho2,by simpa using hn,Only.zB he2,by simp⟩ ?_
 rintro _ k w3 J ⟨cc,xs,A,cp,rfl,rfl,hD,hS,ho,h32,hO,hbound⟩ hJ;dsimp only;rcases zjm xs with rfl|⟨ys,a,rfl⟩
 ·refine zd (decide_eq_false (by simp)) ?_;rw[List.reverse_nil]at hD;cases hD;exact⟨rfl,hS,hO⟩
 have hle:=ho.le;obtain⟨ecut,hyl,hoy⟩:=ho.trunc;rw[ecut];rw[hyl]at ho hle ⊢;rw[hyl]at hbound;refine zf (decide_eq_true (by omega)) ?_;have ew:wrap .i64 (((ys.length+1:Nat):Int)-1)=(ys.length:Int):=by rw[wrap_i64 (by omega) (by omega)];omega
 rw[ew];refine zU ho.sl (by omega) (by omega) ?_;rw[Int.toNat_natCast];have ea:(ys++[a]).getD ys.length 0=a:=by simp
 rw[ea];have ha:=h32 a (by simp);refine zK ⟨by omega,by omega⟩ ?_;obtain⟨t,hbx⟩:=hS.box;refine zs (qt (l:=.ptr) 8 (some ⟨nb,0,none⟩) hbx (by rfl) (by rfl) ?_);refine zb (jG hS a ha) ?_;rintro _ w4 ⟨rfl,hw4⟩;refine⟨_,rfl,?_⟩;rw[hw4];dsimp only;rw[List.reverse_append,List.reverse_singleton,List.singleton_append]at hD;have hr2F:∀ j,orow A=some j->w.heap.size<=j:=fun j hj=>by have:=ho.row j hj;omega
 have hnrA:∀ j,some nr=some j->orow A≠some j:=fun j hj e=>by injection hj with hj;subst hj;have:=hr2F _ e;omega
 have hO':∀ {w5:World},w3.grownBy w5 (some nr)->Only F w w5:=fun hg=>Only.trans hO (h.zgL hg) (fun j hj=>.inl hj);rcases hD.inv with ⟨d1,d2,d3,d4⟩|⟨d1,d2,d3⟩|⟨d1,d2,d3,d4⟩|⟨d1,d2,d3,d4,d5⟩|⟨d1,d2,d3,d4⟩
 ·refine zf (bne_iff_ne.2 (by omega)) ?_;refine zs (qt (l:=.ptr) 8 (some ⟨nb,0,none⟩) hbx (by rfl) (by rfl) ?_);refine zb (zcG hS ha) ?_;rintro _ w5 ⟨rfl,hS5,hg5⟩;refine⟨((zbg cc a:Int),atE cc a,()),rfl,zf (bne_iff_ne.2 d2) ?_⟩;have es:xk cc a=cc:=by unfold xk;rw[if_neg d2]
  dsimp only at hS5;rw[es]at hS5;subst d3 d4;exact⟨rfl,hS5,hO' hg5⟩
 ·refine zf (bne_iff_ne.2 (by omega)) ?_;refine zs (qt (l:=.ptr) 8 (some ⟨nb,0,none⟩) hbx (by rfl) (by rfl) ?_);refine zb (zcG hS ha) ?_;rintro _ w5 ⟨rfl,hS5,hg5⟩;refine⟨((zbg cc a:Int),atE cc a,()),rfl,?_⟩;dsimp only;rw[d2];refine zd (by rfl) ?_;have hsum:=zgN d2;exact hJ _ _ _ (by omega:(xk cc a).sum<cc.sum) ⟨xk cc a,ys,A,cp,rfl,rfl,d3,hS5,hoy.grown hg5 hnrA,fun k hk=>h32 k (mem_append_left _ hk),hO' hg5,by omega⟩
 all_goals
  refine zd (bne_eq_false_iff_eq.2 (by omega)) ?_;refine zb (ub hS ha) ?_;rintro _ w5 ⟨y,rfl,hok,he5⟩;refine⟨(pgT (Spa.get { S with now:=cc } a).1 y,(Spa.get { S with now:=cc } a).2,()),rfl,?_⟩
 ·have eg:Spa.get { S with now:=cc } a=(yX,2):=if_pos d2;rw[eg]at hok ⊢;refine yn (vs:=pgV yX y) (by rfl) (jU _ _) (fun r6 w6 hb6 he6 hr6=>?_) (by rfl);refine zf (by rfl) ?_;subst d3 d4;exact⟨rfl,(hS.ext he5).ext he6,Only.trans (Only.trans hO (Only.zB (F:=F) he5) (fun j hj=>.inl hj)) (Only.zB (F:=F) he6) (fun j hj=>.inl hj)⟩
 ·have eg:Spa.get { S with now:=cc } a=S.page a:=by
   unfold Spa.get;rw[if_neg (by rw[show Spa.asked { S with now:=cc } a=S.asked a from rfl,d2];simp),if_neg (by dsimp only;omega)];rfl
  rw[eg]at hok ⊢;refine yn (vs:=pgV (S.page a).1 y) (by rfl) (jU _ _) (fun r6 w6 hb6 he6 hr6=>?_) (by rfl);refine zf (bne_iff_ne.2 (by dsimp only;rw[d3];exact d4)) ?_;subst d5;refine⟨by rw[<- d3],(hS.ext he5).ext he6,Only.trans (Only.trans hO (Only.zB (F:=F) he5) (fun j hj=>.inl hj)) (Only.zB (F:=F) he6) (fun j hj=>.inl hj)⟩
 ·have eg:Spa.get { S with now:=cc } a=S.page a:=by
   unfold Spa.get;rw[if_neg (by rw[show Spa.asked { S with now:=cc } a=S.asked a from rfl,d2];simp),if_neg (by dsimp only;omega)];rfl
  rw[eg]at hok ⊢;refine yn (vs:=pgV (S.page a).1 y) (by rfl) (jU _ _) (fun r6 w6 hb6 he6 hr6=>?_) (by rfl);dsimp only;rw[d3];refine zd (by rfl) ?_;have he56:=he5.trans he6;have hS6:=hS.ext he56;have hok6:=hok.ext he6;have hoy6:=hoy.ext he56;have o6:Only F w w6:=Only.trans hO (Only.zB (F:=F) he56) (fun j hj=>.inl hj);obtain⟨t,hbx⟩:=hS6.box;refine zs (qt (l:=.ptr) 8 (some ⟨nb,0,none⟩) hbx (by rfl) (by rfl) ?_);refine zb (zcG hS6 ha) ?_;rintro _ w7 ⟨rfl,hS7,hg7⟩;have datE:atE cc a=0:=by
   obtain⟨a1,a2,a3⟩:=kM.1 d2;have hl:=hS.ok.now;have hl':cc.length=S.N:=hl;unfold atE;rw[if_neg (by omega),if_neg (by omega)]
  refine⟨((zbg cc a:Int),atE cc a,()),rfl,?_⟩;dsimp only;rw[datE];refine zd (by rfl) ?_;have h3lt:nr<w3.heap.size:=Nat.lt_of_lt_of_le hnrlt hO.2.2.2.1;have hb7:=hb6.grown hg7 (by simp;have:=he5.size;omega);have hkrow:∀ j,orow y.1=some j->w3.heap.size<=j:=fun j hj=>hok.row j hj;have hok7:=hok6.grown hg7 (fun j hj e=>by injection hj with hj;subst hj;have:=hkrow _ e;omega);have hoy7:=hoy6.grown hg7 hnrA;have o7:Only F w w7:=Only.trans o6 (h.zgL hg7) (fun j hj=>.inl hj);refine zn (l:=.slc) 1 y hb7 (by rfl) ?_;have hkl:=(zec (N:=S.N) (bs:=B (S.dev.read a).1));have hkl1:(S.page a).1.2.1.length<=1024:=hkl.1;have hyn:=hok7.len;refine zb (zko hok7 (by omega)) ?_;rintro _ w8 ⟨rfl,hok8,hg8⟩;refine⟨(),rfl,?_⟩;have hyr6:∀ j,orow y.1=some j->j≠r6:=fun j hj e=>by have:=hok.yc j hj;omega
  have hb8:=hb7.grown hg8 (fun e=>hyr6 r6 e.symm rfl);have hAlt:∀ j,orow A=some j->j<w3.heap.size:=fun j hj=>hoy.yc j hj;have hoy8:=hoy7.grown hg8 (fun j hj e=>by have:=hkrow j hj;have:=hAlt j e;omega);have o8':Only (fun j=>orow y.1=some j) w7 w8:=Only.z8 hg8 (fun j hj=>.inl hj);have h37:w.heap.size<=w3.heap.size:=hO.2.2.2.1;have hS8:=hS7.only o8' (fun j hj e=>by have:=hkrow j e;have:=hFlt j hj;omega);have o8:Only F w w8:=Only.trans o7 o8' (fun j hj=>.inr (by have:=hkrow j hj;omega));refine zn (l:=.slc) 1 y hb8 (by rfl) ?_;have hrl:(S.page a).1.2.1.reverse.length=y.2.1:=by rw[List.length_reverse];exact hyn
  refine xc (E:=zu .u32) jF hoy8 (by have:=hb8.lt;have:=he5.size;omega) hok8.sl (by omega) (by omega) ?_;intro A' c'' w9 ho9 hg9 _;have hx9:∀ j,orow A=some j->¬F j:=fun j hj hf=>by have:=hr2F j hj;have:=hFlt j hf;omega
  have o9':Only (fun j=>orow A=some j) w8 w9:=Only.z8 hg9.grown (fun j hj=>.inl hj);have hS9:=hS8.only o9' (fun j hj e=>hx9 j e hj);have o9:Only F w w9:=Only.trans o8 o9' (fun j hj=>.inr (hr2F j hj));have hsum:=zgN datE;rw[show ys.length+y.2.1=(ys++(S.page a).1.2.1.reverse).length by rw[length_append,hrl]]at ho9 ⊢;refine hJ _ _ _ (by omega:(xk cc a).sum<cc.sum) ⟨xk cc a,ys++(S.page a).1.2.1.reverse,A',c'',rfl,rfl,?_,hS9,ho9,fun k hk=>?_,o9,?_⟩
  ·rw[List.reverse_append,List.reverse_reverse];exact d4
  ·rcases mem_append.1 hk with hk|hk
   ·exact h32 k (mem_append_left _ hk)
   ·have:=hkl.2 k (List.mem_reverse.1 hk);omega
  ·rw[length_append,hrl];omega
end V
/- Contracts of counts.Load,and of the reference's New,Pages,Load. -/
namespace V
open Go Go.Proofs Go.RowKit
theorem zjn {size:Int} {n:Nat} (h:zW size n=true):spages size n=((yt n (zJ size):Nat):Int):=by
 unfold spages;rw[if_pos h,Int.toNat_natCast]
end V
/- Contracts of the package space:commit,Format. -/
namespace V
open Go Go.Proofs Go.RowKit Crc
def wrL (d:Dev):List (Nat×Fra)->Dev×Int
 |[]=>(d,0)
 |kf::r=>if (yp d kf.1 kf.2).2≠0 then yp d kf.1 kf.2 else wrL (yp d kf.1 kf.2).1 r
def xr (gen:Nat) (ps:List Nat) (l:List ByteArray):List (Nat×Fra):=(ps.zip l).map fun p=>(p.1,((2:UInt8),gen,p.2))
def yK (d:Dev) (c:List Nat) (s:Sup) (slot:Int):Dev×Int:=
 if (wrL d (xr s.gen s.pages (zT c (zJ d.size)))).2≠0 then wrL d (xr s.gen s.pages (zT c (zJ d.size)))
 else if (wrL d (xr s.gen s.pages (zT c (zJ d.size)))).1.flush.2≠0 then (wrL d (xr s.gen s.pages (zT c (zJ d.size)))).1.flush
 else if (xz s).2≠0 then ((wrL d (xr s.gen s.pages (zT c (zJ d.size)))).1.flush.1,(xz s).2)
 else if ((wrL d (xr s.gen s.pages (zT c (zJ d.size)))).1.flush.1.write slot (mkB (xz s).1)).2≠0 then (wrL d (xr s.gen s.pages (zT c (zJ d.size)))).1.flush.1.write slot (mkB (xz s).1)
 else ((wrL d (xr s.gen s.pages (zT c (zJ d.size)))).1.flush.1.write slot (mkB (xz s).1)).1.flush
theorem Step.pre {w w1 w2:World} {db:Nat} {Fd F1:Nat->Prop} {d:Dev} (hO:Only Fd w w1) (hF:∀ k,F1 k->Fd k\/w.heap.size<=k) (h:Step w1 db F1 d w2):Step w db Fd d w2:=by
 obtain⟨F2,g1,g2,g3⟩:=h;refine⟨F2,g1,fun k hk=>?_,Only.trans hO g3 hF⟩;rcases g2 k hk with e|e
 ·exact hF k e
 ·exact .inr (Nat.le_trans hO.2.2.2.1 e)
theorem jH (d:Dev) (k:Int) (s:ByteArray):(d.write k s).1.size=d.size/\(d.write k s).1.blocks=d.blocks/\(d.write k s).1.pen.length<=d.pen.length+1:=by
 unfold Dev.write;split
 ·exact⟨rfl,rfl,by simp⟩
 ·split
  ·exact⟨rfl,rfl,by simp⟩
  ·exact⟨rfl,rfl,by simp⟩
theorem uc (d:Dev) (k:Int) (f:Fra):(yp d k f).1.size=d.size/\(yp d k f).1.blocks=d.blocks/\(yp d k f).1.pen.length<=d.pen.length+1:=by
 unfold yp;split
 ·exact⟨rfl,rfl,by simp⟩
 ·exact jH _ _ _
theorem vP (d:Dev):d.flush.1.size=d.size/\d.flush.1.blocks=d.blocks/\d.flush.1.pen.length<=d.pen.length:=by
 unfold Dev.flush;split
 ·exact⟨rfl,rfl,Nat.le_refl _⟩
 ·exact⟨rfl,rfl,by simp⟩
theorem zcH:∀ (l:List (Nat×Fra)) (d:Dev),(wrL d l).1.size=d.size/\(wrL d l).1.blocks=d.blocks/\(wrL d l).1.pen.length<=d.pen.length+l.length
 |[],d=>⟨rfl,rfl,by simp[wrL]⟩
 |kf::r,d=>by
  obtain⟨h1,h2,h3⟩:=uc d kf.1 kf.2;unfold wrL;split
  ·exact⟨h1,h2,by simp only [length_cons];omega⟩
  ·obtain⟨g1,g2,g3⟩:=zcH r (yp d kf.1 kf.2).1;exact⟨g1.trans h1,g2.trans h2,by simp only [length_cons];omega⟩
theorem zbG (l:List Nat) (per:Nat):(zT l per).length=yt l.length per:=by simp[zT]
theorem zgO {gen:Nat} {ps:List Nat} {l:List ByteArray} (h:ps.length=l.length) {i:Nat} (hi:i<l.length):(xr gen ps l)[i]?=some (ps.getD i 0,((2:UInt8),gen,l.getD i ByteArray.empty)):=by
 unfold xr;rw[List.getElem?_map,List.getElem?_zip_eq_some.2 (show ps[i]?=some (ps.getD i 0,l.getD i ByteArray.empty).1/\l[i]?=some (ps.getD i 0,l.getD i ByteArray.empty).2 from⟨?_,?_⟩)]
 ·rfl
 ·show ps[i]?=some (ps.getD i 0);rw[getD_eq_getElem?_getD,List.getElem?_eq_getElem (by omega)];rfl
 ·show l[i]?=some (l.getD i ByteArray.empty);rw[getD_eq_getElem?_getD,List.getElem?_eq_getElem (by omega)];rfl
theorem zhP {gen:Nat} {ps:List Nat} {l:List ByteArray} (h:ps.length=l.length):(xr gen ps l).length=l.length:=by
 unfold xr;rw[length_map,List.length_zip,h,Nat.min_self]
theorem zgP {w:World} {db:Nat} {d:Dev} {Fd:Nat->Prop} (h:xd w db d Fd) {cb cr:Nat} {q:List Value} {c:List Nat} (hc:Cnt w cb cr d.size q c) {s:Sup} {x:SLC} (hf:s.Fits) (hp:Pg w x s.pages)
  (hx:∀ a,x.1=some a->¬Fd a.block) (hlen:s.pages.length=yt c.length (zJ d.size)) (hpen:d.pen.length<=900000) (slot:Int):
  Calls prog 95 #[.pointer (some ⟨db,0,none⟩),.pointer (some ⟨cb,0,none⟩),.agg (sV s x).toArray,.int .i64 slot] w (Ret fun v w'=>v=.int .i64 (yK d c s slot).2/\Step w db Fd (yK d c s slot).1 w'):=by
 have hgeo:=h.ok.geo;obtain⟨h8,_⟩:=zdx hgeo;obtain⟨hper1,hper2,_⟩:=jS h8;have hcl:=hc.len;have hFlt:=h.lt;have hPl:=zbG c (zJ d.size);have hnp:yt c.length (zJ d.size)<=4096:=by
  unfold yt;rw[Nat.div_le_iff_le_mul_add_pred (by omega)];have:4096*56<=4096*zJ d.size:=Nat.mul_le_mul_left _ hper1;have:zJ d.size*4096=4096*zJ d.size:=Nat.mul_comm _ _;omega
 apply zoh;unfold S95 yK;refine zr fun r1 w1 hb1 he1 hr1 hz1=>?_;have hb1:Blk w1 r1 (sV s x) 79:=hb1;refine zb (zhH (hc.ext he1) h8) ?_;rintro _ w2 ⟨y,rfl,ho2,he2⟩;refine⟨y,rfl,?_⟩;have hb1:=hb1.ext he2;have he:=he1.trans he2;have hr1lt:=hb1.lt;have hyl:=ho2.len;have hpl:=hp.len;have hp2:=hp.ext he;generalize hL:xr s.gen s.pages (zT c (zJ d.size))=L at *;have hLl:L.length=y.2.1:=by rw[<- hL,zhP (by omega)];exact hyl
 have hy1:∀ j,orow y.1=some j->w1.heap.size<=j/\j<w2.heap.size:=fun j hj=>⟨ho2.row j hj,ho2.yc j hj⟩;refine zz (fun y' w'=>∃ (i:Nat) (di:Dev) (Fi:Nat->Prop),i<=y.2.1/\y'=((i:Int),())/\xd w' db di Fi/\(∀ k,Fi k->Fd k\/w2.heap.size<=k)/\Only Fd w2 w'/\wrL d L=wrL di (L.drop i)/\di.size=d.size/\di.pen.length<=d.pen.length+i) (fun y'=>(y.2.1-y'.1).toNat)
  ⟨0,d,Fd,by omega,rfl,h.ext he,fun k hk=>.inl hk,Only.refl _ _,rfl,rfl,by omega⟩ ?_
 rintro _ w3 ⟨i,di,Fi,hi,rfl,hDi,hFi,hOi,hwr,hdz,hdp⟩;dsimp only;have hnFi:∀ j,w.heap.size<=j->j<w2.heap.size->¬Fi j:=fun j h1 h2 hf'=>by
  rcases hFi j hf' with e|e
  ·have:=hFlt j e;omega
  ·omega
 have hnFd:∀ j,w.heap.size<=j->¬Fd j:=fun j h1 hf'=>by have:=hFlt j hf';omega
 have hb3:=hb1.only hOi (hnFd r1 (by omega));have hz:=he1.size;have ho3:=ho2.only hOi (fun j hj=>hnFd j (by have:=hy1 j hj;omega));have hp3:Pg w3 x s.pages:=⟨hp2.sl.only hOi hx,hp2.nc⟩;have oi:Only Fd w w3:=Only.trans (Only.zB he) hOi (fun j hj=>.inl hj);have hFi':∀ k,Fi k->Fd k\/w.heap.size<=k:=fun k hk=>by
  rcases hFi k hk with e|e
  ·exact .inl e
  ·exact .inr (Nat.le_trans he.size e)
 by_cases hlt:i<y.2.1
 ·refine zf (decide_eq_true (by omega)) ?_;refine zij ho3.sl (by omega) (by omega) ?_;rw[Int.toNat_natCast];refine zM fun w4 he4 _ _=>?_;refine zn (l:=.slc) 4 x (hb3.ext he4) (by rfl) ?_;refine zU (hp3.sl.ext he4) (by omega) (by omega) ?_;rw[Int.toNat_natCast];refine zF (s.gen:Int) (hb3.ext he4) (by rfl) ?_;have hpi:=hf.at_ i;refine zb (zcd (hDi.ext he4) (s.pages.getD i 0) hpi ((2:UInt8),s.gen,(zT c (zJ d.size)).getD i ByteArray.empty) hf.gen (by omega)) ?_;rintro _ w5 ⟨rfl,hst⟩;refine⟨_,rfl,?_⟩;have eL:L.drop i=(s.pages.getD i 0,((2:UInt8),s.gen,(zT c (zJ d.size)).getD i ByteArray.empty))::L.drop (i+1):=by
   have:=zgO (gen:=s.gen) (ps:=s.pages) (l:=zT c (zJ d.size)) (by omega) (i:=i) (by omega);rw[hL]at this;obtain⟨h1,h2⟩:=List.getElem?_eq_some_iff.1 this;rw[List.drop_eq_getElem_cons h1,h2]
  rw[eL]at hwr;have hst':Step w3 db Fi _ w5:=Step.pre (Only.zB he4) (fun k hk=>.inl hk) hst;have hdim:=uc di (s.pages.getD i 0) ((2:UInt8),s.gen,(zT c (zJ d.size)).getD i ByteArray.empty);refine zg (fun hq=>?_) (fun hq=>?_)
  ·have hq:=bne_iff_ne.1 hq;have e1:wrL d L=yp di (s.pages.getD i 0) ((2:UInt8),s.gen,(zT c (zJ d.size)).getD i ByteArray.empty):=by
    rw[hwr,wrL,if_pos hq]
   rw[e1,if_pos hq];exact⟨rfl,Step.pre oi hFi' hst'⟩
  ·have hq:=bne_eq_false_iff_eq.1 hq;obtain⟨F5,g1,g2,g3⟩:=hst';refine⟨⟨i+1,_,F5,by omega,by rw[wrap_i64 (by omega) (by omega)];rfl,g1,fun k hk=>?_,Only.trans hOi g3 hFi,by rw[hwr,wrL,if_neg (fun hh=>hh hq)],hdim.1.trans hdz,by omega⟩,by rw[wrap_i64 (by omega) (by omega)];omega⟩;rcases g2 k hk with e|e
   ·exact hFi k e
   ·exact .inr (Nat.le_trans hOi.2.2.2.1 e)
 obtain rfl:i=y.2.1:=by omega
 refine zd (decide_eq_false (by omega)) ?_;rw[drop_of_length_le (by omega),wrL]at hwr;rw[hwr,if_neg (fun hh=>hh rfl)];dsimp only;refine zb (zcY hDi) ?_;rintro _ w4 ⟨rfl,hst⟩;refine⟨_,rfl,?_⟩;refine zg (fun hq=>?_) (fun hq=>?_)
 ·have hq:=bne_iff_ne.1 hq;rw[if_pos hq];exact⟨rfl,Step.pre oi hFi' hst⟩
 have hq:=bne_eq_false_iff_eq.1 hq;rw[if_neg (fun hh=>hh hq)];obtain⟨F4,g1,g2,g3⟩:=hst;have hF4:∀ k,F4 k->Fd k\/w2.heap.size<=k:=fun k hk=>by
  rcases g2 k hk with e|e
  ·exact hFi k e
  ·exact .inr (Nat.le_trans hOi.2.2.2.1 e)
 have hF4':∀ k,F4 k->Fd k\/w.heap.size<=k:=fun k hk=>by
  rcases hF4 k hk with e|e
  ·exact .inl e
  ·exact .inr (Nat.le_trans he.size e)
 have o4:Only Fd w w4:=Only.trans oi g3 hFi';have o24:Only Fd w2 w4:=Only.trans hOi g3 hFi;have hb4:=hb1.only o24 (hnFd r1 (by omega));have hp4:Pg w4 x s.pages:=⟨hp2.sl.only o24 hx,hp2.nc⟩;have hfd:=vP di;refine zZ (ls:=sLs) (sT s x) hb4 rfl ?_;refine zb (zjc hf hp4) ?_;rintro _ w5 ⟨rfl,he5⟩;refine⟨(⟨(xz s).1.toArray⟩,(xz s).2,()),rfl,?_⟩;have o5:Only Fd w w5:=Only.trans o4 (Only.zB (F:=Fd) he5) (fun j hj=>.inl hj);refine zg (fun hq=>?_) (fun hq=>?_)
 ·have hq:=bne_iff_ne.1 hq;rw[if_pos hq];exact⟨rfl,Step.pre o5 hF4' ⟨F4,g1.ext he5,fun k hk=>.inl hk,Only.refl _ _⟩⟩
 have hq:=bne_eq_false_iff_eq.1 hq;rw[if_neg (fun hh=>hh hq)];refine zb (zap (g1.ext he5) slot (mkB (xz s).1) (by omega)) ?_;rintro _ w6 ⟨rfl,hst⟩;refine⟨_,rfl,?_⟩;refine zg (fun hq=>?_) (fun hq=>?_)
 ·have hq:=bne_iff_ne.1 hq;rw[if_pos hq];exact⟨rfl,Step.pre o5 hF4' hst⟩
 have hq:=bne_eq_false_iff_eq.1 hq;rw[if_neg (fun hh=>hh hq)];obtain⟨F6,k1,k2,k3⟩:=hst;have hF6':∀ k,F6 k->Fd k\/w.heap.size<=k:=fun k hk=>by
  rcases k2 k hk with e|e
  ·exact hF4' k e
  ·exact .inr (Nat.le_trans o5.2.2.2.1 e)
 refine zb (zcY k1) ?_;rintro _ w7 ⟨rfl,hst⟩;exact⟨_,rfl,rfl,Step.pre (Only.trans o5 k3 hF4') hF6' hst⟩
end V
/- Contracts of the package space:Format. -/
namespace V
open Go Go.Proofs Go.RowKit Crc
def zG (size:Int) (N:Nat):Nat:=yt N (zJ size)
def xA (np:Nat):List Nat:=(List.range np).map (·+2)
def yi (N np:Nat):List Nat:=List.replicate (2+np) 1++List.replicate (N-2-np) 0
def y0 (size:Int) (N:Nat):Sup:=⟨1,size,(N:Int),0,xA (zG size N)⟩
def yA (d:Dev):Dev×Int:=
 if chk (y0 d.size d.blocks.toNat)≠0 then (d,chk (y0 d.size d.blocks.toNat))
 else if (d.write 1 (yE d.size.toNat)).2≠0 then d.write 1 (yE d.size.toNat)
 else yK (d.write 1 (yE d.size.toNat)).1 (yi d.blocks.toNat (zG d.size d.blocks.toNat)) (y0 d.size d.blocks.toNat) 0
def ql (d:Dev):Spa:=⟨(yA d).1,y0 d.size d.blocks.toNat,0,yi d.blocks.toNat (zG d.size d.blocks.toNat),yi d.blocks.toNat (zG d.size d.blocks.toNat),none⟩
theorem zaR {size:Int} {N:Nat} (h:zW size N=true):zG size N+2<=N/\N<=4096/\1<=zG size N:=by
 obtain⟨h8,n,hn,h1,h2⟩:=zdx h;obtain rfl:N=n:=by omega
 obtain⟨hp1,hp2,_⟩:=jS h8;have hx:yt N (zJ size)<=(N+55) / 56:=by
  unfold yt;rw[Nat.div_le_iff_le_mul_add_pred (by omega)];have h3:N+55<56*((N+55) / 56+1):=Nat.lt_mul_div_succ _ (by omega);have h4:56*((N+55) / 56)<=zJ size*((N+55) / 56):=Nat.mul_le_mul_right _ hp1;omega
 have h0:0<yt N (zJ size):=by
  have:=(uE (n:=N) (k:=zJ size) (i:=0) (by omega)).2 (by omega);exact this
 unfold zG;omega
theorem qR {N np:Nat} (h:np+2<=N):(yi N np).length=N:=by simp[yi];omega
theorem kD {N np k:Nat} (h:np+2<=N):(yi N np).getD k 0=if k<np+2 then 1 else 0:=by
 unfold yi;rw[getD_eq_getElem?_getD]
 by_cases hk:k<np+2
 ·rw[if_pos hk,List.getElem?_append_left (by simp;omega),List.getElem?_replicate,if_pos (by omega)];rfl
 ·rw[if_neg hk,List.getElem?_append_right (by simp;omega),List.getElem?_replicate];split<;>rfl
theorem zkp {N:Nat} (h:2<=N):yi N 0=zca N:=by
 unfold yi zca;rfl
theorem zkq {N i:Nat} (h:i+3<=N):takeN (yi N i) []=i+2/\yP (yi N i) []=0/\yQ (yi N i) []=yi N (i+1):=by
 have hl:=qR (N:=N) (np:=i) (by omega);have ht:zC (yi N i) []=i+2:=by
  unfold zC;rw[hl];refine zeb (by omega) (jT.2 ⟨?_,by simp⟩) (fun j hj=>?_)
  ·rw[kD (by omega),if_neg (by omega)]
  ·cases hq:qD (yi N i) [] j with
   |false=>rfl
   |true=>
    have:=(jT.1 hq).1;rw[kD (by omega),if_pos (by omega)]at this;cases this
 refine⟨?_,?_,?_⟩
 ·unfold takeN;rw[ht,if_pos (by omega)]
 ·unfold yP;rw[ht,if_pos (by omega)]
 ·unfold yQ;rw[ht,if_pos (by omega)];refine qA (by rw[length_set,hl,qR (by omega)]) (fun k=>?_);rw[yr,kD (by omega),kD (by omega),hl]
  by_cases hk:i+2=k
  ·subst hk;rw[if_pos ⟨rfl,by omega⟩,if_pos (by omega)]
  ·rw[if_neg (fun e=>hk e.1)]
   by_cases hk2:k<i+2
   ·rw[if_pos hk2,if_pos (by omega)]
   ·rw[if_neg hk2,if_neg (by omega)]
theorem zkr (i:Nat):xA (i+1)=xA i++[i+2]:=by simp[xA,range_succ]
theorem kg (i:Nat):(xA i).length=i:=by simp[xA]
theorem zcf {size:Int} {N:Nat} (h:zW size N=true):(y0 size N).Fits:=by
 have hd:=zbd h;have:=zaR h;refine⟨by show 1<_;omega,by show _<=size/\size<_;omega,by show _<=(N:Int)/\(N:Int)<_;omega,by show 0<_;omega,fun p hp=>?_⟩;have hp:p∈xA (zG size N):=hp;unfold xA at hp;obtain⟨i,hi,rfl⟩:=mem_map.1 hp;have:=mem_range.1 hi;omega
theorem zas (d:Dev) (c:List Nat) (s:Sup) (slot:Int):(yK d c s slot).1.size=d.size/\(yK d c s slot).1.blocks=d.blocks:=by
 have h1:=zcH (xr s.gen s.pages (zT c (zJ d.size))) d;have h2:=vP (wrL d (xr s.gen s.pages (zT c (zJ d.size)))).1;have h3:=jH (wrL d (xr s.gen s.pages (zT c (zJ d.size)))).1.flush.1 slot (mkB (xz s).1);have h4:=vP ((wrL d (xr s.gen s.pages (zT c (zJ d.size)))).1.flush.1.write slot (mkB (xz s).1)).1;unfold yK;split
 ·exact⟨h1.1,h1.2.1⟩
 split
 ·exact⟨h2.1.trans h1.1,h2.2.1.trans h1.2.1⟩
 split
 ·exact⟨h2.1.trans h1.1,h2.2.1.trans h1.2.1⟩
 split
 ·exact⟨h3.1.trans (h2.1.trans h1.1),h3.2.1.trans (h2.2.1.trans h1.2.1)⟩
 ·exact⟨h4.1.trans (h3.1.trans (h2.1.trans h1.1)),h4.2.1.trans (h3.2.1.trans (h2.2.1.trans h1.2.1))⟩
theorem zgQ {w:World} {db:Nat} {d:Dev} {Fd:Nat->Prop} (h:xd w db d Fd) (hpen:d.pen.length<=800000):
  Calls prog 69 #[.pointer (some ⟨db,0,none⟩)] w (Ret fun v w'=>((yA d).2≠0/\v=.tuple #[.pointer none,.int .i64 (yA d).2]/\Step w db Fd (yA d).1 w')\/
   ((yA d).2=0/\∃ b F,v=.tuple #[.pointer (some ⟨b,0,none⟩),.int .i64 0]/\zV w' b db (ql d) F/\w.heap.size<=b/\(∀ k,F k->Fd k\/w.heap.size<=k)/\Only Fd w w')):=by
 have hgeo:=h.ok.geo;obtain⟨h8,N,hN,hN8,hNm⟩:=zdx hgeo;have hNt:d.blocks.toNat=N:=by omega
 have hg':zW d.size (N:Int)=true:=by rw[<- hN];exact hgeo
 obtain⟨hnp1,hnp2,hnp3⟩:=zaR hg';have hdim:=zbd hgeo;have hFlt:=h.lt;have hff:=zcf hg';apply znX;unfold S69 yA;rw[hNt];refine zd (by rfl) ?_;refine zb (vN h) ?_;rintro _ w1 ⟨rfl,he1⟩;refine⟨(d.size,d.blocks,()),rfl,?_⟩;refine zb (zkj w1 d.size d.blocks) ?_;rintro _ w2 ⟨y,rfl,hc2,he2⟩;rw[if_pos hgeo]at hc2;obtain⟨cb,cr,rfl,hc2,hcb,hcr⟩:=hc2;refine⟨(some ⟨cb,0,none⟩,(if zW d.size d.blocks then 0 else 2),()),rfl,?_⟩;rw[if_pos hgeo];dsimp only;refine zd (by rfl) ?_;rw[hNt,<- zkp (by omega)]at hc2;have he:=he1.trans he2;refine zb (vN (h.ext he)) ?_;rintro _ w3 ⟨rfl,he3⟩;refine⟨(d.size,d.blocks,()),rfl,?_⟩;have he3':=he.trans he3;refine zo5 (s:=⟨1,d.size,d.blocks,0,[]⟩) (x:=(none,0,0)) (by rfl) (fun r4 w4 hb4 he4 hr4=>?_);have he4':=he3'.trans he4;refine zb (vN (h.ext he4')) ?_;rintro _ w5 ⟨rfl,he5⟩;refine⟨(d.size,d.blocks,()),rfl,?_⟩;refine zb (zgJ w5 d.size d.blocks) ?_;rintro _ w6 ⟨rfl,he6⟩;rw[hN,zjn hg'];refine⟨_,rfl,?_⟩;have he46:=he5.trans he6;have he6':=he4'.trans he46;have hb6:=hb4.ext he46;have hc6:=((hc2.ext he3).ext he4).ext he46;have hr4lt:r4<w6.heap.size:=hb6.lt;have hcblt:cb<w3.heap.size:=(hc2.ext he3).head.lt;have hcrlt:cr<w3.heap.size:=(hc2.ext he3).row.lt;have hs1:=he1.size;have hs3:=he3.size;have hs2:=he2.size;rw[hN]at hb6;show zH _ _ _ w6;have hnpe:zG d.size N=yt N (zJ d.size):=rfl;rw[<- hnpe];refine zz (fun y w'=>∃ (i:Nat) (A:Option Addr) (c:Nat),i<=zG d.size N/\y=((i:Int),())/\Ext w w'/\w6.heap.size<=w'.heap.size/\Cnt w' cb cr d.size [] (yi N i)/\Blk w' r4 (sV ⟨1,d.size,(N:Int),0,[]⟩ (A,i,c)) 79/\Owni (zu .u32) 41 w' w6.heap.size A i c (xA i)) (fun y=>(zG d.size N-y.1).toNat)
  ⟨0,none,0,by omega,rfl,he6',Nat.le_refl _,hc6,hb6,Owni.nil _ _ _⟩ ?_
 rintro _ w7 ⟨i,A,c,hi,rfl,he7,hz7,hc7,hb7,ho7⟩;dsimp only
 by_cases hlt:i<zG d.size N
 ·refine zf (decide_eq_true (by omega)) ?_;obtain⟨t1,t2,t3⟩:=zkq (N:=N) (i:=i) (by omega);refine zb (zd9 hc7 (.inl ⟨rfl,rfl⟩)) ?_;rintro _ w8 ⟨rfl,hc8,hg8⟩;rw[t3]at hc8;refine⟨(((takeN (yi N i) []:Nat):Int),yP (yi N i) [],()),rfl,?_⟩;rw[t1,t2];refine zd (by rfl) ?_;have hb8:=hb7.grown hg8 (by simp;omega);have ho8:=ho7.grown hg8 (fun j hj e=>by injection hj with hj;subst hj;have:=ho7.row _ e;omega);refine zn (l:=.slc) 4 (A,i,c) hb8 (by rfl) ?_;dsimp only;have hle:=ho8.le;refine xa (E:=zu .u32) (ys:=[i+2]) (by rfl) rfl jF ho8 (by have:=hg8.size;omega) (by omega) (by omega) ?_;intro A' c' w9 ho9 hg9;have hx9:∀ j,orow A=some j->w6.heap.size<=j:=fun j hj=>ho8.row j hj;have hb9:=hb8.grown hg9.grown (fun e=>by have:=hx9 r4 e.symm;omega);have hc9:Cnt w9 cb cr d.size [] (yi N (i+1)):=⟨hc8.head.grown hg9.grown (fun e=>by have:=hx9 cb e.symm;have:=he4.size;have:=he46.size;omega),hc8.row.grown hg9.grown (fun e=>by have:=hx9 cr e.symm;have:=he4.size;have:=he46.size;omega),hc8.ne,hc8.len,hc8.fits⟩;have he9:Ext w w9:=(he7.grown hg8 (fun j hj=>by injection hj with hj;omega)).grown hg9.grown (fun j hj=>by have:=hx9 j hj;have:=he6'.size;omega);rw[zy];refine zS hb9 (by show 0+4<5;omega) ?_;have hg10:=yH w9 r4 (0+4) (.slice A' (i+1) c');have hb10:=hb9.set (0+4) (.slice A' (i+1) c');refine⟨⟨i+1,A',c',by omega,by rw[wrap_i64 (by omega) (by omega)];rfl,he9.grown hg10 (fun j hj=>by injection hj with hj;omega),?_,hc9.kept hg10 (by omega) (by omega),hb10,?_⟩,by rw[wrap_i64 (by omega) (by omega)];omega⟩
  ·exact Nat.le_trans (Nat.le_trans (Nat.le_trans hz7 hg8.size) hg9.grown.size) hg10.size
  ·rw[zkr];exact ho9.grown hg10 (fun j hj e=>by injection hj with hj;have:=ho9.row _ e;omega)
 obtain rfl:i=zG d.size N:=by omega
 refine zd (decide_eq_false (by omega)) ?_;have hb7:Blk w7 r4 (sV (y0 d.size N) (A,zG d.size N,c)) 79:=hb7;have hpg7:Pg w7 (A,zG d.size N,c) (y0 d.size N).pages:=⟨ho7.sl,ho7.le.1⟩;have stay:∀ {w':World},Ext w w'->Step w db Fd d w':=fun e=>⟨Fd,h.ext e,fun k hk=>.inl hk,Only.zB e⟩;refine zZ (ls:=sLs) (sT (y0 d.size N) (A,zG d.size N,c)) hb7 rfl ?_;refine zb (zc0 hff hpg7) ?_;rintro _ w8 ⟨rfl,he8⟩;refine⟨_,rfl,?_⟩;have he8':=he7.trans he8;refine zg (fun hq=>?_) (fun hq=>?_)
 ·have hq:=bne_iff_ne.1 hq;rw[if_pos hq];exact .inl ⟨hq,rfl,stay he8'⟩
 have hq0:=bne_eq_false_iff_eq.1 hq;rw[if_neg (fun hh=>hh hq0)];refine zb (vN (h.ext he8')) ?_;rintro _ w9 ⟨rfl,he9⟩;refine⟨(d.size,d.blocks,()),rfl,?_⟩;dsimp only;obtain⟨z,hz⟩:∃ z:Nat,d.size=(z:Int):=⟨d.size.toNat,by omega⟩;rw[hz];refine za6 (kl:=.i64) (kc:=.i64) (B:=w9.heap.size) (z:=.int .u8 0) (bytes:=1) qy (by rfl) (Nat.le_refl _) (by omega) (by omega) ?_;intro w10 ho10 hg10;have he10:Ext w9 w10:=(Ext.refl w9).grown hg10 (fun j hj=>by cases hj);have hrep:(List.replicate z (Value.int .u8 0))=bV (List.replicate z 0):=by simp[bV]
 rw[hrep]at ho10;refine qO (e:=5) (by kernel_rfl) (by kernel_rfl) (by kernel_rfl) ho10.sl ?_;have hzb:(⟨(List.replicate z (0:UInt8)).toArray⟩:ByteArray)=yE d.size.toNat:=by rw[hz];rfl
 rw[hzb];have he810:=he9.trans he10;have he10':=he8'.trans he810;refine zb (zap (h.ext he10') 1 (yE d.size.toNat) (by omega)) ?_;rintro _ w11 ⟨rfl,hst⟩;refine⟨_,rfl,?_⟩;rw[<- hz];refine zg (fun hq=>?_) (fun hq=>?_)
 ·have hq:=bne_iff_ne.1 hq;rw[if_pos hq];exact .inl ⟨hq,rfl,Step.pre (Only.zB he10') (fun k hk=>.inl hk) hst⟩
 have hq1:=bne_eq_false_iff_eq.1 hq;rw[if_neg (fun hh=>hh hq1)];obtain⟨F11,k1,k2,k3⟩:=hst;have hwd:=jH d 1 (yE d.size.toNat);have hFd:∀ j,w.heap.size<=j->¬Fd j:=fun j hj hf=>by have:=hFlt j hf;omega
 have he78:Ext w7 w10:=he8.trans he810;have he4s:=he4.size;have he46s:=he46.size;have hw6:=he6'.size;have hb11:=(hb7.ext he78).only k3 (hFd r4 (by omega));have hc11:=(hc7.ext he78).only k3 (hFd cb (by omega)) (hFd cr (by omega));have hArow:∀ a,A=some a->w6.heap.size<=a.block:=fun a ha=>ho7.row _ (by rw[ha];rfl);have hArow2:∀ a,A=some a->a.block<w7.heap.size:=fun a ha=>ho7.yc _ (by rw[ha];rfl);have hp11:Pg w11 (A,zG d.size N,c) (y0 d.size N).pages:=⟨(hpg7.sl.ext he78).only k3 (fun a ha=>hFd _ (by have:=hArow a ha;omega)),hpg7.nc⟩;have h710:w7.heap.size<=w10.heap.size:=he78.size;have o11:Only Fd w w11:=Only.trans (Only.zB he10') k3 (fun j hj=>.inl hj);have hF11w:∀ k,F11 k->Fd k\/w.heap.size<=k:=fun k hk=>by
  rcases k2 k hk with e|e
  ·exact .inl e
  ·exact .inr (Nat.le_trans he10'.size e)
 have hF11:∀ j,w.heap.size<=j->j<w10.heap.size->¬F11 j:=fun j h1 h2 hf=>by
  rcases k2 j hf with e|e
  ·exact hFd j h1 e
  ·omega
 refine zZ (ls:=sLs) (sT (y0 d.size N) (A,zG d.size N,c)) hb11 rfl ?_;have hfl:=qR (N:=N) (np:=zG d.size N) hnp1;refine zb (zgP k1 (c:=yi N (zG d.size N)) (by rw[hwd.1];exact hc11) hff hp11 (fun a ha=>hF11 _ (by have:=hArow a ha;omega) (by have:=hArow2 a ha;omega)) (by rw[hwd.1,hfl];exact kg _) (by omega) 0) ?_;rintro _ w12 ⟨rfl,hst⟩;refine⟨_,rfl,?_⟩;refine zg (fun hq=>?_) (fun hq=>?_)
 ·have hq:=bne_iff_ne.1 hq;exact .inl ⟨hq,rfl,Step.pre o11 hF11w hst⟩
 have hq2:=bne_eq_false_iff_eq.1 hq;obtain⟨F12,m1,m2,m3⟩:=hst;have hF12:∀ j,w.heap.size<=j->j<w10.heap.size->¬F12 j:=fun j h1 h2 hf=>by
  rcases m2 j hf with e|e
  ·exact hF11 j h1 h2 e
  ·have:=k3.2.2.2.1;omega
 have hF12w:∀ k,F12 k->Fd k\/w.heap.size<=k:=fun k hk=>by
  rcases m2 k hk with e|e
  ·exact hF11w k e
  ·exact .inr (Nat.le_trans o11.2.2.2.1 e)
 have h4r:r4<w10.heap.size:=by omega
 have hb12:=hb11.only m3 (hF11 r4 (by omega) (by omega));have hc12:=hc11.only m3 (hF11 cb (by omega) (by omega)) (hF11 cr (by omega) (by omega));have hp12:Pg w12 (A,zG d.size N,c) (y0 d.size N).pages:=⟨hp11.sl.only m3 (fun a ha=>hF11 _ (by have:=hArow a ha;omega) (by have:=hArow2 a ha;omega)),hp11.nc⟩;have o12:Only Fd w w12:=Only.trans o11 m3 hF11w;refine zM fun w13 he13 hs13 _=>?_;refine zZ (ls:=sLs) (sT (y0 d.size N) (A,zG d.size N,c)) (hb12.ext he13) rfl ?_;refine zb (zeT (hc12.ext he13)) ?_;rintro _ w14 ⟨⟨b2,r2,q2,rfl,hc14,hb2,hr2⟩,he14⟩;refine⟨some ⟨b2,0,none⟩,rfl,?_⟩;have he1314:=he13.trans he14;have hb14:=hb12.ext he1314;refine⟨fun l hl p hp=>?_,?_⟩
 ·simp only [mem_singleton]at hl;subst hl;simp only [mem_cons,not_mem_nil,or_false]at hp;rcases hp with rfl|rfl|rfl|rfl|rfl
  ·exact(hb14.cell 0).trans rfl
  ·exact(hb14.cell 1).trans rfl
  ·exact(hb14.cell 2).trans rfl
  ·exact(hb14.cell 3).trans rfl
  ·exact(hb14.cell 4).trans rfl
 refine zr fun r23 w15 hb15 he15 hr15 hz15=>?_;have hx15:=he1314.trans he15;have o15:Only Fd w w15:=Only.trans o12 (Only.zB (F:=Fd) hx15) (fun j hj=>.inl hj);have hcD:=hc14.head.lt;have hcD2:=hc14.row.lt;have hm1lt:=m1.lt;have h1012:w10.heap.size<=w12.heap.size:=Nat.le_trans k3.2.2.2.1 m3.2.2.2.1;have hs14:=he14.size;have hne:=hc2.ne;have hne2:=hc14.ne;have es:(yK (d.write 1 (yE d.size.toNat)).1 (yi N (zG d.size N)) (y0 d.size N) 0).1.size=d.size/\(yK (d.write 1 (yE d.size.toNat)).1 (yi N (zG d.size N)) (y0 d.size N) 0).1.blocks=d.blocks:=by
  have:=zas (d.write 1 (yE d.size.toNat)).1 (yi N (zG d.size N)) (y0 d.size N) 0;exact⟨this.1.trans hwd.1,this.2.trans hwd.2.1⟩
 have eF:ql d=⟨(yK (d.write 1 (yE d.size.toNat)).1 (yi N (zG d.size N)) (y0 d.size N) 0).1,y0 d.size N,0,yi N (zG d.size N),yi N (zG d.size N),none⟩:=by
  unfold ql yA;rw[hNt,if_neg (fun hh=>hh hq0),if_neg (fun hh=>hh hq1)]
 refine .inr ⟨hq2,r23,fun k=>F12 k\/k∈yL r23 cb cr b2 r2 (A,zG d.size N,c) none,rfl,?_,by omega,?_,o15⟩
 ·rw[eF];have hA2:∀ k,k∈zaq (A,zG d.size N,c)->w6.heap.size<=k/\k<w7.heap.size:=by
   intro k hk;unfold zaq at hk;cases A with
   |none=>simp at hk
   |some a=>
    simp only [Option.map_some,Option.toList_some,mem_singleton]at hk;subst hk;exact⟨hArow a rfl,hArow2 a rfl⟩
  have hrn:(zaq (A,zG d.size N,c)).Nodup:=by
   unfold zaq;cases A<;>simp
  refine⟨F12,(A,zG d.size N,c),cb,cr,b2,r2,none,⟨⟨_,by exact hb15⟩,m1.ext hx15,hp12.ext hx15,⟨[],hc12.ext hx15⟩,⟨q2,hc14.ext he15⟩,trivial,fun _=>Iff.rfl,?_,?_,?_,⟨es.1.symm,?_,hff,?_,?_,fun l hl=>by cases hl⟩⟩⟩
  ·simp only [yL,zcb,append_nil,nodup_cons,mem_cons,not_or];refine⟨⟨by omega,by omega,by omega,by omega,fun hk=>by have:=hA2 _ hk;omega⟩,⟨hne,by omega,by omega,fun hk=>by have:=hA2 _ hk;omega⟩,⟨by omega,by omega,fun hk=>by have:=hA2 _ hk;omega⟩,⟨hne2,fun hk=>by have:=hA2 _ hk;omega⟩,fun hk=>by have:=hA2 _ hk;omega,hrn⟩
  ·intro k hk hf;have hkl:=hm1lt k hf;simp only [yL,zcb,append_nil,mem_cons]at hk;rcases hk with rfl|rfl|rfl|rfl|rfl|hk
   ·omega
   ·exact hF12 _ (by omega) (by omega) hf
   ·exact hF12 _ (by omega) (by omega) hf
   ·omega
   ·omega
   ·have:=hA2 k hk;exact hF12 _ (by omega) (by omega) hf
  ·intro k hk;have:=hA2 k hk;have:=hx15.size;omega
  ·show(N:Int)=_;rw[es.2,hN]
  ·show(yi N (zG d.size N)).length=((N:Int)).toNat;rw[hfl];omega
  ·show(yi N (zG d.size N)).length=((N:Int)).toNat;rw[hfl];omega
 ·rintro k (hk|hk)
  ·exact hF12w k hk
  ·right;simp only [yL,zcb,append_nil,mem_cons]at hk;rcases hk with rfl|rfl|rfl|rfl|rfl|hk
   ·omega
   ·omega
   ·omega
   ·omega
   ·omega
   ·unfold zaq at hk;cases A with
    |none=>simp at hk
    |some a=>
     simp only [Option.map_some,Option.toList_some,mem_singleton]at hk;subst hk;have:=hArow a rfl;omega
end V
/- Ranges over functions that make new blocks,and change their own,between what they yield. -/
namespace V
open Go
theorem Only.yy {F:Nat->Prop} {w:World} {a:Nat} {o:Obj} (h:F a):Only F w (yy w a o):=
 ⟨rfl,rfl,rfl,by rw[xv];exact Nat.le_refl _,fun k _ hk=>zO (fun e=>hk (by rw[<- e];exact h))⟩
theorem Only.mono {F G:Nat->Prop} {w w':World} (h:Only F w w') (hF:∀ k,F k->G k):Only G w w':=⟨h.1,h.2.1,h.2.2.1,h.2.2.2.1,fun k hk hg=>h.2.2.2.2 k hk (fun e=>hg (hF k e))⟩
def zjo (P:Program) (v:Value) (L:List (List Value)) (R:WP) (Q:Nat->Prop) (R0 E0:WP) (Bp:World->Nat->Prop):Prop:=
 ∃ f cap,v=.func (.func f) #[] cap/\enterable P f=true/\∀ (l:Nat) (J:(Nat->Prop)->Nat->WP) (E:(Nat->Prop)->WP) (w:World),J Q 0 w->(∀ k,Q k->k<w.heap.size)->R0 w->(∀ V i w',J V i w'->R w')->
  (∀ (V V':Nat->Prop) i w' w'',J V i w'->Only V w' w''->(∀ k,V' k->V k\/w'.heap.size<=k)->R w''->J V' i w'')->(∀ (V V':Nat->Prop) w' w'',E V w'->Only V w' w''->(∀ k,V' k->V k\/w'.heap.size<=k)->E V' w'')->
  (∀ (V:Nat->Prop) i w' (h:i<L.length),J V i w'->(∀ k,V k->k<w'.heap.size)->(∀ k,V k->Bp w' k)->jo P l L[i] w' fun v w''=>w'.heap.size<=w''.heap.size/\(∀ k,V k->w''.heap[k]?=w'.heap[k]?)/\
   ((v=.bool true/\R w''/\J V (i+1) w'')\/(v=.bool false/\E V w'')))->
  Calls P f (.func (.yield l) #[] #[]::cap.toList).toArray w (Ret fun _ w'=>∃ V:Nat->Prop,(J V L.length w'/\(∀ k,V k->Q k\/w.heap.size<=k)/\E0 w')\/E V w')
def zpE (w:World) (k:Nat):Prop:=∀ o,w.heap[k]?=some o->∀ c t fz,o≠.cells c t fz
theorem zdB {P:Program} {v:Value} {T:Type} {vals:T->List Value} {Body:T->(WP->WP)->WP->(Code->WP)->WP} {done:Nat->Option Code->WP} {w:World} {L:List (List Value)} {R:WP} {Q:Nat->Prop} {R0 E0:WP} {Bp:World->Nat->Prop} (tv:Nat->T) (htv:∀ i (hi:i<L.length),vals (tv i)=L[i])
  (I:(Nat->Prop)->Nat->WP) (D:(Nat->Prop)->Code->WP)
  (hit:zjo P v L R Q R0 E0 Bp) (hQ:∀ k,Q k->k<w.heap.size)
  (hRst:∀ w' w'',yR w.heap.size (w.heap.size+1) w' w''->R w'->R w'')
  (hEst:∀ w' w'',yR w.heap.size (w.heap.size+1) w' w''->E0 w'->E0 w'')
  (hR:∀ V i w',I V i w'->R w')
  (hI:∀ (V V':Nat->Prop) i w' w'',I V i w'->Only (fun k=>V k\/k=w.heap.size\/k=w.heap.size+1) w' w''->(∀ k,V' k->V k\/w'.heap.size<=k)->R w''->I V' i w'')
  (hD:∀ (V V':Nat->Prop) c w' w'',D V c w'->Only (fun k=>V k\/k=w.heap.size\/k=w.heap.size+1) w' w''->(∀ k,V' k->V k\/w'.heap.size<=k)->D V' c w'')
  (h0:∀ o,I Q 0 ((w.alloc (.deferred (some []))).alloc o)) (h00:∀ o,R0 ((w.alloc (.deferred (some []))).alloc o))
  (hbody:∀ (V:Nat->Prop) (i:Nat) (hi:i<L.length) (w':World) (G:WP->WP) (N:WP) (jump:Code->WP),I V i w'->w.heap.size+2<=w'.heap.size->(∀ k,V k->k<w'.heap.size/\k≠w.heap.size/\k≠w.heap.size+1)->(∀ k,V k->Bp w' k)->
   (∀ (K:WP) w1,I V i w1->w'.heap.size<=w1.heap.size->(∀ k,k=w.heap.size\/k=w.heap.size+1\/V k->w1.heap[k]?=w'.heap[k]?)->(∀ w2,I V i w2->w1.heap.size=w2.heap.size->(∀ k:Nat,k≠w.heap.size->k≠w.heap.size+1->w2.heap[k]?=w1.heap[k]?)->(∀ k,k=w.heap.size\/k=w.heap.size+1->zpE w2 k)->
    (∀ w'',R w''->I V (i+1) w''->w2.heap.size<=w''.heap.size->(∀ k,k=w.heap.size\/k=w.heap.size+1\/V k->w''.heap[k]?=w2.heap[k]?)->N w'')->
    (∀ c w'',D V c w''->w2.heap.size<=w''.heap.size->(∀ k,k=w.heap.size\/k=w.heap.size+1\/V k->w''.heap[k]?=w2.heap[k]?)->jump c w'')->K w2)->G K w1)->
   Body (tv i) G N jump w')
  (hdone:∀ V w',I V L.length w'->E0 w'->w.heap.size+2<=w'.heap.size->w'.heap[w.heap.size]?=some (.deferred (some []))->done w.heap.size none w')
  (hjump:∀ V c w',D V c w'->w.heap.size+2<=w'.heap.size->w'.heap[w.heap.size]?=some (.deferred (some []))->done w.heap.size (some c) w'):
  jm P v T vals Body done w:=by
 obtain⟨f,cap,rfl,hen,hcalls⟩:=hit;refine⟨f,cap,rfl,hen,fun rec hrec hY=>?_⟩;have hlt:∀ {w':World} {o:Obj},w'.heap[w.heap.size+1]?=some o->w.heap.size+1<w'.heap.size:=fun h=>(Array.getElem?_eq_some_iff.1 h).1;have hs0:((w.alloc (.deferred (some []))).alloc (rec .ready none)).heap.size=w.heap.size+2:=by
  show((w.heap.push _).push _).size=_;simp
 have hIs:∀ {V:Nat->Prop} {i:Nat} {w':World} {o:Obj},I V i w'->I V i (yy w' (w.heap.size+1) o):=fun h=>hI _ _ _ _ _ h (Only.yy (.inr (.inr rfl))) (fun k hk=>.inl hk) (hRst _ _ (zX (.inr rfl)) (hR _ _ _ h));refine Calls.mono (hcalls (w.heap.size+1) (fun V i w'=>I V i w'/\w'.heap[w.heap.size+1]?=some (rec .ready none)/\w'.heap[w.heap.size]?=some (.deferred (some []))/\∀ k,V k->k≠w.heap.size/\k≠w.heap.size+1)
  (fun V w'=>∃ c,D V c w'/\w'.heap[w.heap.size+1]?=some (rec .done (some c))/\w'.heap[w.heap.size]?=some (.deferred (some []))/\∀ k,V k->k≠w.heap.size/\k≠w.heap.size+1) _ ⟨h0 _,?_,?_,fun k hk=>by have:=hQ k hk;omega⟩ (fun k hk=>by have:=hQ k hk;omega) (h00 _) (fun V i w' h=>hR V i w' h.1) ?_ ?_ ?_) ?_
 ·show((w.heap.push _).push _)[w.heap.size+1]?=_;rw[Array.getElem?_push];simp
 ·show((w.heap.push _).push _)[w.heap.size]?=_;rw[Array.getElem?_push,Array.getElem?_push];simp
 ·rintro V V' i w' w'' ⟨h1,h2,h3,h4⟩ hO hV hr;have:=hlt h2;exact⟨hI V V' i w' w'' h1 (hO.mono (fun k hk=>.inl hk)) hV hr,(hO.2.2.2.2 _ (by omega) (fun e=>(h4 _ e).2 rfl)).trans h2,(hO.2.2.2.2 _ (by omega) (fun e=>(h4 _ e).1 rfl)).trans h3,fun k hk=>by rcases hV k hk with e|e;exact h4 k e;omega⟩
 ·rintro V V' w' w'' ⟨c,h1,h2,h3,h4⟩ hO hV;have:=hlt h2;exact⟨c,hD V V' c w' w'' h1 (hO.mono (fun k hk=>.inl hk)) hV,(hO.2.2.2.2 _ (by omega) (fun e=>(h4 _ e).2 rfl)).trans h2,(hO.2.2.2.2 _ (by omega) (fun e=>(h4 _ e).1 rfl)).trans h3,fun k hk=>by rcases hV k hk with e|e;exact h4 k e;omega⟩
 ·rintro V i w' hi ⟨hIi,hl,hd,hVa⟩ hVs hVb
  let Qv:Bool->WP:=fun b w''=>w'.heap.size<=w''.heap.size/\(∀ k,V k->w''.heap[k]?=w'.heap[k]?)/\
   ((b=true/\R w''/\I V (i+1) w''/\w''.heap[w.heap.size+1]?=some (rec .ready none)/\w''.heap[w.heap.size]?=some (.deferred (some [])))
   \/ (b=false/\∃ c,D V c w''/\w''.heap[w.heap.size+1]?=some (rec .done (some c))/\w''.heap[w.heap.size]?=some (.deferred (some []))))
  have hb:=hbody V i hi w' (fun K w1=>w1.heap[w.heap.size+1]?=some (rec .ready none)/\K (yy w1 (w.heap.size+1) (rec .busy none)))
   (fun w2=>w2.heap[w.heap.size+1]?=some (rec .busy none)/\Qv true (yy w2 (w.heap.size+1) (rec .ready none)))
   (fun c w2=>w2.heap[w.heap.size+1]?=some (rec .busy none)/\Qv false (yy w2 (w.heap.size+1) (rec .done (some c)))) hIi (by have:=hlt hl;omega)
   (fun k hk=>⟨hVs k hk,hVa k hk⟩) hVb
   (fun K w1 hI1 hs1 hk1 hG=>by
    have hl1:=hk1 (w.heap.size+1) (.inr (.inl rfl))
    rw[hl]at hl1
    have hd1:=hk1 w.heap.size (.inl rfl)
    rw[hd]at hd1
    refine⟨hl1,hG _ (hIs hI1) (by rw[xv]) (fun k h1 h2=>zO (fun e=>h2 e.symm)) (fun k hk o ho c t fz e=>?_) ?_ ?_⟩
    ·rcases hk with rfl|rfl
     ·rw[zO (by omega),hd1]at ho
      injection ho with ho
      rw[<- ho]at e
      cases e
     ·rw[xK (hlt hl1)]at ho
      injection ho with ho
      rw[<- ho]at e
      exact hrec _ _ _ _ _ e
    ·intro w'' hR3 hI3 hs hk
     have h1:=hk (w.heap.size+1) (.inr (.inl rfl))
     rw[xK (hlt hl1)]at h1
     have h2:=hk w.heap.size (.inl rfl)
     rw[zO (by omega),hd1]at h2
     refine⟨h1,by rw[xv]at hs ⊢;omega,fun k hV=>?_,.inl ⟨rfl,hRst _ _ (zX (.inr rfl)) hR3,hIs hI3,xK (hlt h1),?_⟩⟩
     ·have:=hVa k hV
      rw[zO (by omega),hk k (.inr (.inr hV)),zO (by omega),hk1 k (.inr (.inr hV))]
     ·rw[zO (by omega)];exact h2
    ·intro c w'' hDc hs hk
     have h1:=hk (w.heap.size+1) (.inr (.inl rfl))
     rw[xK (hlt hl1)]at h1
     have h2:=hk w.heap.size (.inl rfl)
     rw[zO (by omega),hd1]at h2
     refine⟨h1,by rw[xv]at hs ⊢;omega,fun k hV=>?_,.inr ⟨rfl,c,hD V V c _ _ hDc (Only.yy (.inr (.inr rfl))) (fun k hk=>.inl hk),xK (hlt h1),?_⟩⟩
     ·have:=hVa k hV
      rw[zO (by omega),hk k (.inr (.inr hV)),zO (by omega),hk1 k (.inr (.inr hV))]
     ·rw[zO (by omega)];exact h2)
  have:=hY (tv i) w' Qv hl hb;rw[htv i hi]at this;obtain⟨fn,tmps,asg,bd,h1,h2⟩:=this;refine⟨fn,tmps,asg,bd,h1,RoundIn.mono h2 ?_⟩;rintro(v|c|_) w2 he
  ·obtain⟨b,rfl,q1,q2,⟨rfl,hh1,hh2,hh3,hh4⟩|⟨rfl,c,hh1,hh2,hh3⟩⟩:=he
   ·exact⟨q1,q2,.inl ⟨rfl,hh1,hh2,hh3,hh4,hVa⟩⟩
   ·exact⟨q1,q2,.inr ⟨rfl,c,hh1,hh2,hh3,hVa⟩⟩
  ·exact he
  ·exact he
 ·rintro(v|c|_) w3 he
  ·obtain⟨V,⟨⟨hI3,hl,hd,_⟩,_,hE⟩|⟨c,hD3,hl,hd,_⟩⟩:=he
   ·refine⟨.ready,none,by simp,hl,hdone V _ (hIs hI3) (hEst _ _ (zX (.inr rfl)) hE) (by rw[xv];have:=hlt hl;omega) ?_⟩;rw[zO (by omega)];exact hd
   ·refine⟨.done,some c,by simp,hl,hjump V c _ (hD V V c _ _ hD3 (Only.yy (.inr (.inr rfl))) (fun k hk=>.inl hk)) (by rw[xv];have:=hlt hl;omega) ?_⟩;rw[zO (by omega)];exact hd
  ·exact he
  ·exact he
end V
/- Contracts of the package space:refs. -/
namespace V
open Go Go.Proofs Go.RowKit Crc
theorem Sli.congr {α:Type} {E:Enc α} {w w':World} {A:Option Addr} {n:Nat} {xs:List α} (h:Sli E w A n xs) (hs:∀ a,A=some a->w'.heap[a.block]?=w.heap[a.block]?):Sli E w' A n xs:=by
 refine⟨h.1,h.2.1,fun hn=>?_⟩;obtain⟨a,e1,e2,e3⟩:=h.2.2 hn;refine⟨a,e1,e2,fun j v hj=>?_⟩;have hc:=e3 j v hj;have hab:(a.add j).block=a.block:=by unfold Addr.add;split<;>rfl
 unfold World.cell? at hc ⊢;rw[show w'.heap[(a.add j).block]?=w.heap[(a.add j).block]? by rw[hab];exact hs a e1];exact hc
section
variable {b db:Nat} {S:Spa} {F Fd:Nat->Prop} {x:SLC} {hb hr nb nr:Nat} {m:MkL}
end
end V
/- Contracts of the package space:Walk,Audit. -/
namespace V
open Go Go.Proofs Go.RowKit Crc
variable {w w':World} {b db:Nat} {S:Spa} {F Fd:Nat->Prop} {x:SLC} {hb hr nb nr:Nat} {m:MkL}
end V
/- Contracts of the package space:Audit. -/
namespace V
open Go Go.Proofs Go.RowKit Crc
variable {w w':World} {b db:Nat} {S:Spa} {F Fd:Nat->Prop} {x:SLC} {hb hr nb nr:Nat} {m:MkL}
end V
/- Spaces that are well:what Put,Get,Drop,Audit come to. -/
namespace V
open Go Go.Proofs Go.RowKit Crc
structure Good (S:Spa) (R:List Nat):Prop where
 ok:S.Ok
 dev:S.dev.Ok
 fuse:S.dev.fuse=-1
 gen:S.sup.gen<1000000000000
 well:ya S.N S.sup.pages S.page S.now R
theorem Good.dims {S:Spa} {R:List Nat} (h:Good S R):uK S:=by
 have hg:=h.dev.geo;rw[<- h.ok.size,<- h.ok.blocks]at hg;obtain⟨g1,g2,g3,g4,g5⟩:=xY hg;have:S.sup.blocks=(S.N:Int):=by unfold Spa.N;omega
 exact⟨hg,g1,⟨g2,g3⟩,this,by omega⟩
theorem Good.h01 {S:Spa} {R:List Nat} (h:Good S R):S.now.getD 0 0≠0/\S.now.getD 1 0≠0:=by
 have:=h.well.head;omega
theorem Good.perm {S:Spa} {R R':List Nat} (h:Good S R) (hp:R.Perm R'):Good S R':=⟨h.ok,h.dev,h.fuse,h.gen,h.well.perm hp⟩
theorem qd {S:Spa} {R:List Nat} (h:Good S R) {n:Nat} (hn:zE S.sup.pages S.now n=true):S.asked n=true/\S.now.getD n 0≠0/\n<S.N:=by
 obtain⟨h1,h2,h3⟩:=zI.1 hn;have:=h.well.lt hn;exact⟨kM.2 ⟨h1,this,h2⟩,by omega,this⟩
theorem Good.get {S:Spa} {R:List Nat} (h:Good S R) {n:Nat} (hn:zE S.sup.pages S.now n=true):S.get n=S.page n/\(S.page n).2=0:=by
 obtain⟨h1,h2,h3⟩:=qd h hn;refine⟨?_,(h.well.good n hn).1⟩;unfold Spa.get;rw[if_neg (by rw[h1];simp),if_neg h2]
theorem xR {d:Dev} (h:d.Ok) {k j:Int} {s:ByteArray} (hk:0<=k/\k<d.blocks) (hs:(s.size:Int)=d.size) (hf:d.fuse≠0) (hj:0<=j/\j<d.blocks):
  (d.write k s).2=0/\((d.write k s).1.read j).1=if j=k then s else (d.read j).1:=by
 unfold Dev.write;rw[if_neg (by rintro(e|e);exact e hk;exact e hs),if_neg hf];refine⟨rfl,?_⟩;unfold Dev.read;dsimp only;rw[if_neg (show ¬ ¬(0<=j/\j<d.burnt.blocks) from fun e=>e hj),if_neg (show ¬ ¬(0<=j/\j<d.blocks) from fun e=>e hj)];dsimp only;rw[List.foldl_append];show((List.foldl Go.Proofs.YtplgodmmmppmeaaGreat.V.put d.dur d.pen).set k.toNat s).getD j.toNat ByteArray.empty=_;rw[getD_set];have hl:=uF d.pen d.dur;have hlen:=h.len
 by_cases e:j=k
 ·subst e;rw[if_pos ⟨rfl,by rw[hl];omega⟩,if_pos rfl]
 ·rw[if_neg (fun e'=>e (by omega)),if_neg e]
theorem vx {d:Dev} (h:d.Ok) {k:Int} {s:ByteArray} (hk:0<=k/\k<d.blocks) (hs:(s.size:Int)=d.size) (hf:d.fuse=-1):(d.write k s).1.Ok/\(d.write k s).1.fuse=-1/\(d.write k s).1.pen.length=d.pen.length+1:=by
 unfold Dev.write;rw[if_neg (by rintro(e|e);exact e hk;exact e hs),if_neg (by omega)];have hb:=h.burnt;refine⟨⟨h.geo,h.len,h.each,fun p hp=>?_,hb.fuse⟩,?_,by simp⟩
 ·rcases mem_append.1 hp with hp|hp
  ·exact h.pend p hp
  ·rw[mem_singleton.1 hp];exact⟨hk.1,hk.2,hs⟩
 ·show max (-1) (d.fuse-1)=-1;rw[hf];decide
theorem zfs (S:Spa):∀ n,(∀ j,j<n->¬((decide (2<=j)&&S.yx j)=true))->jk S n=[]
 |0,_=>rfl
 |n+1,h=>by
  rw[qE,if_neg (h n (by omega)),zfs S n (fun j hj=>h j (by omega))]
theorem vQ {S:Spa} {n:Nat}:n∈S.ye↔n<S.N/\2<=n/\S.yx n=true:=by
 unfold Spa.ye;rw[List.mem_filter,mem_range,Bool.and_eq_true,decide_eq_true_iff]
theorem zjp {S:Spa} {R:List Nat} (h:Good S R) (hf:0<S.zQ):S.zC<S.N/\2<=S.zC/\S.yx S.zC=true/\(∀ j,j<S.zC->S.yx j=false)/\S.zC∉S.sup.pages:=by
 have hnow:=h.ok.now;obtain⟨n,hn⟩:∃ n,n∈S.ye:=by
  unfold Spa.zQ at hf;cases hq:S.ye with
  |nil=>rw[hq]at hf;simp at hf
  |cons a r=>exact⟨a,mem_cons_self⟩
 obtain⟨h1,h2,h3⟩:=vQ.1 hn;have hlt:S.zC<(List.range S.now.length).length:=List.findIdx_lt_length_of_exists ⟨n,mem_range.2 (by omega),h3⟩;rw[length_range]at hlt;have hfr:S.yx S.zC=true:=by
  have:=List.findIdx_getElem (p:=S.yx) (xs:=List.range S.now.length) (w:=by rw[length_range];exact hlt);rw[getElem_range]at this;exact this
 obtain⟨f1,f2,f3⟩:=zP.1 hfr;have hhd:=h.well.head;refine⟨by omega,?_,hfr,fun j hj=>?_,fun hp=>?_⟩
 ·rcases Nat.lt_or_ge S.zC 2 with hh|hh
  ·have:S.zC=0\/S.zC=1:=by omega
   rcases this with e|e<;>rw[e]at f1<;>omega
  ·exact hh
 ·have:=List.not_of_lt_findIdx (p:=S.yx) (xs:=List.range S.now.length) (i:=j) hj;rw[getElem_range]at this
  simpa using this
 ·have:=(h.well.pgs _ hp).2.2;omega
structure kZ (S S':Spa) (p:Page) (n:Nat):Prop where
 two:2<=n
 lt:n<S.N
 pgs:n∉S.sup.pages
 free:S.yx n=true
 now:S'.now=S.now.set n 1
 sup:S'.sup=S.sup
 held:S'.held=S.held
 mark:S'.mark=S.mark
 slot:S'.slot=S.slot
 page:S'.page n=(p,0)
 other:∀ k,k≠n->k<S.N->S'.page k=S.page k
 pen:S'.dev.pen.length=S.dev.pen.length+1
 ye:S.ye=n::S'.ye
 read:∀ k:Int,0<=k->k<S.N->k≠n->(S'.dev.read k).1=(S.dev.read k).1
 dim:S'.dev.size=S.dev.size/\S'.dev.blocks=S.dev.blocks
theorem zjq {S S':Spa} {n:Nat} (hn:n<S.N) (h2:2<=n) (hf:S.yx n=true) (hno:∀ j,j<n->S.yx j=false) (hN:S'.N=S.N) (hf':∀ j,j<S.N->S'.yx j=if j=n then false else S.yx j):S.ye=n::S'.ye:=by
 have key:∀ k,k<=S.N->jk S k=if n<k then n::jk S' k else jk S' k:=by
  intro k
  induction k with
  |zero=>intro _;rw[if_neg (by omega)];rfl
  |succ k ih=>
   intro hk;have ih:=ih (by omega);rw[qE,qE,hf' k (by omega)]
   by_cases hkn:k=n
   ·subst hkn;have hA:(decide (2<=k)&&S.yx k)=true:=by rw[hf,decide_eq_true h2];rfl
    have e1:jk S k=[]:=zfs S k (fun j hj hh=>by rw[hno j hj]at hh;simp at hh);rw[if_neg (by omega)]at ih;rw[if_pos hA,if_pos (Nat.lt_succ_self k),if_pos rfl,Bool.and_false,if_neg (by simp),<- ih,e1];rfl
   ·rw[if_neg hkn]
    by_cases hlt:n<k
    ·rw[if_pos hlt]at ih;rw[if_pos (by omega:n<k+1),ih];split<;>simp
    ·rw[if_neg hlt]at ih;rw[if_neg (by omega:¬n<k+1),ih]
 have h1:=key S.N (Nat.le_refl _);rw[if_pos hn]at h1;have e2:jk S' S.N=S'.ye:=by unfold jk Spa.ye;rw[hN]
 rw[e2]at h1;exact h1
theorem zdC {S:Spa} {R:List Nat} {p:Page} (h:Good S (p.2.1++R)) (ht:3<=p.1.toNat) (hk:(p.2.1.length:Int)<=S.room 0 / 4) (hd:(p.2.2.size:Int)<=S.room p.2.1.length) (hfree:S.sup.pages.length<S.zQ):
  (S.put p).2.2=0/\kZ S (S.put p).1 p (S.put p).2.1/\Good (S.put p).1 ((S.put p).2.1::R):=by
 have hdim:=h.dims;have hN:=hdim.n;have hsz:=hdim.size;have hroom:=hdim.room;have hr0:S.room 0=S.sup.size-18:=by unfold Spa.room;rw[hroom,if_neg (by omega)];omega
 have hrk:S.room p.2.1.length=S.sup.size-18-4*p.2.1.length:=by unfold Spa.room;rw[hroom,if_neg (by omega)];omega
 obtain⟨t1,t2,t3,t4,t5⟩:=zjp h (by omega);obtain⟨f1,f2,f3⟩:=zP.1 t3;have hnow:=h.ok.now;have eN:S.takeN=S.zC:=by unfold Spa.takeN;rw[if_pos (by omega)]
 have eE:S.yP=0:=by unfold Spa.yP;rw[if_pos (by omega)]
 have eL:S.yQ=S.now.set S.zC 1:=by unfold Spa.yQ;rw[if_pos (by omega)]
 have hku:∀ k∈p.2.1,zE S.sup.pages S.now k=true:=fun k hk=>h.well.root k (mem_append_left _ hk);have hE0:S.jE p=0:=by
  unfold Spa.jE;rw[if_neg,if_neg,if_neg,if_neg]
  ·omega
  ·rintro(e|e)<;>omega
  ·rintro⟨k,hk,e⟩;exact(qd h (hku k hk)).2.1 e
  ·rintro(e|e|⟨k,hk,e⟩)
   ·omega
   ·omega
   ·rw[(qd h (hku k hk)).1]at e;cases e
 have hpl:(pgB p).length=2+(4*p.2.1.length+p.2.2.size):=by simp[pgB,zv,xn,yj]
 have hdz:=h.ok.size;have hdb:=h.ok.blocks;have hbl:=hdim.blocks;obtain⟨z,hz⟩:∃ z:Nat,S.sup.size=(z:Int):=⟨S.sup.size.toNat,by omega⟩;have hfit:(pgB p).length+16<=z:=by omega
 have hBp:(B (mkB (pgB p))).length=(pgB p).length:=by rw[yW]
 have hputR:xp S.dev.size (S.frame p)=(yz z (S.frame p),0):=by
  unfold xp;rw[<- hdz,if_neg (by rw[hroom];omega)];rw[if_neg (by show ¬(((B (mkB (pgB p))).length:Int)>_);rw[hBp,hroom];omega),hz];rfl
 have hbl2:(yz z (S.frame p)).length=z:=j9 (by show(B (mkB (pgB p))).length+16<=z;rw[hBp];exact hfit);have hws:(((mkB (yz z (S.frame p))).size:Nat):Int)=S.dev.size:=by rw[xf,hbl2,<- hz,hdz]
 have hwf:yp S.dev S.zC (S.frame p)=S.dev.write S.zC (mkB (yz z (S.frame p))):=by
  unfold yp;rw[hputR,if_neg (by simp)]
 have hk2:0<=(S.zC:Int)/\(S.zC:Int)<S.dev.blocks:=by omega
 have hfz:=h.fuse;obtain⟨q1,q2,q3⟩:=vx h.dev hk2 hws hfz;have hwe:(S.dev.write S.zC (mkB (yz z (S.frame p)))).2=0:=(xR h.dev hk2 hws (by omega) hk2).1;have eput:S.put p=({ S with now:=S.now.set S.zC 1,dev:=(S.dev.write S.zC (mkB (yz z (S.frame p)))).1 },S.zC,0):=by
  unfold Spa.put;rw[if_neg (by rw[hE0];simp),if_neg (by rw[eE];simp),eN,eL,hwf,if_neg (by rw[hwe];simp)]
 rw[eput];dsimp only;have hpg:∀ k,k<S.N->Spa.page { S with now:=S.now.set S.zC 1,dev:=(S.dev.write S.zC (mkB (yz z (S.frame p)))).1 } k=if k=S.zC then (p,0) else S.page k:=by
  intro k hkN;unfold Spa.page;dsimp only;have hrw:=(xR h.dev hk2 hws (by omega) (j:=(k:Int)) (by omega)).2;show xQ S.N (B ((S.dev.write S.zC (mkB (yz z (S.frame p)))).1.read k).1)=_;rw[hrw]
  by_cases e:k=S.zC
  ·subst e;rw[if_pos rfl,if_pos rfl,yW];have hg:=h.gen;refine zja (by rw[<- hz];exact hroom) (by omega) (by omega) hfit (by omega) ht (fun n hn=>?_) hN.2;obtain⟨a1,a2,a3⟩:=zI.1 (hku n hn);exact⟨a1,h.well.lt (hku n hn)⟩
  ·rw[if_neg (by omega),if_neg e]
 have hdim2:=jH S.dev S.zC (mkB (yz z (S.frame p)));have hwell:ya S.N S.sup.pages (Spa.page { S with now:=S.now.set S.zC 1,dev:=(S.dev.write S.zC (mkB (yz z (S.frame p)))).1 }) (S.now.set S.zC 1) (S.zC::R):=by
  refine ya.put (ks:=p.2.1) h.well t2 t1 t5 f1 ?_ ?_ (fun k hk hkN=>?_)
  ·rw[hpg _ t1,if_pos rfl]
  ·unfold z6;rw[hpg _ t1,if_pos rfl]
  ·rw[hpg k hkN,if_neg hk]
 refine⟨rfl,⟨t2,t1,t5,t3,rfl,rfl,rfl,rfl,rfl,by rw[hpg _ t1,if_pos rfl],fun k hk hkN=>by rw[hpg k hkN,if_neg hk],q3,?_,fun k h0 hkN hne=>by
  show((S.dev.write S.zC (mkB (yz z (S.frame p)))).1.read k).1=_
  rw[(xR h.dev hk2 hws (by omega) (j:=k) (by omega)).2,if_neg hne],⟨hdim2.1,hdim2.2.1⟩⟩,⟨⟨?_,?_,h.ok.fits,h.ok.held,?_,h.ok.mark⟩,q1,q2,h.gen,hwell⟩⟩
 ·refine zjq t1 t2 t3 t4 rfl (fun j hj=>?_);rw[Bool.eq_iff_iff,zP];dsimp only;rw[yr]
  by_cases e:j=S.zC
  ·subst e;rw[if_pos ⟨rfl,by omega⟩,if_pos rfl];simp
  ·rw[if_neg (fun e'=>e e'.1.symm),if_neg e,zP]
 ·exact hdz.trans hdim2.1.symm
 ·exact hdb.trans hdim2.2.1.symm
 ·show(S.now.set S.zC 1).length=_;rw[length_set];exact hnow
end V
/- Spaces that are well:Share,Drop,Audit. -/
namespace V
open Go Go.Proofs Go.RowKit Crc
theorem Good.ke {S:Spa} {R R':List Nat} {c:List Nat} (h:Good S R) (hl:c.length=S.now.length) (hw:ya S.N S.sup.pages S.page c R'):Good { S with now:=c } R':=
 ⟨⟨h.ok.size,h.ok.blocks,h.ok.fits,h.ok.held,hl.trans h.ok.now,h.ok.mark⟩,h.dev,h.fuse,h.gen,hw⟩
theorem zjr {S:Spa} {R:List Nat} {n:Nat} (h:Good S R) (hn:zE S.sup.pages S.now n=true) (h6:S.now.getD n 0<65535):(S.share n).2=0/\Good (S.share n).1 (n::R)/\(S.share n).1={ S with now:=S.now.set n (S.now.getD n 0+1) }:=by
 obtain⟨h1,h2,h3⟩:=qd h hn;have ha:=zbj h.well hn;have e1:kX S.now n=0:=by unfold kX;rw[if_pos ha,if_neg (by omega)]
 have e2:vw S.now n=S.now.set n (S.now.getD n 0+1):=by unfold vw;rw[if_pos e1]
 unfold Spa.share;rw[if_neg (by rw[h1];simp),e1,e2];exact⟨rfl,h.ke (by simp) (h.well.share hn),rfl⟩
theorem zks {S:Spa} {R:List Nat} {n:Nat} (h:Good S (n::R)):∃ c',Drp S.asked S.page S.now [n] c' 0/\Good { S with now:=c' } R/\c'.length=S.now.length/\∀ k,c'.getD k 0<=S.now.getD k 0:=by
 obtain⟨c',h1,h2,h3,h4⟩:=ya.drop (N:=S.N) (ps:=S.sup.pages) (pg:=S.page) (ask:=S.asked) (fun n a1 a2 a3=>kM.2 ⟨a1,a2,a3⟩) S.now.sum [n] (Nat.le_refl _) (R:=R) h.well;exact⟨c',h1,h.ke h3 h2,h3,h4⟩
theorem zad {f g:Nat->Nat} {N:Nat} (h:∀ m,m<N->f m=g m):((List.range N).map f).sum=((List.range N).map g).sum:=by
 congr 1;exact map_congr_left (fun m hm=>h m (mem_range.1 hm))
theorem vR:∀ N:Nat,((List.range N).map fun _=>0).sum=0
 |0=>rfl
 |N+1=>by
  rw[range_succ,map_append,List.sum_append,vR N];rfl
end V
/- Spaces that are well:commit,Format. -/
namespace V
open Go Go.Proofs Go.RowKit Crc
structure va (d:Dev):Prop where
 ok:d.Ok
 fuse:d.fuse=-1
theorem Dev.Ok.facts {d:Dev} (h:d.Ok):∃ z N:Nat,d.size=(z:Int)/\d.blocks=(N:Int)/\zD d.size=(z:Int)-16/\128<=z/\z<=4096/\8<=N/\N<=4096/\zD d.size=((2*zJ d.size:Nat):Int):=by
 obtain⟨g1,g2,g3,g4,g5⟩:=xY h.geo;obtain⟨h8,_⟩:=zdx h.geo;have h4:=zdw h8;exact⟨d.size.toNat,d.blocks.toNat,by omega,by omega,by omega,by omega,by omega,by omega,by omega,h4⟩
theorem zc6 {d:Dev} (h:va d) {k:Nat} {f:Fra} (hk:(k:Int)<d.blocks) (hf:((B f.2.2).length:Int)<=zD d.size):
  (yp d k f).2=0/\va (yp d k f).1/\(∀ j:Int,0<=j/\j<d.blocks->((yp d k f).1.read j).1=if j=k then mkB (yz d.size.toNat f) else (d.read j).1):=by
 obtain⟨z,N,e1,e2,e3,e4,e5,e6,e7,e8⟩:=h.ok.facts;have hputR:xp d.size f=(yz z f,0):=by
  unfold xp;rw[if_neg (by omega),if_neg (by omega),e1];rfl
 have hl:(yz z f).length=z:=j9 (by omega);have hws:(((mkB (yz z f)).size:Nat):Int)=d.size:=by rw[xf,hl,e1]
 have hwf:yp d k f=d.write k (mkB (yz z f)):=by
  unfold yp;rw[hputR,if_neg (by simp)]
 have hk2:0<=(k:Int)/\(k:Int)<d.blocks:=by omega
 obtain⟨q1,q2,q3⟩:=vx h.ok hk2 hws h.fuse;rw[hwf];have hez:d.size.toNat=z:=by omega
 rw[hez];exact⟨(xR h.ok hk2 hws (by rw[h.fuse];decide) hk2).1,⟨q1,q2⟩,fun j hj=>(xR h.ok hk2 hws (by rw[h.fuse];decide) hj).2⟩
theorem ud {d:Dev} (h:va d):d.flush.2=0/\va d.flush.1/\d.flush.1.pen=[]/\∀ j:Int,(d.flush.1.read j).1=(d.read j).1:=by
 have hok:=h.ok;have hb:=hok.burnt;have hf:max (-1) (d.fuse-1)=-1:=by rw[h.fuse];decide
 unfold Dev.flush;rw[if_neg (by rw[h.fuse];decide)];refine⟨rfl,⟨⟨hok.geo,?_,zb2 _ _ hok.each (fun p hp=>(hok.pend p hp).2.2),(fun p hp=>by cases hp),hb.fuse⟩,hf⟩,rfl,fun j=>rfl⟩;show(((d.pen.foldl Go.Proofs.YtplgodmmmppmeaaGreat.V.put d.dur).length:Nat):Int)=d.blocks;rw[uF];exact hok.len
theorem zbk:∀ (l:List (Nat×Fra)) (d:Dev),va d->(∀ p∈l,(p.1:Int)<d.blocks/\((B p.2.2.2).length:Int)<=zD d.size)->
  (wrL d l).2=0/\va (wrL d l).1/\(∀ j:Int,0<=j/\j<d.blocks->(∀ p∈l,(p.1:Int)≠j)->((wrL d l).1.read j).1=(d.read j).1)
 |[],d,h,_=>⟨rfl,h,fun _ _ _=>rfl⟩
 |kf::r,d,h,hl=>by
  obtain⟨h1,h2⟩:=hl kf mem_cons_self;obtain⟨g1,g2,g3⟩:=zc6 h h1 h2;obtain⟨d1,d2,d3⟩:=uc d kf.1 kf.2;obtain⟨k1,k2,k3⟩:=zbk r (yp d kf.1 kf.2).1 g2 (fun p hp=>by rw[d1,d2];exact hl p (mem_cons_of_mem _ hp));unfold wrL;rw[if_neg (fun hh=>hh g1)];refine⟨k1,k2,fun j hj hno=>?_⟩;rw[k3 j (by rw[d2];exact hj) (fun p hp=>hno p (mem_cons_of_mem _ hp)),g3 j hj,if_neg (fun e=>hno kf mem_cons_self e.symm)]
theorem zft (l:List Nat) (per i:Nat):(zcF l per i).length<=2*per:=by
 unfold zcF;have:∀ l:List Nat,(l.flatMap (le 2)).length=2*l.length:=by
  intro l
  induction l with
  |nil=>rfl
  |cons a t ih=>rw[flatMap_cons,length_append,ih,zv,length_cons];omega
 rw[this,length_take];omega
theorem zhQ {d:Dev} (h:va d) {c:List Nat} {s:Sup} {slot:Int} (hchk:chk s=0) (hsz:s.size=d.size) (hps:∀ p∈s.pages,2<=p/\(p:Int)<d.blocks) (hslot:slot=0\/slot=1):
  (yK d c s slot).2=0/\va (yK d c s slot).1/\(yK d c s slot).1.pen=[]/\(∀ j:Int,2<=j/\j<d.blocks->(∀ p∈s.pages,(p:Int)≠j)->((yK d c s slot).1.read j).1=(d.read j).1):=by
 obtain⟨z,N,e1,e2,e3,e4,e5,e6,e7,e8⟩:=h.ok.facts;have hL:∀ p∈xr s.gen s.pages (zT c (zJ d.size)),p.1∈s.pages/\((B p.2.2.2).length:Int)<=zD d.size:=by
  intro p hp;unfold xr at hp;obtain⟨q,hq,rfl⟩:=mem_map.1 hp;have h1:=(List.of_mem_zip hq).1;have h2:=(List.of_mem_zip hq).2;refine⟨h1,?_⟩;unfold zT at h2;obtain⟨i,_,hi⟩:=mem_map.1 h2;show((B q.2).length:Int)<=_;rw[<- hi,jB];have:=zft c (zJ d.size) i;omega
 obtain⟨w1,w2,w3⟩:=zbk (xr s.gen s.pages (zT c (zJ d.size))) d h (fun p hp=>⟨(hps _ (hL p hp).1).2,(hL p hp).2⟩);obtain⟨dm1,dm2,dm3⟩:=zcH (xr s.gen s.pages (zT c (zJ d.size))) d;obtain⟨f1,f2,f3,f4⟩:=ud w2;have fd:=vP (wrL d (xr s.gen s.pages (zT c (zJ d.size)))).1;unfold yK;generalize (wrL d (xr s.gen s.pages (zT c (zJ d.size))))=r at *;have hp0:(xz s).2=0:=by rw[kK hchk]
 have hpl:=(zcZ hchk).1;have hs2:((((mkB (xz s).1).size:Nat)):Int)=r.1.flush.1.size:=by rw[xf,hpl,fd.1,dm1,hsz]
 have hsl:0<=slot/\slot<r.1.flush.1.blocks:=by rw[fd.2.1,dm2];omega
 obtain⟨q1,q2,q3⟩:=vx f2.ok hsl hs2 f2.fuse;have hrw:=fun(j:Int) (hj:0<=j/\j<r.1.flush.1.blocks)=>xR f2.ok hsl hs2 (by rw[f2.fuse];decide) (j:=j) hj;have hw0:=(hrw slot hsl).1;have hwd:=jH r.1.flush.1 slot (mkB (xz s).1);obtain⟨y1,y2,y3,y4⟩:=ud (d:=(r.1.flush.1.write slot (mkB (xz s).1)).1) ⟨q1,q2⟩;rw[if_neg (fun hh=>hh w1),if_neg (fun hh=>hh f1),if_neg (fun hh=>hh hp0),if_neg (fun hh=>hh hw0)];refine⟨y1,y2,y3,fun j hj hno=>?_⟩;rw[y4 j,(hrw j (by rw[fd.2.1,dm2];omega)).2,if_neg (by omega),f4 j,w3 j (by omega) (fun p hp=>hno p.1 (hL p hp).1)]
theorem zcg {size:Int} {N:Nat} (h:zW size N=true):kJ size N=((zG size N:Nat):Int):=by
 obtain⟨h8,n,hn,h1,h2⟩:=zdx h;obtain⟨hp1,hp2,_⟩:=jS h8;unfold kJ zG yt;rw[if_pos h,zdw h8];rw[show(2:Int)*(N:Int)+((2*zJ size:Nat):Int)-1=((2*N+2*zJ size-1:Nat):Int) by omega,<- Int.natCast_ediv];congr 1;rw[<- Nat.div_div_eq_div_mul];congr 1;omega
theorem zos {size:Int} {N:Nat} (h:zW size N=true):chk (y0 size N)=if 14+4*((zG size N:Nat):Int)>zD size then 3 else 0:=by
 have hn:=zaR h;have hl:(y0 size N).pages.length=zG size N:=kg _;have hget:∀ j,j<zG size N->(y0 size N).pages.getD j 0=j+2:=fun j hj=>by
  show(xA (zG size N)).getD j 0=_;unfold xA;simp[getD_eq_getElem?_getD,hj]
 rw[zgD]
 ·rw[hl];rfl
 ·exact⟨h,(show(1:Nat)≠0 by decide),.inl rfl,by rw[hl];exact(zcg h).symm⟩
 ·intro j hj;rw[hl]at hj;refine⟨?_,?_,?_⟩
  ·rw[hget j hj];unfold vO;rw[decide_eq_true];exact⟨by omega,by show((j+2:Nat):Int)<(N:Int);omega⟩
  ·rw[hget j hj];show j+2≠0;omega
  ·rw[hget j hj];intro hm;have hm:j+2∈(xA (zG size N)).take j:=hm;unfold xA at hm;rw[<- List.map_take,List.take_range]at hm;obtain⟨i,hi,e⟩:=mem_map.1 hm;have:=mem_range.1 hi;omega
theorem zhR {d:Dev} (h:va d) (hchk:chk (y0 d.size d.blocks.toNat)=0):(yA d).2=0/\Good (ql d) []/\(ql d).dev.pen=[]:=by
 obtain⟨z,N,e1,e2,e3,e4,e5,e6,e7,e8⟩:=h.ok.facts;have hN:d.blocks.toNat=N:=by omega
 have hg:zW d.size (N:Int)=true:=by rw[<- e2];exact h.ok.geo
 obtain⟨n1,n2,n3⟩:=zaR hg;rw[hN]at hchk;have hz:(((yE d.size.toNat).size:Nat):Int)=d.size:=by rw[zbc];omega
 have h1:0<=(1:Int)/\(1:Int)<d.blocks:=by omega
 obtain⟨q1,q2,q3⟩:=vx h.ok h1 hz h.fuse;have hw0:=(xR h.ok h1 hz (by rw[h.fuse];decide) h1).1;have hwd:=jH d 1 (yE d.size.toNat);have hpages:∀ p∈xA (zG d.size N),2<=p/\p<N:=fun p hp=>by
  unfold xA at hp;obtain⟨i,hi,rfl⟩:=mem_map.1 hp;have:=mem_range.1 hi;omega
 obtain⟨c1,c2,c3,c4⟩:=zhQ (d:=(d.write 1 (yE d.size.toNat)).1) ⟨q1,q2⟩ (c:=yi N (zG d.size N)) (s:=y0 d.size N) (slot:=0) hchk hwd.1.symm (fun p hp=>by have:=hpages p hp;rw[hwd.2.1];omega) (.inl rfl);have eD:yA d=yK (d.write 1 (yE d.size.toNat)).1 (yi N (zG d.size N)) (y0 d.size N) 0:=by
  unfold yA;rw[hN,if_neg (fun hh=>hh hchk),if_neg (fun hh=>hh hw0)]
 have dm:=zas (d.write 1 (yE d.size.toNat)).1 (yi N (zG d.size N)) (y0 d.size N) 0;have eS:ql d=⟨(yA d).1,y0 d.size N,0,yi N (zG d.size N),yi N (zG d.size N),none⟩:=by unfold ql;rw[hN]
 rw[eS,eD];refine⟨c1,⟨⟨(dm.1.trans hwd.1).symm,?_,zcf hg,?_,?_,fun l hl=>by cases hl⟩,c2.ok,c2.fuse,by show 1<_;decide,?_⟩,c3⟩
 ·show(N:Int)=_;rw[dm.2,hwd.2.1,e2]
 ·show(yi N (zG d.size N)).length=((N:Int)).toNat;rw[qR n1];omega
 ·show(yi N (zG d.size N)).length=((N:Int)).toNat;rw[qR n1];omega
 ·show ya ((N:Int)).toNat (xA (zG d.size N)) _ (yi N (zG d.size N)) [];have hget:=fun k=>kD (N:=N) (np:=zG d.size N) (k:=k) n1;have hnone:∀ k,zE (xA (zG d.size N)) (yi N (zG d.size N)) k=false:=fun k=>by
   cases hq:zE (xA (zG d.size N)) (yi N (zG d.size N)) k with
   |false=>rfl
   |true=>
    obtain⟨a1,a2,a3⟩:=zI.1 hq;rw[hget k]at a3;split at a3
    ·exfalso
     apply a2;unfold xA;exact mem_map.2 ⟨k-2,mem_range.2 (by omega),by omega⟩
    ·omega
  refine⟨by rw[qR n1];omega,by omega,⟨by rw[hget,if_pos (by omega)],by rw[hget,if_pos (by omega)]⟩,fun p hp=>?_,by simp,(fun n hn=>by rw[hnone]at hn;cases hn),⟨fun _=>0,(fun n hn=>by rw[hnone]at hn;cases hn)⟩,fun n h2 hp=>?_⟩
  ·have:=hpages p hp;refine⟨this.1,by omega,?_⟩;unfold xA at hp;obtain⟨i,hi,rfl⟩:=mem_map.1 hp;have:=mem_range.1 hi;rw[hget,if_pos (by omega)]
  ·have hz0:jt ((N:Int)).toNat (xA (zG d.size N)) (Spa.page ⟨(yK (d.write 1 (yE d.size.toNat)).1 (yi N (zG d.size N)) (y0 d.size N) 0).1,y0 d.size N,0,yi N (zG d.size N),yi N (zG d.size N),none⟩) (yi N (zG d.size N)) n=0:=by
    unfold jt;rw[zad (g:=fun _=>0) (fun m _=>by unfold xq;rw[hnone];rfl)];exact vR _
   have e0:(yi N (zG d.size N)).getD n 0=0:=by
    rw[hget,if_neg];intro hlt;apply hp;show n∈xA (zG d.size N);unfold xA;exact mem_map.2 ⟨n-2,mem_range.2 (by omega),by omega⟩
   rw[e0,List.count_nil,Nat.zero_add];exact hz0.symm
end V
/- Spaces:several blocks taken,and what Commit comes to:plain. -/
namespace V
open Go Go.Proofs Go.RowKit Crc
theorem zmD (S:Spa):S.ye.Nodup:=List.Nodup.sublist List.filter_sublist List.nodup_range
namespace Spa
end Spa
namespace Spa
end Spa
structure zps (S:Spa):Prop where
 at_:∀ p∈S.sup.pages,2<=p/\p<S.N/\S.now.getD p 0=1
 nodup:S.sup.pages.Nodup
 len:S.sup.pages.length=yt S.N (zJ S.sup.size)
end V
/- Contracts of the package space:Commit. -/
namespace V
open Go Go.Proofs Go.RowKit Crc
def zjs:List Value->Nat->List Value->List Value
 |cs,_,[]=>cs
 |cs,k,v::r=>zjs (cs.set k v) (k+1) r
theorem zc7 {w:World} {b:Nat} {cs:List Value} {t:TypeId} (h:Blk w b cs t) {o:Nat}:∀ (vs:List Value) (i:Nat),o+i+vs.length<=cs.length->(∀ v∈vs,v.oneCell'=true)->Storable w ⟨b,o,none⟩ i vs
 |[],_,_,_=>trivial
 |v::r,i,hl,ho=>by
  simp only [length_cons]at hl;refine⟨ho v mem_cons_self,?_,?_,zc7 h r (i+1) (by omega) (fun u hu=>ho u (mem_cons_of_mem _ hu))⟩
  ·rw[zy,h.cell];exact⟨_,List.getElem?_eq_getElem (by omega)⟩
  ·rw[zy];exact h.frozen _
theorem zc8 {b o:Nat} {t:TypeId}:∀ (vs:List Value) (i:Nat) (w:World) (cs:List Value),Blk w b cs t->Blk (setCells w ⟨b,o,none⟩ i vs) b (zjs cs (o+i) vs) t/\Only (fun k=>k=b) w (setCells w ⟨b,o,none⟩ i vs)
 |[],i,w,cs,h=>⟨h,Only.refl _ _⟩
 |v::r,i,w,cs,h=>by
  simp only [setCells,zy];have h2:=h.set (o+i) v;have o2:Only (fun k=>k=b) w (w.setCell ⟨b,o+i,none⟩ v):=Only.z8 (yH w b (o+i) v) (fun j hj=>.inl (by injection hj with hj;exact hj.symm));obtain⟨g1,g2⟩:=zc8 (o:=o) r (i+1) _ _ h2;exact⟨g1,Only.trans o2 g2 (fun j hj=>.inl hj)⟩
theorem zot {w:World} {b n:Nat} (o:Nat) {a:Addr} {cs vs:List Value} {t:TypeId} {us:Array Value} {K:WP} (h:Blk w b cs t) (ha:a=⟨b,o,none⟩) (hl:o+vs.length<=cs.length) (hv:∀ v∈vs,v.oneCell'=true) (hu:us.size=n)
  (hK:∀ w',Blk w' b (zjs cs o vs) t->Only (fun k=>k=b) w w'->K w'):(zc (us.size=n)<|zt a vs K) w:=by
 subst ha;obtain⟨g1,g2⟩:=zc8 (o:=o) vs 0 w cs h;exact⟨hu,zc7 h vs 0 (by omega) hv,hK _ g1 g2⟩
theorem stE {w:World} {b o:Nat} {a:Addr} {cs:List Value} {t:TypeId} {v:Value} {K:WP} (h:Blk w b cs t) (ha:a=⟨b,o,none⟩) (ho:o<cs.length) (hK:∀ w',Blk w' b (cs.set o v) t->Only (fun k=>k=b) w w'->K w'):stW a v K w:=by
 subst ha;exact zS h ho (hK _ (h.set o v) (Only.z8 (yH w b o v) (fun j hj=>.inl (by injection hj with hj;exact hj.symm))))
variable {w w':World} {b db:Nat} {S:Spa} {F Fd:Nat->Prop} {x:SLC} {hb hr nb nr:Nat} {m:MkL}
end V
/- Contracts of the package space:Open,Root. -/
namespace V
open Go Go.Proofs Go.RowKit Crc
end V
end Go.Proofs.YtplgodmmmppmeaaGreat
