/- Texts of mine, merged (wip/tool/mergep.py): SchP, CatP, KCat1, KCat2, KCat3, KCat4, KCat5, KCat6, KCat7, KCat8, KRef24, KBlob2, KBlob3, BlobL, KPut1, KPut2, KPut3, KPut4, KPut5, KGet1, KGet2, KGet3, KGet4, KGet5, KCopy, HIns, GoodE, KSt. -/
import Derived.Test.YtpagephahcnijaaGreatM5
import Derived.Test.YtpagephahcnijaaGreatM4
import Derived.Test.YtpagephahcnijaaGreatM3
import Derived.Test.YtpagephahcnijaaGreatM1
import Derived.Lib.AppendZerosOnto
import Derived.Lib.Overlaps
import Derived.Laws.Externs
open Go.IntKind (wrap)
open Go.Proofs.Tryz (prog)
open List (mem_cons_self mem_cons_of_mem mem_cons length_cons map_map mem_append mem_append_left mem_append_right drop_drop mem_range mem_of_getElem? getElem_mem mem_iff_getElem map_cons mem_map append_assoc nodup_cons foldl_cons length_nil append_nil length_map nil_append length_set eq_nil_of_length_eq_zero range_succ map_congr_left length_append drop_of_length_le take_of_length_le getD_eq_getElem?_getD mem_singleton length_take drop_eq_getElem_cons length_drop take_succ_eq_append_getElem take_add_one not_mem_nil map_append take_left' length_replicate drop_left' flatMap_cons length_range getElem_range flatMap_append length_singleton count_cons count_eq_zero)
set_option linter.unusedVariables false
set_option linter.unusedSimpArgs false
namespace Go.Proofs.YtpagephahcnijaaGreat
/- Columns:plain;what is read of what was put (as in seat 17's L2). -/
namespace V
open Go Go.Proofs
theorem zlX {c:Col} (h:zb5 c):(qc c).toNat=c.2.1.toNat+(if c.2.2 then 128 else 0):=by
 obtain⟨_,h1,h2⟩:=h;unfold qc;cases hc:c.2.2 with
 |true=>rw[if_pos rfl,if_pos rfl,UInt8.toNat_ofNat'];omega
 |false=>rw[if_neg (by simp),if_neg (by simp),UInt8.toNat_ofNat'];omega
theorem zlY {c:Col} (h:zb5 c) (t:List UInt8):kr (jV c++t)=some (c,t):=by
 have hn:=qy h.1;have hk:=zlX h;obtain⟨_,h1,h2⟩:=h;have hlen:(UInt8.ofNat (B c.1).length).toNat=(B c.1).length:=by rw[UInt8.toNat_ofNat'];omega
 have e:jV c++t=qc c::UInt8.ofNat (B c.1).length::(B c.1++t):=by simp[jV]
 rw[e];unfold kr;have g0:(qc c::UInt8.ofNat (B c.1).length::(B c.1++t)).getD 0 0=qc c:=rfl;have g1:(qc c::UInt8.ofNat (B c.1).length::(B c.1++t)).getD 1 0=UInt8.ofNat (B c.1).length:=rfl;rw[g0,g1,hlen,hk,if_neg (by simp)];congr 1;refine Prod.ext (Prod.ext ?_ (Prod.ext ?_ ?_)) ?_
 ·apply j9;show((B c.1++t).take (B c.1).length)=B c.1;simp
 ·show((((c.2.1.toNat+if c.2.2 then 128 else 0) % 128:Nat)):Int)=c.2.1;split<;>omega
 ·show decide (128<=c.2.1.toNat+if c.2.2 then 128 else 0)=c.2.2;cases hc:c.2.2
  ·rw[if_neg (by simp),decide_eq_false (by omega)]
  ·rw[if_pos rfl,decide_eq_true (by omega)]
 ·show(qc c::UInt8.ofNat (B c.1).length::(B c.1++t)).drop (2+(B c.1).length)=t;rw[Nat.add_comm];show(B c.1++t).drop (B c.1).length=t;simp
theorem zfj:∀ {cs:List Col},(∀ c∈cs,zb5 c)->∀ t,xY cs.length (cs.flatMap jV++t)=some (cs,t)
 |[],_,t=>rfl
 |c::r,h,t=>by
  rw[length_cons,flatMap_cons,append_assoc,xY,zlY (h c mem_cons_self)];simp only;rw[zfj (fun d hd=>h d (mem_cons_of_mem _ hd)) t]
theorem zje {cs:List Col} (h:xo cs=0) (t:List UInt8):xZ (xL cs++t)=some (cs,t):=by
 obtain⟨hlen,_,hok⟩:=zaK h;have hl:(UInt8.ofNat cs.length).toNat=cs.length:=by rw[UInt8.toNat_ofNat'];omega
 unfold xL;rw[List.cons_append,xZ,hl,zfj hok t];simp only;rw[if_pos h]
theorem zlZ {s:List UInt8} {c:Col} {r:List UInt8} (h:kr s=some (c,r)):jV c++r=s:=by
 unfold kr at h;split at h
 ·cases h
 rename_i h0
 match s,h0 with
 |[],h0=>exact absurd (.inl (by simp)) h0
 |[a],h0=>exact absurd (.inl (by simp)) h0
 |a::b::q,h0=>
  injection h with h
  injection h with h1 h2
  subst h1 h2;have g0:(a::b::q).getD 0 0=a:=rfl;have g1:(a::b::q).getD 1 0=b:=rfl;rw[g1]at h0;rw[g0,g1];have hb:=b.toNat_lt;have ha:=a.toNat_lt;have hle:b.toNat<=q.length:=by
   have:(a::b::q).length=q.length+2:=rfl;omega
  have e1:B (⟨(((a::b::q).drop 2).take b.toNat).toArray⟩:ByteArray)=q.take b.toNat:=rfl;unfold jV;simp only [e1];have e2:(q.take b.toNat).length=b.toNat:=by simp;omega
  have e3:UInt8.ofNat (q.take b.toNat).length=b:=by rw[e2];apply UInt8.toNat_inj.1;rw[UInt8.toNat_ofNat'];omega
  rw[e3];have e4:qc ((⟨(((a::b::q).drop 2).take b.toNat).toArray⟩,((a.toNat % 128:Nat):Int),decide (128<=a.toNat)):Col)=a:=by
   unfold qc;simp only;apply UInt8.toNat_inj.1;split<;>rename_i hh
   ·have:=of_decide_eq_true hh;rw[UInt8.toNat_ofNat',Int.toNat_natCast];omega
   ·have:=of_decide_eq_false (Bool.eq_false_iff.2 hh);rw[UInt8.toNat_ofNat',Int.toNat_natCast];omega
  rw[e4];have e5:(a::b::q).drop (2+b.toNat)=q.drop b.toNat:=by rw[Nat.add_comm];rfl
  rw[e5];simp
theorem zgy:∀ {n:Nat} {s:List UInt8} {cs:List Col} {r:List UInt8},xY n s=some (cs,r)->cs.length=n/\cs.flatMap jV++r=s
 |0,s,cs,r,h=>by
  injection h with h;injection h with h1 h2;subst h1 h2;exact⟨rfl,rfl⟩
 |n+1,s,cs,r,h=>by
  unfold xY at h;split at h
  ·cases h
  rename_i c q hc;split at h
  ·cases h
  rename_i cs' r' hr;injection h with h;injection h with h1 h2;subst h1 h2
  obtain⟨h3,h4⟩:=zgy hr;refine⟨by simp[h3],?_⟩;rw[flatMap_cons,append_assoc,h4];exact zlZ hc
theorem zl0 {s:List UInt8} {cs:List Col} {r:List UInt8} (h:xZ s=some (cs,r)):xo cs=0/\xL cs++r=s:=by
 cases s with
 |nil=>cases h
 |cons b q=>
  rw[xZ]at h;cases hr:xY b.toNat q with
  |none=>rw[hr]at h;cases h
  |some p=>
   obtain⟨cs',r'⟩:=p;rw[hr]at h;simp only at h
   by_cases hc:xo cs'=0
   ·rw[if_pos hc]at h;injection h with h;injection h with h1 h2;subst h1 h2
    obtain⟨h3,h4⟩:=zgy hr;refine⟨hc,?_⟩;unfold xL;rw[h3,List.cons_append,h4];congr 1;apply UInt8.toNat_inj.1;have:=b.toNat_lt;rw[UInt8.toNat_ofNat'];omega
   ·rw[if_neg hc]at h;cases h
theorem zcw {cs:List Col} (h:xo cs=0):1<=(xL cs).length/\(xL cs).length<=600:=by
 obtain⟨hlen,_,hok⟩:=zaK h;have h1:=za4 hok;have:=Nat.mul_le_mul_right 34 hlen.2;simp only [xL,length_cons];omega
end V
/- Catalogs:plain. -/
namespace V
open Go Go.Proofs Go.RowKit Crc
abbrev Ent:=ByteArray×List Col×Nat×Nat×Int
abbrev Snp:=ByteArray×Nat
abbrev Cat:=List Ent×List Snp
def za5:Cat:=([],[])
def zez (s:ByteArray):Bool:=decide (yi (B s)=0)
def ltB (a b:List UInt8):Bool:=match a,b with
 |_,[]=>false
 |[],_::_=>true
 |x::a,y::b=>decide (x.toNat<y.toNat)||(decide (x=y)&&ltB a b)
def yX {α:Type} (f:α->ByteArray):List α->Bool
 |[]=>true
 |[_]=>true
 |x::y::r=>ltB (B (f x)) (B (f y))&&yX f (y::r)
def jw (e:Ent):Bool:=decide (xo e.2.1=0)&&(decide (0<=e.2.2.2.2/\e.2.2.2.2<=4096)&&(decide (e.2.2.1=0↔e.2.2.2.2=0)&&decide (e.2.2.2.1<1099511627776)))
def yL {α:Type} (f:α->ByteArray) (l:List α):Bool:=(l.all fun x=>zez (f x))&&yX f l
def x5 (c:Cat):Bool:=decide (c.1.length<=16/\c.2.length<=16)&&(yL (fun e:Ent=>e.1) c.1&&(yL (fun s:Snp=>s.1) c.2&&c.1.all jw))
def vQ (n:Nat):UInt8:=UInt8.ofNat (min n 1)
def nmB (s:ByteArray):List UInt8:=UInt8.ofNat s.size::B s
def jx (e:Ent):List UInt8:=nmB e.1++(xL e.2.1++(le 8 e.2.2.2.1++(le 4 e.2.2.2.2.toNat++[vQ e.2.2.1])))
def jW (s:Snp):List UInt8:=nmB s.1++[vQ s.2]
def xU (c:Cat):List UInt8:=UInt8.ofNat c.1.length::(c.1.flatMap jx++UInt8.ofNat c.2.length::c.2.flatMap jW)
def kj (e:Ent):Ent:=(e.1,e.2.1,min e.2.2.1 1,e.2.2.2.1,e.2.2.2.2)
def kL (s:Snp):Snp:=(s.1,min s.2 1)
def ones (c:Cat):Cat:=(c.1.map kj,c.2.map kL)
def yo (n:Nat) (s:List UInt8):Option (List UInt8×List UInt8):=if s.length<n then none else some (s.take n,s.drop n)
def nmR (s:List UInt8):Option (ByteArray×List UInt8):=match yo 1 s with
 |none=>none
 |some (b,r)=>match yo (lev b) r with
  |none=>none
  |some (t,r')=>some (mkB t,r')
def jH (s:List UInt8):Option (Nat×List UInt8):=match yo 1 s with
 |none=>none
 |some (b,r)=>if lev b<=1 then some (lev b,r) else none
def ku (s:List UInt8):Option (Ent×List UInt8):=match nmR s with
 |none=>none
 |some (n,r1)=>match xZ r1 with
  |none=>none
  |some (cs,r2)=>match yo 8 r2 with
   |none=>none
   |some (x,r3)=>match yo 4 r3 with
    |none=>none
    |some (y,r4)=>match jH r4 with
     |none=>none
     |some (o,r5)=>some ((n,cs,o,lev x,(lev y:Int)),r5)
def kU (s:List UInt8):Option (Snp×List UInt8):=match nmR s with
 |none=>none
 |some (n,r1)=>match jH r1 with
  |none=>none
  |some (o,r2)=>some ((n,o),r2)
def qT {α:Type} (f:List UInt8->Option (α×List UInt8)):Nat->List UInt8->Option (List α×List UInt8)
 |0,s=>some ([],s)
 |n+1,s=>match f s with
  |none=>none
  |some (x,r)=>match qT f n r with
   |none=>none
   |some (l,r')=>some (x::l,r')
def zfU (s:List UInt8):Option Cat:=match yo 1 s with
 |none=>none
 |some (b,r)=>match qT ku (lev b) r with
  |none=>none
  |some (ts,r2)=>match yo 1 r2 with
   |none=>none
   |some (b2,r3)=>match qT kU (lev b2) r3 with
    |none=>none
    |some (ss,r4)=>if r4=[] then some (ts,ss) else none
def kM (s:List UInt8):Cat×Int:=match zfU s with
 |none=>(za5,240)
 |some c=>if x5 c then (c,0) else (za5,240)
def zdh (c:Cat):ByteArray×Int:=if x5 c then (mkB (xU c),0) else (ByteArray.empty,240)
theorem kV {n:Nat} {a:List UInt8} (h:a.length=n) (t:List UInt8):yo n (a++t)=some (a,t):=by
 unfold yo;rw[if_neg (by rw[length_append];omega),take_left' h,drop_left' h]
theorem ql {n:Nat} {s a t:List UInt8} (h:yo n s=some (a,t)):a.length=n/\a++t=s:=by
 unfold yo at h;split at h
 ·cases h
 ·injection h with h
  injection h with h1 h2
  subst h1 h2;exact⟨by rw[length_take];omega,List.take_append_drop n s⟩
theorem zfV (b:UInt8):lev [b]=b.toNat:=by simp[lev]
theorem zbv {n:Nat} (h:n<256):(UInt8.ofNat n).toNat=n:=by rw[UInt8.toNat_ofNat'];omega
theorem zjL {s:ByteArray} (h:s.size<256) (t:List UInt8):nmR (nmB s++t)=some (s,t):=by
 have e:nmB s++t=[UInt8.ofNat s.size]++(B s++t):=rfl;unfold nmR;rw[e,kV (n:=1) rfl];dsimp only;rw[zfV,zbv h,kV (n:=s.size) (yu s).symm];dsimp only;rw[zkc]
theorem zfW {s r:List UInt8} {n:ByteArray} (h:nmR s=some (n,r)):nmB n++r=s:=by
 unfold nmR at h;split at h
 ·cases h
 rename_i b q hb;split at h
 ·cases h
 rename_i t r' ht;injection h with h
 injection h with h1 h2
 subst h1 h2;obtain⟨h1,h2⟩:=ql hb;obtain⟨h3,h4⟩:=ql ht
 match b,h1 with
 |[x],_=>
  rw[zfV]at h3;unfold nmB;rw[xC,xF,h3,<- h2,<- h4];have:UInt8.ofNat x.toNat=x:=by apply UInt8.toNat_inj.1;exact zbv x.toNat_lt
  rw[this];rfl
theorem zh5 (n:Nat) (t:List UInt8):jH ([vQ n]++t)=some (min n 1,t):=by
 unfold jH;rw[kV (n:=1) rfl];dsimp only;have e:lev [vQ n]=min n 1:=by rw[zfV];unfold vQ;exact zbv (by omega)
 rw[e,if_pos (by omega)]
theorem zh6 {s r:List UInt8} {n:Nat} (h:jH s=some (n,r)):n<=1/\[vQ n]++r=s:=by
 unfold jH at h;split at h
 ·cases h
 rename_i b q hb;split at h
 ·rename_i hl;injection h with h
  injection h with h1 h2
  subst h1 h2;obtain⟨h1,h2⟩:=ql hb
  match b,h1 with
  |[x],_=>
   rw[zfV]at hl ⊢;refine⟨hl,?_⟩;rw[<- h2];have:vQ x.toNat=x:=by
    unfold vQ;apply UInt8.toNat_inj.1;rw[zbv (by omega)];omega
   rw[this]
 ·cases h
def zl1 (e:Ent):Prop:=e.1.size<256/\xo e.2.1=0/\e.2.2.2.1<18446744073709551616/\0<=e.2.2.2.2/\e.2.2.2.2<4294967296
theorem zqv {n:Nat} (h:n<4294967296):lev (le 4 n)=n:=by rw[zae];omega
theorem zog {e:Ent} (h:zl1 e) (t:List UInt8):ku (jx e++t)=some (kj e,t):=by
 obtain⟨h1,h2,h3,h4,h5⟩:=h;unfold ku jx;simp only [append_assoc];rw[zjL h1];dsimp only;rw[zje h2];dsimp only;rw[kV (n:=8) (zA _ _)];dsimp only;rw[kV (n:=4) (zA _ _)];dsimp only;rw[zh5];dsimp only;rw[zjA h3,zqv (by omega)];unfold kj;rw[show((e.2.2.2.2.toNat:Nat):Int)=e.2.2.2.2 by omega]
theorem zjM {n:Nat} {a:List UInt8} (h:a.length=n):le n (lev a)=a:=by rw[<- h];exact zli a
theorem zoh {s r:List UInt8} {e:Ent} (h:ku s=some (e,r)):jx e++r=s/\kj e=e/\xo e.2.1=0/\0<=e.2.2.2.2:=by
 unfold ku at h;split at h
 ·cases h
 rename_i n r1 g1;split at h
 ·cases h
 rename_i cs r2 g2;split at h
 ·cases h
 rename_i x r3 g3;split at h
 ·cases h
 rename_i y r4 g4;split at h
 ·cases h
 rename_i o r5 g5;injection h with h
 injection h with h1 h2
 subst h1 h2;have k1:=zfW g1;obtain⟨k2,k3⟩:=zl0 g2;obtain⟨k4,k5⟩:=ql g3;obtain⟨k6,k7⟩:=ql g4;obtain⟨k8,k9⟩:=zh6 g5;refine⟨?_,?_,k2,by show(0:Int)<=((lev y:Nat):Int);omega⟩
 ·unfold jx;dsimp only;rw[Int.toNat_natCast,zjM k4,zjM k6];simp only [append_assoc];rw[k9,k7,k5,k3,k1]
 ·unfold kj;dsimp only;rw[show min o 1=o by omega]
theorem zoi {s:Snp} (h:s.1.size<256) (t:List UInt8):kU (jW s++t)=some (kL s,t):=by
 unfold kU jW;rw[append_assoc,zjL h];dsimp only;rw[zh5];rfl
theorem zoj {s r:List UInt8} {x:Snp} (h:kU s=some (x,r)):jW x++r=s/\kL x=x:=by
 unfold kU at h;split at h
 ·cases h
 rename_i n r1 g1;split at h
 ·cases h
 rename_i o r2 g2;injection h with h
 injection h with h1 h2
 subst h1 h2;have k1:=zfW g1;obtain⟨k8,k9⟩:=zh6 g2;refine⟨?_,?_⟩
 ·unfold jW;dsimp only;rw[append_assoc,k9,k1]
 ·unfold kL;dsimp only;rw[show min o 1=o by omega]
theorem zdi {α:Type} {f:List UInt8->Option (α×List UInt8)} {g:α->List UInt8} {u:α->α}:∀ {l:List α},(∀ x∈l,∀ t,f (g x++t)=some (u x,t))->∀ t,qT f l.length (l.flatMap g++t)=some (l.map u,t)
 |[],_,t=>rfl
 |x::r,h,t=>by
  rw[length_cons,flatMap_cons,append_assoc,qT,h x mem_cons_self];dsimp only;rw[zdi (fun y hy=>h y (mem_cons_of_mem _ hy))];rfl
structure kN (c:Cat):Prop where
 tabs:c.1.length<=16
 snaps:c.2.length<=16
 ents:∀ e∈c.1,yi (B e.1)=0/\xo e.2.1=0/\(0<=e.2.2.2.2/\e.2.2.2.2<=4096)/\(e.2.2.1=0↔e.2.2.2.2=0)/\e.2.2.2.1<1099511627776
 snps:∀ s∈c.2,yi (B s.1)=0
 rt:yX (fun e:Ent=>e.1) c.1=true
 rs:yX (fun s:Snp=>s.1) c.2=true
theorem qU {c:Cat}:x5 c=true↔kN c:=by
 unfold x5 yL jw zez;simp only [Bool.and_eq_true,decide_eq_true_iff,List.all_eq_true];constructor
 ·rintro⟨⟨h1,h2⟩,⟨h3,h4⟩,⟨h5,h6⟩,h7⟩;exact⟨h1,h2,fun e he=>⟨h3 e he,(h7 e he).1,(h7 e he).2.1,(h7 e he).2.2.1,(h7 e he).2.2.2⟩,h5,h4,h6⟩
 ·rintro⟨h1,h2,h3,h4,h5,h6⟩;exact⟨⟨h1,h2⟩,⟨fun e he=>(h3 e he).1,h5⟩,⟨h4,h6⟩,fun e he=>⟨(h3 e he).2.1,(h3 e he).2.2.1,(h3 e he).2.2.2.1,(h3 e he).2.2.2.2⟩⟩
theorem kN.fit {c:Cat} (h:kN c):∀ e∈c.1,zl1 e:=fun e he=>by
 obtain⟨h1,h2,h3,h4,h5⟩:=h.ents e he;have:=qy h1;have hs:=yu e.1;exact⟨by omega,h2,by omega,h3.1,by omega⟩
theorem zl2 {c:Cat} (h:kN c):zfU (xU c)=some (ones c):=by
 have l1:lev [UInt8.ofNat c.1.length]=c.1.length:=by rw[zfV];exact zbv (by have:=h.tabs;omega)
 have l2:lev [UInt8.ofNat c.2.length]=c.2.length:=by rw[zfV];exact zbv (by have:=h.snaps;omega)
 have e:xU c=[UInt8.ofNat c.1.length]++(c.1.flatMap jx++([UInt8.ofNat c.2.length]++(c.2.flatMap jW++[]))):=by unfold xU;simp
 rw[e];unfold zfU;rw[kV (n:=1) rfl];dsimp only;rw[l1,zdi (u:=kj) (fun x hx t=>zog (h.fit x hx) t)];dsimp only;rw[kV (n:=1) rfl];dsimp only;rw[l2,zdi (u:=kL) (fun x hx t=>zoi (by have:=qy (h.snps x hx);have:=yu x.1;omega) t)];rfl
theorem zdj {α:Type} {f:α->ByteArray} {u:α->α} (hu:∀ x,f (u x)=f x):∀ l:List α,yX f (l.map u)=yX f l
 |[]=>rfl
 |[_]=>rfl
 |x::y::r=>by
  have ih:=zdj hu (y::r);simp only [map_cons,yX,hu]at ih ⊢;rw[ih]
theorem kN.ones {c:Cat} (h:kN c):kN (ones c):=by
 refine⟨by simp[V.ones,h.tabs],by simp[V.ones,h.snaps],fun e he=>?_,fun s hs=>?_,?_,?_⟩
 ·obtain⟨x,hx,rfl⟩:=mem_map.1 he;obtain⟨h1,h2,h3,h4,h5⟩:=h.ents x hx;exact⟨h1,h2,h3,by show min x.2.2.1 1=0↔x.2.2.2.2=0;omega,h5⟩
 ·obtain⟨x,hx,rfl⟩:=mem_map.1 hs;exact h.snps x hx
 ·exact(zdj (u:=kj) (fun _=>rfl) c.1).trans h.rt
 ·exact(zdj (u:=kL) (fun _=>rfl) c.2).trans h.rs
theorem zkQ {c:Cat} (h:kN c):kM (xU c)=(ones c,0):=by
 unfold kM;rw[zl2 h];dsimp only;rw[if_pos (qU.2 h.ones)]
theorem zbw (s:ByteArray):(nmB s).length=s.size+1:=by unfold nmB;rw[length_cons,yu]
theorem kN.len {c:Cat} (h:kN c):(xU c).length<=11000:=by
 have h1:(c.1.flatMap jx).length<=c.1.length*646:=by
  have:∀ l:List Ent,(∀ e∈l,e∈c.1)->(l.flatMap jx).length<=l.length*646:=by
   intro l
   induction l with
   |nil=>intro _;simp
   |cons e r ih=>
    intro hl;have he:=h.ents e (hl e mem_cons_self);have n1:=qy he.1;have n2:=zcw he.2.1;have hs:=yu e.1;have:=ih (fun x hx=>hl x (mem_cons_of_mem _ hx));rw[flatMap_cons,length_append,length_cons];have:(jx e).length<=646:=by
     unfold jx;simp only [length_append,zbw,zA,length_singleton];omega
    omega
  exact this c.1 (fun _ hx=>hx)
 have h2:(c.2.flatMap jW).length<=c.2.length*34:=by
  have:∀ l:List Snp,(∀ e∈l,e∈c.2)->(l.flatMap jW).length<=l.length*34:=by
   intro l
   induction l with
   |nil=>intro _;simp
   |cons e r ih=>
    intro hl;have n1:=qy (h.snps e (hl e mem_cons_self));have hs:=yu e.1;have:=ih (fun x hx=>hl x (mem_cons_of_mem _ hx));rw[flatMap_cons,length_append,length_cons];have:(jW e).length<=34:=by
     unfold jW;simp only [length_append,zbw,length_singleton];omega
    omega
  exact this c.2 (fun _ hx=>hx)
 have:=h.tabs;have:=h.snaps;have e:=Nat.mul_le_mul_right 646 h.tabs;have e2:=Nat.mul_le_mul_right 34 h.snaps;unfold xU;rw[length_cons,length_append,length_cons];omega
end V
/- Contracts of the package catalog:Check. -/
namespace V
open Go Go.Proofs Go.RowKit Crc
abbrev Raw:=ByteArray×SLC×Nat×Nat×Int
def yM:Raw:=(ByteArray.empty,(none,0,0),0,0,0)
def zQ:Ent:=(ByteArray.empty,[],0,0,0)
def zL:Snp:=(ByteArray.empty,0)
def yv:Enc Raw where
 k:=5
 f e:=[.string e.1,.slice e.2.1.1 e.2.1.2.1 e.2.1.2.2,.int .u32 (e.2.2.1:Int),.int .u64 (e.2.2.2.1:Int),.int .i64 e.2.2.2.2]
 len _:=rfl
 one _:=by
  intro v hv
  simp only [mem_cons,not_mem_nil,or_false]at hv
  rcases hv with rfl|rfl|rfl|rfl|rfl<;>rfl
 pos:=by decide
def zI:Enc Snp where
 k:=2
 f e:=[.string e.1,.int .u32 (e.2:Int)]
 len _:=rfl
 one _:=by
  intro v hv
  simp only [mem_cons,not_mem_nil,or_false]at hv
  rcases hv with rfl|rfl<;>rfl
 pos:=by decide
abbrev zb6:List Lf:=[.str,.slc,.int .u32,.int .u64,.int .i64]
def zas (e:Raw):ByteArray×SLC×Int×Int×Int×Unit:=(e.1,e.2.1,(e.2.2.1:Int),(e.2.2.2.1:Int),e.2.2.2.2,())
abbrev zfk:List Lf:=[.str,.int .u32]
def za6 (e:Snp):ByteArray×Int×Unit:=(e.1,(e.2:Int),())
structure zfl (w:World) (r:Raw) (e:Ent):Prop where
 name:r.1=e.1
 rest:r.2.2=e.2.2
 cols:Sli qe w r.2.1.1 r.2.1.2.1 e.2.1
 cap:r.2.1.2.1<=r.2.1.2.2
theorem zfl.ext {w w':World} {r:Raw} {e:Ent} (h:zfl w r e) (he:Ext w w'):zfl w' r e:=⟨h.name,h.rest,h.cols.ext he,h.cap⟩
structure zbx (w:World) (x:SLC) (raws:List Raw) (es:List Ent):Prop where
 sl:Sli yv w x.1 x.2.1 raws
 len:raws.length=es.length
 at_:∀ i,i<es.length->zfl w (raws.getD i yM) (es.getD i zQ)
theorem zbx.ext {w w':World} {x:SLC} {raws:List Raw} {es:List Ent} (h:zbx w x raws es) (he:Ext w w'):zbx w' x raws es:=⟨h.sl.ext he,h.len,fun i hi=>(h.at_ i hi).ext he⟩
def yK (w:World) (x y:SLC) (c:Cat):Prop:=(∃ raws,zbx w x raws c.1)/\Sli zI w y.1 y.2.1 c.2/\x.2.1<=x.2.2/\y.2.1<=y.2.2
theorem yK.ext {w w':World} {x y:SLC} {c:Cat} (h:yK w x y c) (he:Ext w w'):yK w' x y c:=by
 obtain⟨⟨raws,h1⟩,h2,h3⟩:=h;exact⟨⟨raws,h1.ext he⟩,h2.ext he,h3⟩
def zF (x y:SLC):List Value:=[.slice x.1 x.2.1 x.2.2,.slice y.1 y.2.1 y.2.2]
theorem yw (x y:SLC):∀ v∈zF x y,v.oneCell'=true:=by
 intro v hv;simp only [zF,mem_cons,not_mem_nil,or_false]at hv;rcases hv with rfl|rfl<;>rfl
abbrev yH:List Lf:=[.slc,.slc]
def yF (x y:SLC):SLC×SLC×Unit:=(x,y,())
theorem zcx:∀ a b:List UInt8,Op.bytesLess a b=ltB a b
 |_,[]=>by cases ‹List UInt8›<;>rfl
 |[],_::_=>rfl
 |x::a,y::b=>by
  rw[Op.bytesLess,ltB,zcx a b];congr 1
theorem zat (a b:ByteArray):Op.bytesLess a.toList b.toList=ltB (B a) (B b):=by
 rw[ByteArray.toList_eq,ByteArray.toList_eq,zcx];rfl
theorem za7 {α:Type} {f:α->ByteArray}:∀ {l:List α} {i:Nat} {x y:α},l[i]?=some x->l[i+1]?=some y->yX f (l.take (i+2))=(yX f (l.take (i+1))&&ltB (B (f x)) (B (f y)))
 |[],_,_,_,h,_=>by simp at h
 |[a],i,x,y,h,h2=>by simp at h2
 |a::c::r,0,x,y,h,h2=>by
  simp only [List.getElem?_cons_zero,List.getElem?_cons_succ,Option.some.injEq]at h h2;subst h h2;simp[yX]
 |a::c::r,i+1,x,y,h,h2=>by
  have ih:=za7 (f:=f) (l:=c::r) (i:=i) (x:=x) (y:=y) (by simpa using h) (by simpa using h2);simp only [List.take_succ_cons,yX]at ih ⊢;rw[ih,Bool.and_assoc]
theorem zeA (s:ByteArray):zez s=true↔yi (B s)=0:=by unfold zez;rw[decide_eq_true_iff]
theorem zdk {α:Type} {f:α->ByteArray} {l:List α} {x:α} (h:x∈l) (hx:yi (B (f x))≠0):yL f l=false:=by
 cases hq:yL f l with
 |false=>rfl
 |true=>
  unfold yL at hq;rw[Bool.and_eq_true,List.all_eq_true]at hq;exact absurd ((zeA _).1 (hq.1 x h)) hx
theorem zb7 {α:Type} {f:α->ByteArray}:∀ {l:List α} (n:Nat),yX f l=true->yX f (l.take n)=true
 |[],n,_=>by simp[yX]
 |[a],n,_=>by cases n<;>simp[yX]
 |a::c::r,0,_=>rfl
 |a::c::r,1,_=>rfl
 |a::c::r,n+2,h=>by
  simp only [yX,Bool.and_eq_true]at h;have ih:=zb7 (f:=f) (l:=c::r) (n+1) h.2;simp only [List.take_succ_cons,yX,Bool.and_eq_true]at ih ⊢;exact⟨h.1,ih⟩
variable {w:World}
theorem za8 {r:Raw}:Calls prog 148 #[.agg (yv.f r).toArray] w (Ret fun v w'=>v=.string r.1/\Ext w w'):=by
 apply znc;unfold S148;refine zp fun r1 w1 hb1 he1 hr1 hz1=>?_;exact zJ r.1 hb1 (by rfl) ⟨rfl,he1⟩
theorem za9 {r:Snp}:Calls prog 150 #[.agg (zI.f r).toArray] w (Ret fun v w'=>v=.string r.1/\Ext w w'):=by
 apply zne;unfold S150;refine zp fun r1 w1 hb1 he1 hr1 hz1=>?_;exact zJ r.1 hb1 (by rfl) ⟨rfl,he1⟩
theorem zgP {x:SLC} {l:List Raw} (h:Sli yv w x.1 x.2.1 l):Calls prog 147 #[.slice x.1 x.2.1 x.2.2,.func (.func 148) #[] #[]] w (Ret fun v w'=>v=.bool (yL (fun e:Raw=>e.1) l)/\Ext w w'):=by
 have hl:=h.len;have hle:=h.le;apply znb;unfold S147;refine zy (fun q w'=>∃ i:Nat,i<=l.length/\q=((i:Int),())/\Ext w w'/\(∀ e∈l.take i,yi (B e.1)=0)/\yX (fun e:Raw=>e.1) (l.take i)=true) (fun q=>(l.length-q.1).toNat) ⟨0,by omega,rfl,Ext.refl w,by simp,rfl⟩ ?_;rintro _ w1 ⟨i,hi,rfl,he1,hn,hr⟩;dsimp only
 by_cases hlt:i<l.length
 ·refine zf (decide_eq_true (by omega)) ?_;refine vl (E:=yv) zas yM (h.ext he1) (fun _=>rfl) rfl (by omega) (by omega) ?_;rw[Int.toNat_natCast];have eg:l[i]?=some (l.getD i yM):=by rw[getD_eq_getElem?_getD,List.getElem?_eq_getElem hlt];rfl
  have hmem:=mem_of_getElem? eg;have htk:l.take (i+1)=l.take i++[l.getD i yM]:=by rw[take_succ_eq_append_getElem hlt,getD_eq_getElem?_getD,List.getElem?_eq_getElem hlt];rfl
  refine yh (vs:=yv.f (l.getD i yM)) (by rfl) (yv.one _) (fun r5 w2 hb2 he2 hr2=>?_) (by rfl);refine zN fun w3 he3 hz3 hh3=>?_;have hb3:=hb2.ext he3;refine zS (ls:=zb6) (zas (l.getD i yM)) hb3 (by rfl) ?_;refine xm (by kernel_rfl) ?_;refine zb za8 ?_;rintro _ w4 ⟨rfl,he4⟩;refine⟨_,rfl,?_⟩;refine zb (uI w4 _) ?_;rintro _ w5 ⟨rfl,he5⟩;refine⟨_,rfl,?_⟩;have he35:=he4.trans he5;have he05:=((he1.trans he2).trans he3).trans he35;refine zg (fun hq=>?_) (fun hq=>?_)
  ·have hq:=bne_iff_ne.1 hq;exact⟨by rw[zdk hmem hq],he05⟩
  have hq:=bne_eq_false_iff_eq.1 hq;have hn':∀ e∈l.take (i+1),yi (B e.1)=0:=fun e he=>by
   rw[htk]at he;rcases mem_append.1 he with e1|e1
   ·exact hn e e1
   ·rw[mem_singleton.1 e1];exact hq
  have hw:wrap .i64 ((i:Int)+1)=((i+1:Nat):Int):=by rw[wrap_i64 (by omega) (by omega)];rfl
  rw[hw]
  by_cases h0:i=0
  ·subst h0;refine zd (by rfl) ?_;refine⟨⟨1,by omega,rfl,he05,hn',?_⟩,by omega⟩;rw[htk];rfl
  ·refine zf (decide_eq_true (by omega)) ?_;rw[show wrap .i64 ((i:Int)-1)=((i-1:Nat):Int) by rw[wrap_i64 (by omega) (by omega)];omega];refine vl (E:=yv) zas yM (h.ext he05) (fun _=>rfl) rfl (by omega) (by omega) ?_;rw[Int.toNat_natCast];have hb5:=hb3.ext he35;refine zS (ls:=zb6) (zas (l.getD i yM)) hb5 (by rfl) ?_;refine xm (by kernel_rfl) ?_;refine zb (za8 (r:=l.getD (i-1) yM)) ?_;rintro _ w6 ⟨rfl,he6⟩;refine⟨_,rfl,?_⟩;have hb6:=hb5.ext he6;refine xz (fun p hp=>?_) ?_
   ·simp only [mem_cons,not_mem_nil,or_false]at hp;rcases hp with rfl|rfl|rfl|rfl|rfl<;>simp only [zx,hb6.cell]<;>rfl
   refine xm (by kernel_rfl) ?_;refine zb (za8 (r:=l.getD i yM)) ?_;rintro _ w7 ⟨rfl,he7⟩;refine⟨_,rfl,?_⟩;have he07:=(he05.trans he6).trans he7;rw[zat];have eg1:l[i-1]?=some (l.getD (i-1) yM):=by rw[getD_eq_getElem?_getD,List.getElem?_eq_getElem (by omega)];rfl
   have hst:=za7 (f:=fun e:Raw=>e.1) eg1 (by rw[show i-1+1=i by omega];exact eg);rw[show i-1+2=i+1 by omega,show i-1+1=i by omega,hr,Bool.true_and]at hst;refine zg (fun hq2=>?_) (fun hq2=>?_)
   ·refine⟨?_,he07⟩;have hq2:ltB (B (l.getD (i-1) yM).1) (B (l.getD i yM).1)=false:=by simpa using hq2
    have:yL (fun e:Raw=>e.1) l=false:=by
     cases hz:yL (fun e:Raw=>e.1) l with
     |false=>rfl
     |true=>
      unfold yL at hz;rw[Bool.and_eq_true]at hz;have:=zb7 (i+1) hz.2;rw[hst,hq2]at this;cases this
    rw[this]
   ·have hq2:ltB (B (l.getD (i-1) yM).1) (B (l.getD i yM).1)=true:=by simpa using hq2
    exact⟨⟨i+1,by omega,rfl,he07,hn',by rw[hst,hq2]⟩,by omega⟩
 ·obtain rfl:i=l.length:=by omega
  refine zd (decide_eq_false (by omega)) ?_;rw[take_of_length_le (by omega)]at hn hr;refine⟨?_,he1⟩;have:yL (fun e:Raw=>e.1) l=true:=by
   unfold yL;rw[hr,Bool.and_true,List.all_eq_true];exact fun e he=>(zeA _).2 (hn e he)
  rw[this]
end V
/- Contracts of the package catalog:Check. -/
namespace V
open Go Go.Proofs Go.RowKit Crc
variable {w:World}
theorem zgQ {x:SLC} {l:List Snp} (h:Sli zI w x.1 x.2.1 l):Calls prog 149 #[.slice x.1 x.2.1 x.2.2,.func (.func 150) #[] #[]] w (Ret fun v w'=>v=.bool (yL (fun e:Snp=>e.1) l)/\Ext w w'):=by
 have hl:=h.len;have hle:=h.le;apply znd;unfold S149;refine zy (fun q w'=>∃ i:Nat,i<=l.length/\q=((i:Int),())/\Ext w w'/\(∀ e∈l.take i,yi (B e.1)=0)/\yX (fun e:Snp=>e.1) (l.take i)=true) (fun q=>(l.length-q.1).toNat) ⟨0,by omega,rfl,Ext.refl w,by simp,rfl⟩ ?_;rintro _ w1 ⟨i,hi,rfl,he1,hn,hr⟩;dsimp only
 by_cases hlt:i<l.length
 ·refine zf (decide_eq_true (by omega)) ?_;refine vl (E:=zI) za6 zL (h.ext he1) (fun _=>rfl) rfl (by omega) (by omega) ?_;rw[Int.toNat_natCast];have eg:l[i]?=some (l.getD i zL):=by rw[getD_eq_getElem?_getD,List.getElem?_eq_getElem hlt];rfl
  have hmem:=mem_of_getElem? eg;have htk:l.take (i+1)=l.take i++[l.getD i zL]:=by rw[take_succ_eq_append_getElem hlt,getD_eq_getElem?_getD,List.getElem?_eq_getElem hlt];rfl
  refine yh (vs:=zI.f (l.getD i zL)) (by rfl) (zI.one _) (fun r5 w2 hb2 he2 hr2=>?_) (by rfl);refine zN fun w3 he3 hz3 hh3=>?_;have hb3:=hb2.ext he3;refine zS (ls:=zfk) (za6 (l.getD i zL)) hb3 (by rfl) ?_;refine xm (by kernel_rfl) ?_;refine zb za9 ?_;rintro _ w4 ⟨rfl,he4⟩;refine⟨_,rfl,?_⟩;refine zb (uI w4 _) ?_;rintro _ w5 ⟨rfl,he5⟩;refine⟨_,rfl,?_⟩;have he35:=he4.trans he5;have he05:=((he1.trans he2).trans he3).trans he35;refine zg (fun hq=>?_) (fun hq=>?_)
  ·have hq:=bne_iff_ne.1 hq;exact⟨by rw[zdk hmem hq],he05⟩
  have hq:=bne_eq_false_iff_eq.1 hq;have hn':∀ e∈l.take (i+1),yi (B e.1)=0:=fun e he=>by
   rw[htk]at he;rcases mem_append.1 he with e1|e1
   ·exact hn e e1
   ·rw[mem_singleton.1 e1];exact hq
  have hw:wrap .i64 ((i:Int)+1)=((i+1:Nat):Int):=by rw[wrap_i64 (by omega) (by omega)];rfl
  rw[hw]
  by_cases h0:i=0
  ·subst h0;refine zd (by rfl) ?_;refine⟨⟨1,by omega,rfl,he05,hn',?_⟩,by omega⟩;rw[htk];rfl
  ·refine zf (decide_eq_true (by omega)) ?_;rw[show wrap .i64 ((i:Int)-1)=((i-1:Nat):Int) by rw[wrap_i64 (by omega) (by omega)];omega];refine vl (E:=zI) za6 zL (h.ext he05) (fun _=>rfl) rfl (by omega) (by omega) ?_;rw[Int.toNat_natCast];have hb5:=hb3.ext he35;refine zS (ls:=zfk) (za6 (l.getD i zL)) hb5 (by rfl) ?_;refine xm (by kernel_rfl) ?_;refine zb (za9 (r:=l.getD (i-1) zL)) ?_;rintro _ w6 ⟨rfl,he6⟩;refine⟨_,rfl,?_⟩;have hb6:=hb5.ext he6;refine xz (fun p hp=>?_) ?_
   ·simp only [mem_cons,not_mem_nil,or_false]at hp;rcases hp with rfl|rfl<;>simp only [zx,hb6.cell]<;>rfl
   refine xm (by kernel_rfl) ?_;refine zb (za9 (r:=l.getD i zL)) ?_;rintro _ w7 ⟨rfl,he7⟩;refine⟨_,rfl,?_⟩;have he07:=(he05.trans he6).trans he7;rw[zat];have eg1:l[i-1]?=some (l.getD (i-1) zL):=by rw[getD_eq_getElem?_getD,List.getElem?_eq_getElem (by omega)];rfl
   have hst:=za7 (f:=fun e:Snp=>e.1) eg1 (by rw[show i-1+1=i by omega];exact eg);rw[show i-1+2=i+1 by omega,show i-1+1=i by omega,hr,Bool.true_and]at hst;refine zg (fun hq2=>?_) (fun hq2=>?_)
   ·refine⟨?_,he07⟩;have hq2:ltB (B (l.getD (i-1) zL).1) (B (l.getD i zL).1)=false:=by simpa using hq2
    have:yL (fun e:Snp=>e.1) l=false:=by
     cases hz:yL (fun e:Snp=>e.1) l with
     |false=>rfl
     |true=>
      unfold yL at hz;rw[Bool.and_eq_true]at hz;have:=zb7 (i+1) hz.2;rw[hst,hq2]at this;cases this
    rw[this]
   ·have hq2:ltB (B (l.getD (i-1) zL).1) (B (l.getD i zL).1)=true:=by simpa using hq2
    exact⟨⟨i+1,by omega,rfl,he07,hn',by rw[hst,hq2]⟩,by omega⟩
 ·obtain rfl:i=l.length:=by omega
  refine zd (decide_eq_false (by omega)) ?_;rw[take_of_length_le (by omega)]at hn hr;refine⟨?_,he1⟩;have:yL (fun e:Snp=>e.1) l=true:=by
   unfold yL;rw[hr,Bool.and_true,List.all_eq_true];exact fun e he=>(zeA _).2 (hn e he)
  rw[this]
def zl3 (g:FuncId) (cap:Array Value) (q:Nat->Bool) (w:World) (l:List Raw):Prop:=∀ (w':World) i,Ext w w'->i<l.length->Calls prog g ([Value.agg (yv.f (l.getD i yM)).toArray]++cap.toList).toArray w' (Ret fun v w''=>v=.bool (q i)/\Ext w' w'')
def yE (q:Nat->Bool) (n:Nat):Nat:=(List.range n).findIdx q
theorem zaL {q:Nat->Bool} {n:Nat} (h:yE q n<n):q (yE q n)=true:=by
 unfold yE at h ⊢;have h2:(List.range n).findIdx q<(List.range n).length:=by rw[length_range];exact h
 have:=List.findIdx_getElem (p:=q) (xs:=List.range n) (w:=h2)
 rwa [getElem_range]at this
theorem zb8 {q:Nat->Bool} {n i:Nat} (h:i<yE q n):q i=false:=by
 unfold yE at h;have h2:=List.not_of_lt_findIdx h;rw[getElem_range]at h2
 simpa using h2
theorem zdl {q:Nat->Bool} {n:Nat}:yE q n<=n:=by
 unfold yE;have:=List.findIdx_le_length (p:=q) (xs:=List.range n)
 rwa [length_range]at this
theorem zh7 {x:SLC} {l:List Raw} {g:FuncId} {cap:Array Value} {q:Nat->Bool} (hg:enterable prog g=true) (h:Sli yv w x.1 x.2.1 l) (ht:zl3 g cap q w l):
  Calls prog 170 #[.slice x.1 x.2.1 x.2.2,.func (.func g) #[] cap] w (Ret fun v w'=>v=.int .i64 (if yE q l.length<l.length then (yE q l.length:Int) else -1)/\Ext w w'):=by
 have hl:=h.len;have hle:=h.le;apply znu;unfold S170;refine zy (fun y w'=>∃ i:Nat,i<=l.length/\y=((i:Int),())/\Ext w w'/\i<=yE q l.length) (fun y=>(l.length-y.1).toNat) ⟨0,by omega,rfl,Ext.refl w,by omega⟩ ?_;rintro _ w1 ⟨i,hi,rfl,he1,hf⟩;dsimp only
 by_cases hlt:i<l.length
 ·refine zf (decide_eq_true (by omega)) ?_;refine vl (E:=yv) zas yM (h.ext he1) (fun _=>rfl) rfl (by omega) (by omega) ?_;rw[Int.toNat_natCast];refine xm hg ?_;refine zb (ht w1 i he1 hlt) ?_;rintro _ w2 ⟨rfl,he2⟩;refine⟨_,rfl,?_⟩;refine zg (fun hd=>?_) (fun hd=>?_)
  ·have hfi:yE q l.length=i:=by
    rcases Nat.lt_or_ge i (yE q l.length) with h1|h1
    ·have:=zb8 h1;rw[hd]at this;cases this
    ·omega
   refine⟨?_,he1.trans he2⟩;rw[hfi,if_pos hlt]
  ·rw[wrap_i64 (by omega) (by omega)];refine⟨⟨i+1,by omega,rfl,he1.trans he2,?_⟩,by omega⟩;rcases Nat.lt_or_ge i (yE q l.length) with h1|h1
   ·omega
   ·have hfi:yE q l.length=i:=by omega
    have:=zaL (q:=q) (n:=l.length) (by omega);rw[hfi,hd]at this;cases this
 ·obtain rfl:i=l.length:=by omega
  refine zd (decide_eq_false (by omega)) ?_;exact⟨by rw[if_neg (by omega)],he1⟩
theorem zfm {x:SLC} {l:List Raw} {g:FuncId} {cap:Array Value} {q:Nat->Bool} (hg:enterable prog g=true) (h:Sli yv w x.1 x.2.1 l) (ht:zl3 g cap q w l):
  Calls prog 151 #[.slice x.1 x.2.1 x.2.2,.func (.func g) #[] cap] w (Ret fun v w'=>v=.bool (decide (yE q l.length<l.length))/\Ext w w'):=by
 apply znf;unfold S151;refine zb (zh7 hg h ht) ?_;rintro _ w1 ⟨rfl,he1⟩;refine⟨_,rfl,?_,he1⟩
 by_cases hq:yE q l.length<l.length
 ·rw[if_pos hq,decide_eq_true hq,decide_eq_true (by omega)]
 ·rw[if_neg hq,decide_eq_false hq];rfl
theorem zl4 {r:Raw} {e:Ent} (h:zfl w r e):Calls prog 152 #[.agg (yv.f r).toArray] w (Ret fun v w'=>v=.bool (!jw e)/\Ext w w'):=by
 obtain⟨h1,h2,h3,h4⟩:=h;apply zng;unfold S152;refine zp fun r1 w1 hb1 he1 hr1 hz1=>?_;have hb1:Blk w1 r1 (yv.f r) 42:=hb1;refine zm 1 r.2.1 hb1 (by rfl) ?_;refine zb (zar (h3.ext he1) h4) ?_;rintro _ w2 ⟨rfl,he2⟩;refine⟨_,rfl,?_⟩;have hb2:=hb1.ext he2;have he:=he1.trans he2;have e1:r.2.2.1=e.2.2.1:=by rw[h2]
 have e2:r.2.2.2.1=e.2.2.2.1:=by rw[h2]
 have e3:r.2.2.2.2=e.2.2.2.2:=by rw[h2]
 unfold jw;refine zg (fun hq=>?_) (fun hq=>?_)
 ·have hq:=bne_iff_ne.1 hq;exact⟨by rw[decide_eq_false hq];rfl,he⟩
 have hq:=bne_eq_false_iff_eq.1 hq;rw[decide_eq_true hq,Bool.true_and];refine zm 4 r.2.2.2.2 hb2 (by rfl) ?_;rw[e3];refine zg (fun hq=>?_) (fun hq1=>?_)
 ·have hq:=of_decide_eq_true hq;exact⟨by rw[decide_eq_false (by omega)];rfl,he⟩
 have hq1:=of_decide_eq_false hq1;refine zm 4 r.2.2.2.2 hb2 (by rfl) ?_;rw[e3];refine zg (fun hq=>?_) (fun hq2=>?_)
 ·have hq:=of_decide_eq_true hq;exact⟨by rw[decide_eq_false (by omega)];rfl,he⟩
 have hq2:=of_decide_eq_false hq2;rw[decide_eq_true (p:=0<=e.2.2.2.2/\e.2.2.2.2<=4096) (by omega),Bool.true_and];refine zm 2 ((r.2.2.1:Nat):Int) hb2 (by rfl) ?_;refine zm 4 r.2.2.2.2 hb2 (by rfl) ?_;rw[e3,e1];have eb:(((e.2.2.1:Nat):Int)==0)=decide (e.2.2.1=0):=by
  rw[Bool.eq_iff_iff,beq_iff_eq,decide_eq_true_iff];omega
 have eb2:(e.2.2.2.2==0)=decide (e.2.2.2.2=0):=by
  rw[Bool.eq_iff_iff,beq_iff_eq,decide_eq_true_iff]
 rw[eb,eb2];refine zg (fun hq=>?_) (fun hq3=>?_)
 ·refine⟨?_,he⟩;have:¬(e.2.2.1=0↔e.2.2.2.2=0):=by
   intro hh
   by_cases h0:e.2.2.1=0
   ·rw[decide_eq_true h0,decide_eq_true (hh.1 h0)]at hq;cases hq
   ·rw[decide_eq_false h0,decide_eq_false (fun e=>h0 (hh.2 e))]at hq;cases hq
  rw[decide_eq_false this];rfl
 have hh:e.2.2.1=0↔e.2.2.2.2=0:=by
  have:decide (e.2.2.1=0)=decide (e.2.2.2.2=0):=by simpa using hq3
  exact decide_eq_decide.1 this
 rw[decide_eq_true hh,Bool.true_and];refine zm 3 ((r.2.2.2.1:Nat):Int) hb2 (by rfl) ?_;rw[e2];refine⟨?_,he⟩;congr 1
 by_cases h0:e.2.2.2.1<1099511627776
 ·rw[decide_eq_true h0,decide_eq_false (by omega)];rfl
 ·rw[decide_eq_false h0,decide_eq_true (by omega)];rfl
theorem zl5 {raws:List Raw} {es:List Ent} (hl:raws.length=es.length) (h:∀ i,i<es.length->(raws.getD i yM).1=(es.getD i zQ).1):yL (fun e:Raw=>e.1) raws=yL (fun e:Ent=>e.1) es:=by
 have e1:raws.map (fun e=>e.1)=es.map (fun e=>e.1):=by
  refine List.ext_getElem (by simp[hl]) (fun i h1 h2=>?_);have h1':i<raws.length:=by simpa using h1
  have h2':i<es.length:=by simpa using h2
  have:=h i h2';rw[getD_eq_getElem?_getD,List.getElem?_eq_getElem h1',getD_eq_getElem?_getD,List.getElem?_eq_getElem h2']at this
  simpa using this
 have g1:∀ {α:Type} (f:α->ByteArray) (l:List α),yX f l=yX id (l.map f):=by
  intro α f l
  induction l with
  |nil=>rfl
  |cons a r ih=>
   cases r with
   |nil=>rfl
   |cons c r=>simp only [yX,map_cons,id]at ih ⊢;rw[ih]
 have g2:∀ {α:Type} (f:α->ByteArray) (l:List α),(l.all fun x=>zez (f x))=(l.map f).all zez:=by
  intro α f l;simp[List.all_map,Function.comp_def]
 unfold yL;rw[g1 _ raws,g1 _ es,g2 _ raws,g2 _ es,e1]
theorem zby {x y:SLC} {c:Cat} (h:yK w x y c):Calls prog 115 #[.agg (zF x y).toArray] w (Ret fun v w'=>v=.int .i64 (if x5 c then 0 else 240)/\Ext w w'):=by
 obtain⟨⟨raws,hT⟩,hs,hcx,hcy⟩:=h;have hxl:=hT.sl.len;have hyl:=hs.len;have hlr:=hT.len;apply zmP;unfold S115;refine zp fun r1 w1 hb1 he1 hr1 hz1=>?_;have hb1:Blk w1 r1 (zF x y) 30:=hb1;refine yq (fun t w'=>t=(decide (c.1.length>16\/c.2.length>16),())/\w'=w1) ?_ (fun J hJ=>?_);rotate_left
 ·refine zJ x hb1 (by rfl) ?_;refine zg (fun hq=>?_) (fun hq=>?_)
  ·have hq:=of_decide_eq_true hq;exact hJ _ _ ⟨by rw[decide_eq_true (.inl (by omega))],rfl⟩
  ·have hq:=of_decide_eq_false hq;refine zm 1 y hb1 (by rfl) ?_;refine hJ _ _ ⟨?_,rfl⟩
   by_cases h2:c.2.length>16
   ·rw[decide_eq_true (show(y.2.1:Int)>16 by omega),decide_eq_true (.inr h2)]
   ·rw[decide_eq_false (show ¬(y.2.1:Int)>16 by omega),decide_eq_false (by omega)]
 rintro _ _ ⟨rfl,rfl⟩;dsimp only;unfold x5;refine zg (fun hq=>?_) (fun hq=>?_)
 ·have hq:=of_decide_eq_true hq;exact⟨by rw[decide_eq_false (by omega)];rfl,he1⟩
 have hq:=of_decide_eq_false hq;rw[decide_eq_true (p:=c.1.length<=16/\c.2.length<=16) (by omega),Bool.true_and];refine zJ x hb1 (by rfl) ?_;refine zb (zgP (hT.sl.ext he1)) ?_;rintro _ w2 ⟨rfl,he2⟩;refine⟨_,rfl,?_⟩;rw[zl5 hlr (fun i hi=>(hT.at_ i hi).name)];have he02:=he1.trans he2;refine zg (fun hq=>?_) (fun hq1=>?_)
 ·have hq:yL (fun e:Ent=>e.1) c.1=false:=by simpa using hq
  exact⟨by rw[hq];rfl,he02⟩
 have hq1:yL (fun e:Ent=>e.1) c.1=true:=by simpa using hq1
 rw[hq1,Bool.true_and];have hb2:=hb1.ext he2;refine zm 1 y hb2 (by rfl) ?_;refine zb (zgQ (hs.ext he02)) ?_;rintro _ w3 ⟨rfl,he3⟩;refine⟨_,rfl,?_⟩;have he03:=he02.trans he3;refine zg (fun hq=>?_) (fun hq2=>?_)
 ·have hq:yL (fun e:Snp=>e.1) c.2=false:=by simpa using hq
  exact⟨by rw[hq];rfl,he03⟩
 have hq2:yL (fun e:Snp=>e.1) c.2=true:=by simpa using hq2
 rw[hq2,Bool.true_and];refine zJ x (hb2.ext he3) (by rfl) ?_;refine zb (zfm (q:=fun i=>!jw (c.1.getD i zQ)) (by kernel_rfl) (hT.sl.ext he03) (fun w' i he hi=>zl4 (((hT.at_ i (by omega)).ext he03).ext he))) ?_;rintro _ w4 ⟨rfl,he4⟩;refine⟨_,rfl,?_⟩;have he04:=he03.trans he4;rw[hlr]
 by_cases hf:yE (fun i=>!jw (c.1.getD i zQ)) c.1.length<c.1.length
 ·refine zf (decide_eq_true hf) ⟨?_,he04⟩;have h1:=zaL hf;have:c.1.all jw=false:=by
   cases hz:c.1.all jw with
   |false=>rfl
   |true=>
    rw[List.all_eq_true]at hz;rw[getD_eq_getElem?_getD,List.getElem?_eq_getElem hf]at h1;have:=hz _ (getElem_mem hf);simp only [Option.getD_some]at h1;rw[this]at h1;cases h1
  rw[this];rfl
 ·refine zd (decide_eq_false hf) ⟨?_,he04⟩;have:c.1.all jw=true:=by
   rw[List.all_eq_true];intro e he;obtain⟨i,hi,rfl⟩:=mem_iff_getElem.1 he;have:=zb8 (q:=fun i=>!jw (c.1.getD i zQ)) (n:=c.1.length) (i:=i) (by omega);rw[getD_eq_getElem?_getD,List.getElem?_eq_getElem hi]at this
   simpa using this
  rw[this];rfl
end V
/- Contracts of the package catalog:Bytes. -/
namespace V
open Go Go.Proofs Go.RowKit Crc
variable {w:World}
theorem Own.neB {w:World} {e t:TypeId} {B n c r:Nat} {A:Option Addr} {vs cs:List Value} (h:Own e w B A n c vs) (hb:Blk w r cs t) (he:e≠t):∀ j,orow A=some j->j≠r:=by
 intro j hj hr;subst hr;rcases h.2 with ⟨hv,_⟩|⟨g,cap,cur,hv,_,hg,_⟩
 ·injection hv with hv;subst hv;cases hj
 ·injection hv with hv
  subst hv;have e1:g=j:=Option.some.inj hj;subst e1;have hb':w.heap[g]?=some _:=hb;rw[hg]at hb';injection hb' with hb'
  injection hb' with _ e2 _
  exact he e2
theorem zfX {w:World} {B:Nat} {cs:Array Value} {e:TypeId} {K:Nat->WP} (hB:B<=w.heap.size) (hm:cs.size<=9223372036854775807) (h:∀ r w',Own e w' B (some ⟨r,0,none⟩) cs.size cs.size cs.toList->Ext w w'->w.heap.size=r->w'.heap.size=r+1->K r w'):zi (.cells cs e) K w:=
 h _ _ (Own.lit hB hm) ((Ext.refl w).alloc _) rfl (by simp)
theorem zok {w:World} {B:Nat} {A:Option Addr} {n c:Nat} {bs:List UInt8} (y:UInt8) {v:Int} {K:SLC->WP} (h:Own 5 w B A n c (bV bs)) (hB:B<=w.heap.size) (hv:v=(y.toNat:Int)) (hn:n+1<=140737488355328)
  (hK:∀ A' c' w',Own 5 w' B A' (n+1) c' (bV (bs++[y]))->Grew w w' (orow A) (orow A')->K (A',n+1,c') w'):
  (zi (.cells #[.int .u8 v] 5) fun r=>zv prog (Builtin.append_ #[119,119] 119 #[.slice A n c,.slice (some (aD r)) 1 1]) .slc K) w:=by
 subst hv;refine zeY (ys:=[Value.int .u8 (y.toNat:Int)]) qJ h hB (zbi [y]) (by simp;omega) (by omega) ?_;intro A' c' w' ho hg;refine hK A' c' w' ?_ hg;have:bV (bs++[y])=bV bs++[Value.int .u8 (y.toNat:Int)]:=by rw[xu];rfl
 rw[this];exact ho
theorem zcy {B:Nat} {A:Option Addr} {n c:Nat} {bs:List UInt8} {s:ByteArray} (h:Own 5 w B A n c (bV bs)) (hB:B<=w.heap.size) (hn:n<=1000000) (hs:s.size<=1000000):
  Calls prog 117 #[.slice A n c,.string s] w (Ret fun r w'=>∃ x:SLC,r=.slice x.1 x.2.1 x.2.2/\Own 5 w' B x.1 x.2.1 x.2.2 (bV (bs++nmB s))/\Grew w w' (orow A) (orow x.1)):=by
 apply zmR;unfold S117;rw[qu];refine zok (UInt8.ofNat s.size) h hB rfl (by omega) ?_;intro A1 c1 w1 h1 g1;have hs1:=g1.grown.size;dsimp only;refine zbO qJ (by kernel_rfl) h1 (by omega) (by omega) ?_;intro A2 c2 w2 h2 g2;refine⟨(A2,_,c2),rfl,?_,g1.step g2⟩;have:bs++nmB s=bs++[UInt8.ofNat s.size]++V.B s:=by simp[nmB]
 rw[this];exact h2
theorem zbz {B:Nat} {A:Option Addr} {n c:Nat} {bs:List UInt8} {k:Nat} (h:Own 5 w B A n c (bV bs)) (hB:B<=w.heap.size) (hn:n<=1000000):
  Calls prog 118 #[.slice A n c,.int .u32 (k:Int)] w (Ret fun r w'=>∃ x:SLC,r=.slice x.1 x.2.1 x.2.2/\Own 5 w' B x.1 x.2.1 x.2.2 (bV (bs++[vQ k]))/\Grew w w' (orow A) (orow x.1)):=by
 apply zmS;unfold S118;have e:wrap .u8 (if (1:Int)<(k:Int) then 1 else (k:Int))=((vQ k).toNat:Int):=by
  have:(if (1:Int)<(k:Int) then 1 else (k:Int))=((min k 1:Nat):Int):=by split<;>omega
  rw[this,qu];rfl
 refine zok (vQ k) h hB e (by omega) ?_;intro A1 c1 w1 h1 g1;exact⟨(A1,_,c1),rfl,h1,g1⟩
theorem zaM {α:Type} (f:α->List UInt8) (l:List α) (i:Nat):((l.take i).flatMap f).length<=(l.flatMap f).length:=by
 conv=>rhs;rw[<- List.take_append_drop i l]
 rw[flatMap_append,length_append];omega
theorem zqw {c:Cat} (h:kN c) (e:Ent) (he:e∈c.1):e.1.size<=32/\(xL e.2.1).length<=600:=by
 obtain⟨h1,h2,_⟩:=h.ents e he;have:=qy h1;have:=yu e.1;exact⟨by omega,(zcw h2).2⟩
theorem zfY {x y:SLC} {c:Cat} (h:yK w x y c):Calls prog 75 #[.agg (zF x y).toArray] w (Ret fun v w'=>v=.tuple #[.string (zdh c).1,.int .i64 (zdh c).2]/\Ext w w'):=by
 obtain⟨⟨raws,hT⟩,hs,hcx,hcy⟩:=id h;have hxl:=hT.sl.len;have hyl:=hs.len;have hlr:=hT.len;apply zpT;unfold S75;refine zp fun r1 w1 hb1 he1 hr1 hz1=>?_;have hb1:Blk w1 r1 (zF x y) 30:=hb1;refine zS (ls:=yH) (yF x y) hb1 (by rfl) ?_;refine zb (zby (h.ext he1)) ?_;rintro _ w2 ⟨rfl,he2⟩;refine⟨_,rfl,?_⟩;have he02:=he1.trans he2;have hb2:=hb1.ext he2;unfold zdh;cases hok:x5 c with
 |false=>exact zf (by rfl) ⟨rfl,he02⟩
 |true=>
 have hC:=qU.1 hok;have hlen:=hC.len;have ht16:=hC.tabs;have hs16:=hC.snaps;refine zd (by rfl) ?_;refine zJ x hb2 (by rfl) ?_;rw[qu,<- hxl,hlr];refine zfX (B:=w2.heap.size) (Nat.le_refl _) (by simp) fun r5 w3 ho0 he3 hr5 hz3=>?_;have ho0:Own 5 w3 w2.heap.size (some ⟨r5,0,none⟩) 1 1 (bV [UInt8.ofNat c.1.length]):=ho0;have he03:=he02.trans he3;have hb3:=hb2.ext he3;have hs2:=he02.size;have hr1l:=hb2.lt;refine zJ x hb3 (by rfl) ?_;have hcl:(xU c).length=(c.1.flatMap jx).length+((c.2.flatMap jW).length+2):=by
  unfold xU;rw[length_cons,length_append,length_cons];omega
 refine zy (fun q w'=>∃ (i:Nat) (A:Option Addr) (m k:Nat),i<=c.1.length/\q=((A,m,k),(i:Int),())/\Ext w w'/\w3.heap.size<=w'.heap.size/\Blk w' r1 (zF x y) 30/\Own 5 w' w2.heap.size A m k (bV (UInt8.ofNat c.1.length::(c.1.take i).flatMap jx))) (fun q=>(c.1.length-q.2.1).toNat)
  ⟨0,_,1,1,by omega,rfl,he03,Nat.le_refl _,hb3,ho0⟩ ?_
 rintro _ w4 ⟨i,A,m,k,hi,rfl,he4,hs4,hb4,ho⟩;dsimp only;have hm:=ho.sl.blen;rw[length_cons]at hm;have hle:=zaM jx c.1 i
 by_cases hlt:i<c.1.length
 ·refine zf (decide_eq_true (by omega)) ?_;refine vl (E:=yv) zas yM (hT.sl.ext he4) (fun _=>rfl) rfl (by omega) (by omega) ?_;rw[Int.toNat_natCast];have hE:=(hT.at_ i hlt).ext he4;have hmem:c.1.getD i zQ∈c.1:=by rw[getD_eq_getElem?_getD,List.getElem?_eq_getElem hlt];exact getElem_mem _
  have htk:c.1.take (i+1)=c.1.take i++[c.1.getD i zQ]:=by rw[take_succ_eq_append_getElem hlt,getD_eq_getElem?_getD,List.getElem?_eq_getElem hlt];rfl
  generalize c.1.getD i zQ=e at *;generalize raws.getD i yM=r at *;obtain⟨n1,n2⟩:=zqw hC e hmem;obtain⟨g1,g2,g3,g4,g5⟩:=hC.ents e hmem;refine yh (vs:=yv.f r) (by rfl) (yv.one _) (fun r11 w5 hb5 he5 hr5=>?_) (by rfl);have hE5:=hE.ext he5;refine zm 1 r.2.1 hb5 (by rfl) ?_;refine zb (zh4 hE5.cols hE5.cap) ?_;rintro _ w6 ⟨rfl,he6⟩;have eB:zdg e.2.1=(xL e.2.1,0):=by unfold zdg;rw[if_pos g2]
  rw[eB];refine⟨((⟨(xL e.2.1).toArray⟩:ByteArray),0,()),rfl,zd (by rfl) ?_⟩;have hb6:=hb5.ext he6;have he46:=he5.trans he6;have ho6:=ho.ext he46;have hb16:=hb4.ext he46;have hs46:=he46.size;refine zJ r.1 hb6 (by rfl) ?_;rw[hE.name];refine zb (zcy (s:=e.1) ho6 (by omega) (by omega) (by omega)) ?_;rintro _ w7 ⟨x7,rfl,ho7,g7⟩;refine⟨x7,rfl,?_⟩;have hs7:=g7.grown.size;have hm7:=ho7.sl.blen;rw[length_append,zbw,length_cons]at hm7;have hb7:=hb6.grown g7.grown (fun hh=>ho6.neB hb6 (by decide) _ hh.symm rfl);have hb17:=hb16.grown g7.grown (fun hh=>ho6.neB hb16 (by decide) _ hh.symm rfl);have e7:Ext w w7:=(he4.trans he46).grown g7.grown (fun j hj=>by have:=ho6.row' j hj;omega);have hszB:(⟨(xL e.2.1).toArray⟩:ByteArray).size=(xL e.2.1).length:=by rw[yu];rfl
  refine zbO qJ (by kernel_rfl) ho7 (by omega) (by dsimp only;omega) ?_;intro A8 c8 w8 ho8 g8;have hs8:=g8.grown.size;have hm8:=ho8.sl.blen;have hb8:=hb7.grown g8.grown (fun hh=>ho7.neB hb7 (by decide) _ hh.symm rfl);have hb18:=hb17.grown g8.grown (fun hh=>ho7.neB hb17 (by decide) _ hh.symm rfl);have e8:Ext w w8:=e7.grown g8.grown (fun j hj=>by have:=ho7.row' j hj;omega);refine zN fun w9 he9 hz9 hh9=>?_;have ho9:=ho8.ext he9;have hb9:=hb8.ext he9;have hb19:=hb18.ext he9;have e9:=e8.trans he9;refine zm 3 ((r.2.2.2.1:Nat):Int) hb9 (by rfl) ?_;refine zm 4 r.2.2.2.2 hb9 (by rfl) ?_;rw[hE.rest];refine zb (xy (k:=8) ho9 (by omega) (by dsimp only;omega) (by omega) (by omega) (by omega)) ?_;rintro _ w10 ⟨x10,rfl,ho10,g10⟩;refine⟨x10,rfl,?_⟩;have hs10:=g10.grown.size;have hm10:=ho10.sl.blen;rw[length_append,zA]at hm10;have hb10:=hb9.grown g10.grown (fun hh=>ho9.neB hb9 (by decide) _ hh.symm rfl);have hb110:=hb19.grown g10.grown (fun hh=>ho9.neB hb19 (by decide) _ hh.symm rfl);have e10:Ext w w10:=e9.grown g10.grown (fun j hj=>by have:=ho9.row' j hj;omega);refine xz (xd hb10 (by rw[<- hE.rest];rfl)) ?_;have ew:wrap .u64 e.2.2.2.2=((e.2.2.2.2.toNat:Nat):Int):=by
   rw[show e.2.2.2.2=((e.2.2.2.2.toNat:Nat):Int) by omega,zD (by omega)];rfl
  rw[ew];dsimp only at hm8 hm10;have hl8:x10.2.1=1+((c.1.take i).flatMap jx).length+(e.1.size+1)+(xL e.2.1).length+8:=by
   rw[length_append,length_append,length_cons,zbw]at hm10;rw[show(V.B (⟨(xL e.2.1).toArray⟩:ByteArray)).length=(xL e.2.1).length from rfl]at hm10;omega
  refine zb (xy (k:=4) ho10 (by omega) (by omega) (by omega) (by omega) (by omega)) ?_;rintro _ w11 ⟨x11,rfl,ho11,g11⟩;refine⟨x11,rfl,?_⟩;have hs11:=g11.grown.size;have hm11:=ho11.sl.blen;rw[length_append,zA]at hm11;have hm10':=ho10.sl.blen;have hb11:=hb10.grown g11.grown (fun hh=>ho10.neB hb10 (by decide) _ hh.symm rfl);have hb111:=hb110.grown g11.grown (fun hh=>ho10.neB hb110 (by decide) _ hh.symm rfl);have e11:Ext w w11:=e10.grown g11.grown (fun j hj=>by have:=ho10.row' j hj;omega);refine zm 2 ((r.2.2.1:Nat):Int) hb11 (by rfl) ?_;rw[hE.rest];refine zb (zbz (k:=e.2.2.1) ho11 (by omega) (by omega)) ?_;rintro _ w12 ⟨x12,rfl,ho12,g12⟩;refine⟨x12,rfl,?_⟩;have hs12:=g12.grown.size;have hb112:=hb111.grown g12.grown (fun hh=>ho11.neB hb111 (by decide) _ hh.symm rfl);have e12:Ext w w12:=e11.grown g12.grown (fun j hj=>by have:=ho11.row' j hj;omega);refine⟨⟨i+1,x12.1,x12.2.1,x12.2.2,by omega,by rw[wrap_i64 (by omega) (by omega)];rfl,e12,by omega,hb112,?_⟩,by rw[wrap_i64 (by omega) (by omega)];omega⟩;have eb:UInt8.ofNat c.1.length::(c.1.take (i+1)).flatMap jx=UInt8.ofNat c.1.length::(c.1.take i).flatMap jx++nmB e.1++V.B (⟨(xL e.2.1).toArray⟩:ByteArray)++le 8 e.2.2.2.1++le 4 e.2.2.2.2.toNat++[vQ e.2.2.1]:=by
   rw[htk,flatMap_append,show V.B (⟨(xL e.2.1).toArray⟩:ByteArray)=xL e.2.1 from rfl];simp[jx]
  rw[eb];exact ho12
 ·obtain rfl:i=c.1.length:=by omega
  refine zd (decide_eq_false (by omega)) ?_;rw[take_of_length_le (by omega)]at ho hm;refine zm 1 y hb4 (by rfl) ?_;rw[qu,<- hyl];refine zok (UInt8.ofNat c.2.length) ho (by omega) rfl (by omega) ?_;intro A5 c5 w5 ho5 g5;have hs5:=g5.grown.size;have hb5:=hb4.grown g5.grown (fun hh=>ho.neB hb4 (by decide) _ hh.symm rfl);have e5:Ext w w5:=he4.grown g5.grown (fun j hj=>by have:=ho.row' j hj;omega);refine zm 1 y hb5 (by rfl) ?_;dsimp only;generalize hpre:UInt8.ofNat c.1.length::c.1.flatMap jx++[UInt8.ofNat c.2.length]=pre at ho5;have hpl:pre.length=(c.1.flatMap jx).length+2:=by rw[<- hpre];simp
  refine zy (fun q w'=>∃ (i:Nat) (A:Option Addr) (m k:Nat),i<=c.2.length/\q=((A,m,k),(i:Int),())/\Ext w w'/\w3.heap.size<=w'.heap.size/\Blk w' r1 (zF x y) 30/\Own 5 w' w2.heap.size A m k (bV (pre++(c.2.take i).flatMap jW))) (fun q=>(c.2.length-q.2.1).toNat)
   ⟨0,A5,_,c5,by omega,rfl,e5,by omega,hb5,by simpa using ho5⟩ ?_
  rintro _ w6 ⟨i,A,m,k,hi,rfl,he6,hs6,hb6,ho⟩;dsimp only;have hm:=ho.sl.blen;rw[length_append]at hm;have hle:=zaM jW c.2 i
  by_cases hlt:i<c.2.length
  ·refine zf (decide_eq_true (by omega)) ?_;refine vl (E:=zI) za6 zL (hs.ext he6) (fun _=>rfl) rfl (by omega) (by omega) ?_;rw[Int.toNat_natCast];have hmem:c.2.getD i zL∈c.2:=by rw[getD_eq_getElem?_getD,List.getElem?_eq_getElem hlt];exact getElem_mem _
   have htk:c.2.take (i+1)=c.2.take i++[c.2.getD i zL]:=by rw[take_succ_eq_append_getElem hlt,getD_eq_getElem?_getD,List.getElem?_eq_getElem hlt];rfl
   generalize c.2.getD i zL=e at *;have hnm:=qy (hC.snps e hmem);have hsz:=yu e.1;refine yh (vs:=zI.f e) (by rfl) (zI.one _) (fun r31 w7 hb7 he7 hr7=>?_) (by rfl);refine zN fun w8 he8 hz8 hh8=>?_;have hb8:=hb7.ext he8;have he78:=he7.trans he8;have hs78:=he78.size;have ho8:=ho.ext he78;have hb18:=hb6.ext he78;refine zJ e.1 hb8 (by rfl) (zm 1 ((e.2:Nat):Int) hb8 (by rfl) ?_);refine zb (zcy (s:=e.1) ho8 (by omega) (by omega) (by omega)) ?_;rintro _ w9 ⟨x9,rfl,ho9,g9⟩;refine⟨x9,rfl,?_⟩;have hs9:=g9.grown.size;have hm9:=ho9.sl.blen;rw[length_append,length_append,zbw]at hm9;have hb9:=hb8.grown g9.grown (fun hh=>ho8.neB hb8 (by decide) _ hh.symm rfl);have hb19:=hb18.grown g9.grown (fun hh=>ho8.neB hb18 (by decide) _ hh.symm rfl);have e9:Ext w w9:=(he6.trans he78).grown g9.grown (fun j hj=>by have:=ho8.row' j hj;omega);refine xz (xd hb9 rfl) ?_;refine zb (zbz (k:=e.2) ho9 (by omega) (by omega)) ?_;rintro _ w10 ⟨x10,rfl,ho10,g10⟩;refine⟨x10,rfl,?_⟩;have hs10:=g10.grown.size;have hb110:=hb19.grown g10.grown (fun hh=>ho9.neB hb19 (by decide) _ hh.symm rfl);have e10:Ext w w10:=e9.grown g10.grown (fun j hj=>by have:=ho9.row' j hj;omega);refine⟨⟨i+1,x10.1,x10.2.1,x10.2.2,by omega,by rw[wrap_i64 (by omega) (by omega)];rfl,e10,by omega,hb110,?_⟩,by rw[wrap_i64 (by omega) (by omega)];omega⟩;have eb:pre++(c.2.take (i+1)).flatMap jW=pre++(c.2.take i).flatMap jW++nmB e.1++[vQ e.2]:=by
    rw[htk,flatMap_append];simp[jW]
   rw[eb];exact ho10
  ·obtain rfl:i=c.2.length:=by omega
   refine zd (decide_eq_false (by omega)) ?_;rw[take_of_length_le (by omega)]at ho;refine qY (e:=5) (by kernel_rfl) (by kernel_rfl) (by kernel_rfl) ho.sl ?_;refine⟨?_,he6⟩;have:pre++c.2.flatMap jW=xU c:=by rw[<- hpre];simp[xU]
   rw[this];rfl
end V
/- Contracts of the package catalog:the reader. -/
namespace V
open Go Go.Proofs Go.RowKit Crc
variable {w w':World} {r:Nat} {st:Option (List UInt8)}
def xe (w:World) (r:Nat) (st:Option (List UInt8)):Prop:=match st with
 |some l=>Blk w r [.string (mkB l),.int .i64 0] 216
 |none=>∃ s,Blk w r [.string s,.int .i64 240] 216
theorem xe.only {F:Nat->Prop} (h:xe w r st) (k:Only F w w') (hr:¬F r):xe w' r st:=by
 cases st with
 |some l=>exact Blk.only h k hr
 |none=>obtain⟨s,h⟩:=h;exact⟨s,h.only k hr⟩
theorem xe.ext (h:xe w r st) (he:Ext w w'):xe w' r st:=by
 cases st with
 |some l=>exact Blk.ext h he
 |none=>obtain⟨s,h⟩:=h;exact⟨s,h.ext he⟩
theorem zol (l:List UInt8) (n:Nat):(mkB l).extract 0 n=mkB (l.take n):=by
 apply j9;rw[jO,xC,xC];simp
theorem zom (l:List UInt8) (n:Nat):(mkB l).extract n (mkB l).size=mkB (l.drop n):=by
 apply j9;rw[jO,xC,xC,xF];rw[take_of_length_le (by rw[length_drop];omega)]
abbrev OnR (r:Nat) (w w':World):Prop:=Only (fun k=>k=r) w w'
def zb9 (r:Nat) (w w':World) (st':Option (List UInt8)):Prop:=xe w' r st'/\OnR r w w'
theorem kO (h:xe w r st) (n:Nat):Calls prog 161 #[.pointer (some ⟨r,0,none⟩),.int .i64 (n:Int)] w (Ret fun v w'=>v=.string (match st.bind (yo n) with|none=>ByteArray.empty|some p=>mkB p.1)/\zb9 r w w' ((st.bind (yo n)).map fun p=>p.2)):=by
 apply znn;unfold S161;cases st with
 |none=>
  obtain⟨s,hb⟩:=h;refine yq (fun _ w'=>w'=w) ?_ (fun J hJ=>zu ?_)
  ·rintro _ _ rfl;refine zu (zm 1 (240:Int) hb (by rfl) (zf (by rfl) ?_));exact⟨rfl,⟨s,hb⟩,Only.refl _ _⟩
  ·exact zm 1 (240:Int) hb (by rfl) (zd (by rfl) (hJ _ _ rfl))
 |some l=>
  have hb:Blk w r [.string (mkB l),.int .i64 0] 216:=h;have hsz:=xF l
  by_cases hn:l.length<n
  ·have ec:(some l).bind (yo n)=none:=by show yo n l=none;unfold yo;rw[if_pos hn]
   rw[ec];refine yq (fun _ w'=>Blk w' r [.string (mkB l),.int .i64 240] 216/\OnR r w w') ?_ (fun J hJ=>zu ?_)
   ·rintro _ w1 ⟨h1,h2⟩;refine zu (zm 1 (240:Int) h1 (by rfl) (zf (by rfl) ?_));exact⟨rfl,⟨_,h1⟩,h2⟩
   ·refine zm 1 (0:Int) hb (by rfl) (zf (by rfl) (zu ?_));refine zJ (mkB l) hb (by rfl) (zf (decide_eq_true (by omega)) (zu ?_));refine stE (o:=1) hb (by rw[zx]) (by show 1<2;omega) ?_;intro w1 h1 o1;exact hJ _ _ ⟨h1,o1⟩
  ·have ec:(some l).bind (yo n)=some (l.take n,l.drop n):=by show yo n l=_;unfold yo;rw[if_neg hn]
   rw[ec];refine yq (fun _ w'=>w'=w) ?_ (fun J hJ=>zu ?_)
   ·rintro _ _ rfl;refine zu (zm 1 (0:Int) hb (by rfl) (zd (by rfl) (zu ?_)));refine zJ (mkB l) hb (by rfl) (zH ⟨by omega,by omega⟩ (zu ?_));refine zJ (mkB l) hb (by rfl) (zH ⟨by omega,by omega⟩ (zu ?_));rw[Int.toNat_natCast,zol,zom];refine stE (o:=0) hb rfl (by show 0<2;omega) ?_;intro w1 h1 o1;exact⟨rfl,h1,o1⟩
   ·refine zm 1 (0:Int) hb (by rfl) (zf (by rfl) (zu ?_));exact zJ (mkB l) hb (by rfl) (zd (decide_eq_false (by omega)) (hJ _ _ rfl))
theorem zba (h:xe w r st) {n:Nat} (hn:n<=8):Calls prog 130 #[.pointer (some ⟨r,0,none⟩),.int .i64 (n:Int)] w (Ret fun v w'=>v=.int .u64 ((match st.bind (yo n) with|none=>0|some p=>lev p.1:Nat):Int)/\zb9 r w w' ((st.bind (yo n)).map fun p=>p.2)):=by
 apply zmZ;unfold S130;refine zb (kO h n) ?_;rintro _ w1 ⟨rfl,h1,o1⟩;refine⟨_,rfl,?_⟩;have hlen:(match st.bind (yo n) with|none=>ByteArray.empty|some p=>mkB p.1).size<=8:=by
  cases hq:st.bind (yo n) with
  |none=>exact Nat.zero_le _
  |some p=>
   show(mkB p.1).size<=8;rw[xF];cases st with
   |none=>cases hq
   |some l=>
    have:=(ql (show yo n l=some (p.1,p.2) from hq)).1;omega
 refine vk (u:=.string) (e:=5) (by kernel_rfl) (by kernel_rfl) (by kernel_rfl) (by omega) ?_;intro cc w2 hsl he2 hs2 hcc;refine zb (qZ hsl hlen) ?_;rintro _ w3 ⟨rfl,he3⟩;refine⟨_,rfl,?_,h1.ext (he2.trans he3),Only.trans o1 (Only.zz (F:=fun k=>k=r) (he2.trans he3)) (fun j hj=>.inl hj)⟩;congr 1;cases st.bind (yo n) with
 |none=>rfl
 |some p=>show((lev (V.B (mkB p.1)):Nat):Int)=_;rw[xC]
theorem OnR.trans {r:Nat} {a b c:World} (h:OnR r a b) (k:OnR r b c):OnR r a c:=Only.trans h k (fun j hj=>.inl hj)
theorem zh8 (h:xe w r st):Calls prog 131 #[.pointer (some ⟨r,0,none⟩)] w (Ret fun v w'=>v=.string (match st.bind nmR with|none=>ByteArray.empty|some p=>p.1)/\zb9 r w w' ((st.bind nmR).map fun p=>p.2)):=by
 apply zm0;unfold S131;refine zb (zba h (n:=1) (by omega)) ?_;rintro _ w1 ⟨rfl,h1,o1⟩;refine⟨_,rfl,?_⟩;cases st with
 |none=>
  refine zb (kO h1 0) ?_;rintro _ w2 ⟨rfl,h2,o2⟩;exact⟨_,rfl,rfl,h2,o1.trans o2⟩
 |some l=>
  show ze _ _ [_,.int .i64 (wrap .i64 (((match yo 1 l with|none=>0|some p=>lev p.1:Nat)):Int))] _ _ w1;have hn:(some l).bind nmR=nmR l:=rfl;rw[hn];unfold nmR;have h1:xe w1 r ((yo 1 l).map fun p=>p.2):=h1;cases hc:yo 1 l with
  |none=>
   rw[hc]at h1;refine zb (kO h1 0) ?_;rintro _ w2 ⟨rfl,h2,o2⟩;exact⟨_,rfl,rfl,h2,o1.trans o2⟩
  |some p=>
   obtain⟨q,t⟩:=p;rw[hc]at h1;obtain⟨c1,c2⟩:=ql hc;have hlv:lev q<256:=by
    have:=jM q;rw[c1]at this;exact this
   dsimp only;rw[wrap_i64 (by omega) (by omega)];refine zb (kO h1 (lev q)) ?_;rintro _ w2 ⟨rfl,h2,o2⟩;refine⟨_,rfl,?_⟩;have e:((some (q,t)).map fun p:List UInt8×List UInt8=>p.2).bind (yo (lev q))=yo (lev q) t:=rfl;rw[e]at h2 ⊢;cases hc2:yo (lev q) t with
   |none=>rw[hc2]at h2;exact⟨rfl,h2,o1.trans o2⟩
   |some p2=>rw[hc2]at h2;exact⟨rfl,h2,o1.trans o2⟩
theorem zcz (h:xe w r st):Calls prog 133 #[.pointer (some ⟨r,0,none⟩)] w (Ret fun v w'=>(∃ k:Nat,v=.int .u32 (k:Int)/\∀ p,st.bind jH=some p->k=p.1)/\zb9 r w w' ((st.bind jH).map fun p=>p.2)):=by
 apply zm2;unfold S133;refine zb (zba h (n:=1) (by omega)) ?_;rintro _ w1 ⟨rfl,h1,o1⟩;refine⟨_,rfl,zu ?_⟩;cases st with
 |none=>
  obtain⟨s,hb⟩:=h1;refine zm 1 (240:Int) hb (by rfl) (zd (by rfl) ?_);exact⟨⟨0,by rfl,fun p hp=>by cases hp⟩,⟨s,hb⟩,o1⟩
 |some l=>
  have hn:(some l).bind jH=jH l:=rfl;rw[hn];have h1:xe w1 r ((yo 1 l).map fun p=>p.2):=h1;show ldW _ _ _ w1;unfold jH;cases hc:yo 1 l with
  |none=>
   rw[hc]at h1;obtain⟨s,hb⟩:=h1;refine zm 1 (240:Int) hb (by rfl) (zd (by rfl) ?_);exact⟨⟨0,by show Value.int .u32 (wrap .u32 (((match yo 1 l with|none=>0|some p=>lev p.1:Nat)):Int))=_;rw[hc];rfl,fun p hp=>by cases hp⟩,⟨s,hb⟩,o1⟩
  |some p=>
   obtain⟨q,t⟩:=p;rw[hc]at h1;have hb:Blk w1 r [.string (mkB t),.int .i64 0] 216:=h1;obtain⟨c1,c2⟩:=ql hc;have hlv:lev q<256:=by
    have:=jM q;rw[c1]at this;exact this
   have ev:(match (some l).bind (yo 1) with|none=>0|some p=>lev p.1)=lev q:=by show(match yo 1 l with|none=>0|some p=>lev p.1)=_;rw[hc]
   rw[ev,show wrap .u32 ((lev q:Nat):Int)=((lev q:Nat):Int) by rw[wrap_u32];omega];refine zm 1 (0:Int) hb (by rfl) (zf (by rfl) ?_);dsimp only
   by_cases h1':lev q<=1
   ·rw[if_pos h1'];refine zd (decide_eq_false (by omega)) ?_;exact⟨⟨lev q,rfl,fun p hp=>by cases hp;rfl⟩,hb,o1⟩
   ·rw[if_neg h1'];refine zf (decide_eq_true (by omega)) (zu ?_);refine stE (o:=1) hb (by rw[zx]) (by show 1<2;omega) ?_;intro w2 h2 o2;exact⟨⟨lev q,rfl,fun p hp=>by cases hp⟩,⟨_,h2⟩,o1.trans o2⟩
theorem zh9 (h:xe w r st) (hr:r<w.heap.size) (hsz:∀ l,st=some l->l.length<=1000000):Calls prog 132 #[.pointer (some ⟨r,0,none⟩)] w (Ret fun v w'=>(∃ x:SLC,v=.slice x.1 x.2.1 x.2.2/\∀ p,st.bind xZ=some p->Owni qe 95 w' w.heap.size x.1 x.2.1 x.2.2 p.1)/\zb9 r w w' ((st.bind xZ).map fun p=>p.2)):=by
 apply zm1;unfold S132;refine zu ?_;cases st with
 |none=>
  obtain⟨s,hb⟩:=h;refine zm 1 (240:Int) hb (by rfl) (zf (by rfl) ?_);exact⟨⟨(none,0,0),rfl,fun p hp=>by cases hp⟩,⟨s,hb⟩,Only.refl _ _⟩
 |some l=>
  have hb:Blk w r [.string (mkB l),.int .i64 0] 216:=h;have hn:(some l).bind xZ=xZ l:=rfl;rw[hn];refine zm 1 (0:Int) hb (by rfl) (zd (by rfl) (zu ?_));refine zJ (mkB l) hb (by rfl) ?_;refine zb (zjd (s:=mkB l) (by rw[xF];have:=hsz l rfl;omega)) ?_;rintro _ w1 ⟨u,rfl,hR⟩;obtain⟨hR,he1⟩:=hR;rw[xC]at hR;have hb1:=hb.ext he1;cases hq:xZ l with
  |none=>
   rw[hq]at hR;have hR:u=((none,0,0),⟨#[]⟩,171,()):=hR;subst hR;refine⟨_,rfl,zf (by rfl) (zu ?_)⟩;refine stE (o:=1) hb1 (by rw[zx]) (by show 1<2;omega) ?_;intro w2 h2 o2;refine zu (stE (o:=0) h2 rfl (by show 0<2;omega) ?_);intro w3 h3 o3;exact⟨⟨(none,0,0),rfl,fun p hp=>by cases hp⟩,⟨_,h3⟩,(OnR.trans (Only.zz he1) o2).trans o3⟩
  |some p=>
   obtain⟨cs,t⟩:=p;rw[hq]at hR;obtain⟨a1,a2,a3⟩:=hR;obtain⟨u1,u2,u3,u4⟩:=u;dsimp only at a1 a2 a3;subst a2 a3;refine⟨(u1,⟨t.toArray⟩,0,()),rfl,zd (by rfl) (zu ?_)⟩;refine stE (o:=0) hb1 rfl (by show 0<2;omega) ?_;intro w2 h2 o2;refine⟨⟨u1,rfl,fun p hp=>?_⟩,h2,OnR.trans (Only.zz he1) o2⟩;cases hp;exact a1.only o2 (fun j hj e=>by have:=a1.row j hj;have:j=r:=e;omega)
end V
/- Contracts of the package catalog:Read. -/
namespace V
open Go Go.Proofs Go.RowKit Crc
variable {w w':World} {r:Nat} {st:Option (List UInt8)}
theorem zeB:qm prog 27 42 (.agg #[.string ByteArray.empty,.slice none 0 0,.int .u32 0,.int .u64 0,.int .i64 0]) 5 64:=⟨by kernel_rfl,by kernel_rfl,by kernel_rfl⟩
theorem je:qm prog 28 64 (.agg #[.string ByteArray.empty,.int .u32 0]) 2 24:=⟨by kernel_rfl,by kernel_rfl,by kernel_rfl⟩
structure xM (w:World) (B0:Nat) (r:Raw) (e:Ent):Prop where
 name:r.1=e.1
 rest:r.2.2=e.2.2
 cols:Owni qe 95 w B0 r.2.1.1 r.2.1.2.1 r.2.1.2.2 e.2.1
structure yA (w:World) (B0:Nat) (x:SLC) (raws:List Raw) (es:List Ent):Prop where
 row:Owni yv 42 w B0 x.1 x.2.1 x.2.2 raws
 len:raws.length=es.length
 at_:∀ i,i<es.length->xM w B0 (raws.getD i yM) (es.getD i zQ)
def yx (w:World) (B0:Nat) (x y:SLC) (c:Cat):Prop:=(∃ raws,yA w B0 x raws c.1)/\Owni zI 64 w B0 y.1 y.2.1 y.2.2 c.2
theorem yx.cat {B0:Nat} {x y:SLC} {c:Cat} (h:yx w B0 x y c):yK w x y c:=by
 obtain⟨⟨raws,h1⟩,h2⟩:=h;exact⟨⟨raws,h1.row.sl,h1.len,fun i hi=>⟨(h1.at_ i hi).name,(h1.at_ i hi).rest,(h1.at_ i hi).cols.sl,(h1.at_ i hi).cols.le.1⟩⟩,h2.sl,h1.row.le.1,h2.le.1⟩
theorem xM.only {F:Nat->Prop} {B0:Nat} {r:Raw} {e:Ent} (h:xM w B0 r e) (o:Only F w w') (hF:∀ k,F k->k<B0):xM w' B0 r e:=
 ⟨h.name,h.rest,h.cols.only o (fun j hj hf=>by have:=h.cols.row j hj;have:=hF j hf;omega)⟩
theorem xM.ext {B0:Nat} {r:Raw} {e:Ent} (h:xM w B0 r e) (he:Ext w w'):xM w' B0 r e:=⟨h.name,h.rest,h.cols.ext he⟩
theorem xM.lower {B0 B1:Nat} {r:Raw} {e:Ent} (h:xM w B0 r e) (hB:B1<=B0):xM w B1 r e:=⟨h.name,h.rest,h.cols.lower hB⟩
theorem yA.only {F:Nat->Prop} {B0:Nat} {x:SLC} {raws:List Raw} {es:List Ent} (h:yA w B0 x raws es) (o:Only F w w') (hF:∀ k,F k->k<B0):yA w' B0 x raws es:=
 ⟨h.row.only o (fun j hj hf=>by have:=h.row.row j hj;have:=hF j hf;omega),h.len,fun i hi=>(h.at_ i hi).only o hF⟩
theorem yA.ext {B0:Nat} {x:SLC} {raws:List Raw} {es:List Ent} (h:yA w B0 x raws es) (he:Ext w w'):yA w' B0 x raws es:=⟨h.row.ext he,h.len,fun i hi=>(h.at_ i hi).ext he⟩
theorem yA.lower {B0 B1:Nat} {x:SLC} {raws:List Raw} {es:List Ent} (h:yA w B0 x raws es) (hB:B1<=B0):yA w B1 x raws es:=⟨h.row.lower hB,h.len,fun i hi=>(h.at_ i hi).lower hB⟩
theorem yx.ext {B0:Nat} {x y:SLC} {c:Cat} (h:yx w B0 x y c) (he:Ext w w'):yx w' B0 x y c:=by
 obtain⟨⟨raws,h1⟩,h2⟩:=h;exact⟨⟨raws,h1.ext he⟩,h2.ext he⟩
theorem yx.only {F:Nat->Prop} {B0:Nat} {x y:SLC} {c:Cat} (h:yx w B0 x y c) (o:Only F w w') (hF:∀ k,F k->k<B0):yx w' B0 x y c:=by
 obtain⟨⟨raws,h1⟩,h2⟩:=h;exact⟨⟨raws,h1.only o hF⟩,h2.only o (fun j hj hf=>by have:=h2.row j hj;have:=hF j hf;omega)⟩
theorem yx.lower {B0 B1:Nat} {x y:SLC} {c:Cat} (h:yx w B0 x y c) (hB:B1<=B0):yx w B1 x y c:=by
 obtain⟨⟨raws,h1⟩,h2⟩:=h;exact⟨⟨raws,h1.lower hB⟩,h2.lower hB⟩
theorem zca (w:World) (B0:Nat):yx w B0 (none,0,0) (none,0,0) za5:=⟨⟨[],Owni.nil _ _ _,rfl,fun i hi=>by cases hi⟩,Owni.nil _ _ _⟩
theorem zl6 {l rr:List UInt8} {e:Ent} (h:ku l=some (e,rr)):∃ r1 r2 x r3 y r4,nmR l=some (e.1,r1)/\xZ r1=some (e.2.1,r2)/\yo 8 r2=some (x,r3)/\yo 4 r3=some (y,r4)/\jH r4=some (e.2.2.1,rr)/\e.2.2.2.1=lev x/\e.2.2.2.2=(lev y:Int):=by
 unfold ku at h;split at h
 ·cases h
 rename_i n r1 g1;split at h
 ·cases h
 rename_i cs r2 g2;split at h
 ·cases h
 rename_i x r3 g3;split at h
 ·cases h
 rename_i y r4 g4;split at h
 ·cases h
 rename_i o r5 g5;injection h with h
 injection h with h1 h2
 subst h1 h2;exact⟨r1,r2,x,r3,y,r4,g1,g2,g3,g4,g5,rfl,rfl⟩
def sN (st:Option (List UInt8)):Option (List UInt8):=(st.bind nmR).map fun p=>p.2
def sC (st:Option (List UInt8)):Option (List UInt8):=(st.bind xZ).map fun p=>p.2
def sK (n:Nat) (st:Option (List UInt8)):Option (List UInt8):=(st.bind (yo n)).map fun p=>p.2
def s1 (st:Option (List UInt8)):Option (List UInt8):=(st.bind jH).map fun p=>p.2
theorem zqx (l:List UInt8):s1 (sK 4 (sK 8 (sC (sN (some l)))))=(ku l).map fun p=>p.2:=by
 unfold ku sN;show s1 (sK 4 (sK 8 (sC ((nmR l).map fun p=>p.2))))=_;cases nmR l with
 |none=>rfl
 |some p1=>
  dsimp only [Option.map];show s1 (sK 4 (sK 8 ((xZ p1.2).map fun p=>p.2)))=_;cases xZ p1.2 with
  |none=>rfl
  |some p2=>
   dsimp only [Option.map];show s1 (sK 4 ((yo 8 p2.2).map fun p=>p.2))=_;cases yo 8 p2.2 with
   |none=>rfl
   |some p3=>
    dsimp only [Option.map];show s1 ((yo 4 p3.2).map fun p=>p.2)=_;cases yo 4 p3.2 with
    |none=>rfl
    |some p4=>
     dsimp only [Option.map];show(jH p4.2).map (fun p=>p.2)=_;cases jH p4.2 with
     |none=>rfl
     |some p5=>rfl
theorem zl7 {l rr:List UInt8} {e:Snp} (h:kU l=some (e,rr)):∃ r1,nmR l=some (e.1,r1)/\jH r1=some (e.2,rr):=by
 unfold kU at h;split at h
 ·cases h
 rename_i n r1 g1;split at h
 ·cases h
 rename_i o r2 g2;injection h with h
 injection h with h1 h2
 subst h1 h2;exact⟨r1,g1,g2⟩
theorem zqy (l:List UInt8):s1 (sN (some l))=(kU l).map fun p=>p.2:=by
 unfold kU sN;show s1 ((nmR l).map fun p=>p.2)=_;cases nmR l with
 |none=>rfl
 |some p1=>
  dsimp only [Option.map];show(jH p1.2).map (fun p=>p.2)=_;cases jH p1.2 with
  |none=>rfl
  |some p5=>rfl
theorem zjN {n:Nat} {l a t:List UInt8} (h:yo n l=some (a,t)):t.length<=l.length:=by
 have:=(ql h).2;rw[<- this,length_append];omega
theorem zra {l t:List UInt8} {s:ByteArray} (h:nmR l=some (s,t)):t.length<=l.length:=by
 rw[<- zfW h,length_append];omega
theorem zqz {l t:List UInt8} {e:Ent} (h:ku l=some (e,t)):t.length<=l.length:=by
 rw[<- (zoh h).1,length_append];omega
theorem zqA {l t:List UInt8} {e:Snp} (h:kU l=some (e,t)):t.length<=l.length:=by
 rw[<- (zoj h).1,length_append];omega
def Left {α:Type} (f:List UInt8->Option (α×List UInt8)) (tot:Option (List α×List UInt8)) (j:Nat) (acc:List α) (l:List UInt8):Prop:=tot=(qT f j l).map fun p=>(acc++p.1,p.2)
theorem Left.bad {α:Type} {f:List UInt8->Option (α×List UInt8)} {tot:Option (List α×List UInt8)} {j:Nat} {acc:List α} {l:List UInt8} (h:Left f tot (j+1) acc l) (hf:f l=none):tot=none:=by
 unfold Left qT at h;rw[hf]at h;exact h
theorem Left.step {α:Type} {f:List UInt8->Option (α×List UInt8)} {tot:Option (List α×List UInt8)} {j:Nat} {acc:List α} {l t:List UInt8} {x:α} (h:Left f tot (j+1) acc l) (hf:f l=some (x,t)):Left f tot j (acc++[x]) t:=by
 unfold Left qT at h;rw[hf]at h;dsimp only at h;unfold Left;rw[h];cases qT f j t with
 |none=>rfl
 |some p=>simp
theorem Left.done {α:Type} {f:List UInt8->Option (α×List UInt8)} {tot:Option (List α×List UInt8)} {acc:List α} {l:List UInt8} (h:Left f tot 0 acc l):tot=some (acc,l):=by
 unfold Left qT at h;rw[h];simp
theorem Left.init {α:Type} {f:List UInt8->Option (α×List UInt8)} {n:Nat} {l:List UInt8}:Left f (qT f n l) n [] l:=by
 unfold Left;cases qT f n l with
 |none=>rfl
 |some p=>rfl
end V
/- Contracts of the package catalog:Read. -/
namespace V
open Go Go.Proofs Go.RowKit Crc
variable {w w':World} {r:Nat} {st:Option (List UInt8)}
theorem rdnum' (h:xe w r st) {n:Nat} (hn:n<=8):Calls prog 130 #[.pointer (some ⟨r,0,none⟩),.int .i64 (n:Int)] w (Ret fun v w'=>(∃ k:Nat,v=.int .u64 (k:Int)/\(∀ p,st.bind (yo n)=some p->k=lev p.1)/\(st.bind (yo n)=none->k=0))/\zb9 r w w' (sK n st)):=by
 refine(zba h hn).mono (Ret.mono ?_);rintro v w' ⟨rfl,h⟩;exact⟨⟨_,rfl,fun p hp=>by rw[hp],fun hp=>by rw[hp]⟩,h⟩
theorem rdname' (h:xe w r st):Calls prog 131 #[.pointer (some ⟨r,0,none⟩)] w (Ret fun v w'=>(∃ s:ByteArray,v=.string s/\∀ p,st.bind nmR=some p->s=p.1)/\zb9 r w w' (sN st)):=by
 refine(zh8 h).mono (Ret.mono ?_);rintro v w' ⟨rfl,h⟩;exact⟨⟨_,rfl,fun p hp=>by rw[hp]⟩,h⟩
def zbb (tot:Option (List Ent×List UInt8)) (z r1 r2 B0:Nat) (j:Nat) (w:World):Prop:=
 ∃ (x:SLC) (raws:List Raw) (st:Option (List UInt8)),Blk w r1 (zF x (none,0,0)) 30/\Owni yv 42 w B0 x.1 x.2.1 x.2.2 raws/\x.2.1+j<=255/\xe w r2 st/\
  ((st=none/\tot=none)\/∃ l acc,st=some l/\l.length<=z/\yA w B0 x raws acc/\Left ku tot j acc l)
theorem um {α:Type} {l:List α} {x d:α} {i n:Nat} (hn:l.length=n):(l++[x]).getD i d=if i<n then l.getD i d else if i=n then x else d:=by
 simp only [getD_eq_getElem?_getD]
 by_cases h:i<n
 ·rw[if_pos h,List.getElem?_append_left (by omega)]
 ·rw[if_neg h,List.getElem?_append_right (by omega),hn]
  by_cases e:i=n
  ·subst e;simp
  ·rw[if_neg e,List.getElem?_eq_none (by simp;omega)];rfl
theorem yA.snoc {B0:Nat} {x:SLC} {A:Option Addr} {c:Nat} {raws:List Raw} {es:List Ent} {rw_:Raw} {e:Ent} (h:yA w B0 x raws es) (hrow:Owni yv 42 w' B0 A (x.2.1+1) c (raws++[rw_])) (hold:∀ i,i<es.length->xM w' B0 (raws.getD i yM) (es.getD i zQ)) (hn:xM w' B0 rw_ e):yA w' B0 (A,x.2.1+1,c) (raws++[rw_]) (es++[e]):=by
 have hl:=h.len;refine⟨hrow,by simp[hl],fun i hi=>?_⟩;rw[um hl,um rfl]
 by_cases e1:i<es.length
 ·rw[if_pos e1,if_pos e1];exact hold i e1
 ·have:i=es.length:=by simp at hi;omega
  rw[if_neg e1,if_neg e1,if_pos this,if_pos this];exact hn
theorem xM.grown {B0:Nat} {r:Raw} {e:Ent} {A:Option Addr} {n c:Nat} {raws:List Raw} (h:xM w B0 r e) (ho:Owni yv 42 w B0 A n c raws) (hg:w.grownBy w' (orow A)):xM w' B0 r e:=
 ⟨h.name,h.rest,h.cols.grown hg (fun j hj=>ho.ne h.cols (by decide) j hj)⟩
theorem zkR {tot:Option (List Ent×List UInt8)} {z r1 r2 B0 j:Nat} {K:WP} (hz:z<=1000000) (hr1:r1<B0) (hr2:r2<B0) (h12:r1≠r2) (h:zbb tot z r1 r2 B0 (j+1) w) (hB:B0<=w.heap.size) {l0:List UInt8} (hst:xe w r2 (some l0))
  (hK:∀ w',zbb tot z r1 r2 B0 j w'->Only (fun k=>k=r1\/k=r2\/B0<=k) w w'->K w'):(zB<|
  ldW .slc (aD r1) fun(u10:SLC)=>
  ze prog 131 [.pointer (some (aD r2))] (.one (.one .str)) fun(u11:ByteArray)=>
  zt [[((aD r1),.slice u10.1 u10.2.1 u10.2.2)]]<|
  ze prog 132 [.pointer (some (aD r2))] (.one (.one .slc)) fun(u12:SLC)=>
  zt [[((aD r1),.slice u10.1 u10.2.1 u10.2.2)]]<|
  ze prog 130 [.pointer (some (aD r2)),.int .i64 8] (.one (.one (.int .u64))) fun(u13:Int)=>
  zt [[((aD r1),.slice u10.1 u10.2.1 u10.2.2)]]<|
  ze prog 130 [.pointer (some (aD r2)),.int .i64 4] (.one (.one (.int .u64))) fun(u14:Int)=>
  zt [[((aD r1),.slice u10.1 u10.2.1 u10.2.2)]]<|
  ze prog 133 [.pointer (some (aD r2))] (.one (.one (.int .u32))) fun(u15:Int)=>
  zt [[((aD r1),.slice u10.1 u10.2.1 u10.2.2)]]<|
  zi (.cells #[.string u11,.slice u12.1 u12.2.1 u12.2.2,.int .u32 u15,.int .u64 u13,.int .i64 (wrap .i64 u14)] 42) fun(r16:Nat)=>
  zt [[((aD r1),.slice u10.1 u10.2.1 u10.2.2)]]<|
  zv prog (Builtin.append_ #[27,27] 27 #[.slice u10.1 u10.2.1 u10.2.2,.slice (some (aD r16)) 1 1]) .slc fun(u17:SLC)=>
  stW (aD r1) (.slice u17.1 u17.2.1 u17.2.2) K) w:=by
 obtain⟨x,raws,st,hb,hrow,hx,hR,hcase⟩:=h;have hst':st=some l0:=by
  cases st with
  |none=>
   obtain⟨s,hs⟩:=hR;have h1:w.heap[r2]?=some _:=hs;have h2:w.heap[r2]?=some _:=hst;rw[h1]at h2;injection h2 with h2
   injection h2 with h2 _ _
   have:=congrArg (fun a=>a.toList[1]?) h2;simp at this
  |some l1=>
   have h1:w.heap[r2]?=some _:=hR;have h2:w.heap[r2]?=some _:=hst;rw[h1]at h2;injection h2 with h2
   injection h2 with h2 _ _
   have:=congrArg (fun a=>a.toList[0]?) h2;simp at this;rw[show l1=l0 from by have:=congrArg V.B this;rwa [xC,xC]at this]
 subst hst';rcases hcase with ⟨e,_⟩|⟨l,acc,e,hlz,hT,hL⟩
 ·cases e
 obtain rfl:l0=l:=by injection e
 have hxl:=hrow.len;refine zN fun w1 he1 hz1 hh1=>?_;have hb:=hb.ext he1;refine zJ x hb (by rfl) ?_;have hO:∀ {a c:World},OnR r2 a c->Only (fun k=>k=r1\/k=r2\/B0<=k) a c:=fun o=>o.mono (fun k hk=>.inr (.inl hk));refine zb (rdname' (hR.ext he1)) ?_;rintro _ w2 ⟨⟨nm,rfl,hnm⟩,h2,o2⟩;refine⟨_,rfl,?_⟩;have hb:=hb.only o2 h12;refine xz (ym hb rfl) ?_;have hs2:=o2.2.2.2.1;have h2:xe w2 r2 (sN (some l0)):=h2;have hr2l:r2<w2.heap.size:=by omega
 have hle2:∀ q,sN (some l0)=some q->q.length<=z:=fun q hq=>by
  have hq:(nmR l0).map (fun p=>p.2)=some q:=hq;cases hn:nmR l0 with
  |none=>rw[hn]at hq;cases hq
  |some p=>
   rw[hn]at hq;cases hq;show p.2.length<=z;have:p.2.length<=l0.length:=zra (s:=p.1) hn;omega
 refine zb (zh9 h2 hr2l (fun q hq=>by have:=hle2 q hq;omega)) ?_;rintro _ w3 ⟨⟨cx,rfl,hcx⟩,h3,o3⟩;refine⟨cx,rfl,?_⟩;have h3:xe w3 r2 (sC (sN (some l0))):=h3;have hb:=hb.only o3 h12;refine xz (ym hb rfl) ?_;have hs3:=o3.2.2.2.1;refine zb (rdnum' h3 (n:=8) (by omega)) ?_;rintro _ w4 ⟨⟨n8,rfl,hn8,_⟩,h4,o4⟩;refine⟨_,rfl,?_⟩;have h4:xe w4 r2 (sK 8 (sC (sN (some l0)))):=h4;have hb:=hb.only o4 h12;refine xz (ym hb rfl) ?_;have hs4:=o4.2.2.2.1;refine zb (rdnum' h4 (n:=4) (by omega)) ?_;rintro _ w5 ⟨⟨n4,rfl,hn4,_⟩,h5,o5⟩;refine⟨_,rfl,?_⟩;have h5:xe w5 r2 (sK 4 (sK 8 (sC (sN (some l0))))):=h5;have hb:=hb.only o5 h12;refine xz (ym hb rfl) ?_;have hs5:=o5.2.2.2.1;refine zb (zcz h5) ?_;rintro _ w6 ⟨⟨k,rfl,hk⟩,h6,o6⟩;refine⟨_,rfl,?_⟩;have h6:xe w6 r2 (s1 (sK 4 (sK 8 (sC (sN (some l0)))))):=h6;rw[zqx]at h6;have hb:=hb.only o6 h12;refine xz (ym hb rfl) ?_;have hs6:=o6.2.2.2.1
 -- the tables so far
 have o26:OnR r2 w2 w6:=((o3.trans o4).trans o5).trans o6;have o16:OnR r2 w w6:=(OnR.trans (Only.zz he1) o2).trans o26;have o36:OnR r2 w3 w6:=(o4.trans o5).trans o6;have hrow6:=hrow.only o16 (fun q hq e=>by have:=hrow.row q hq;have:q=r2:=e;omega);have hT6:=hT.only o16 (fun q hq=>by have:q=r2:=hq;omega);refine zp fun r16 w7 hb7 he7 hr7 hz7=>?_;have hb:=hb.ext he7;refine xz (ym hb rfl) ?_;have hxx:Sli yv w7 (some ⟨r16,0,none⟩) 1 [((nm,cx,k,n8,wrap .i64 ((n4:Nat):Int)):Raw)]:=Sli.xw (E:=yv) (xs:=[(nm,cx,k,n8,wrap .i64 ((n4:Nat):Int))]) hb7 rfl (by omega);have hs7:=he7.size;have hrow7:=hrow6.ext he7;refine xp (E:=yv) zeB hrow7 (by omega) hxx (by omega) (by omega) ?_;intro A8 c8 w8 ho8 hg8 _;have hs8:=hg8.grown.size;have hr1r:orow x.1≠some r1:=fun e=>by have:=hrow.row _ e;omega
 have hr2r:orow x.1≠some r2:=fun e=>by have:=hrow.row _ e;omega
 have hb8:Blk w8 r1 (zF x (none,0,0)) 30:=hb.grown hg8.grown (fun e=>hr1r e.symm);refine stE (o:=0) hb8 rfl (by show 0<2;omega) ?_;intro w9 hb9 o9;have o78:Only (fun q=>orow x.1=some q) w7 w8:=Only.zV hg8.grown (fun q hq=>.inl hq);have h9:xe w9 r2 ((ku l0).map fun p=>p.2):=((h6.ext he7).only o78 hr2r).only o9 (fun e=>h12 e.symm);have ho9:=ho8.only o9 (fun q hq e=>by have:=ho8.row q hq;have:q=r1:=e;omega);have hall:Only (fun q=>q=r1\/q=r2\/B0<=q) w w9:=by
  refine Only.trans (Only.trans (hO o16) (Only.zz (F:=fun q=>q=r1\/q=r2\/B0<=q) he7) (fun q hq=>.inl hq)) ?_ (fun q hq=>.inl hq);refine Only.trans (F:=fun q=>q=r1\/q=r2\/B0<=q) (o78.mono (fun q hq=>.inr (.inr (hrow.row q hq)))) (o9.mono (fun q hq=>.inl hq)) (fun q hq=>.inl hq)
 refine hK w9 ⟨(A8,x.2.1+1,c8),_,_,hb9,ho9,by dsimp only;omega,h9,?_⟩ hall;cases he:ku l0 with
 |none=>exact .inl ⟨rfl,hL.bad he⟩
 |some p=>
  obtain⟨e,t⟩:=p;refine .inr ⟨t,acc++[e],rfl,by have:=zqz he;omega,?_,hL.step he⟩;obtain⟨q1,q2,y1,q3,y2,q4,g1,g2,g3,g4,g5,g6,g7⟩:=zl6 he;have eN:sN (some l0)=some q1:=by show(nmR l0).map (fun p=>p.2)=_;rw[g1];rfl
  have eC:sC (sN (some l0))=some q2:=by rw[eN];show(xZ q1).map (fun p=>p.2)=_;rw[g2];rfl
  have eK:sK 8 (sC (sN (some l0)))=some q3:=by rw[eC];show(yo 8 q2).map (fun p=>p.2)=_;rw[g3];rfl
  have eK4:sK 4 (sK 8 (sC (sN (some l0))))=some q4:=by rw[eK];show(yo 4 q3).map (fun p=>p.2)=_;rw[g4];rfl
  have enm:nm=e.1:=hnm (e.1,q1) g1;have en8:n8=e.2.2.2.1:=by rw[g6];exact hn8 (y1,q3) (by rw[eC];exact g3)
  have en4:n4=lev y2:=hn4 (y2,q4) (by rw[eK];exact g4);have ek:k=e.2.2.1:=by
   have:=hk (e.2.2.1,t) (by rw[eK4];exact g5);exact this
  have hy2:lev y2<4294967296:=by
   have:=jM y2;rw[(ql g4).1]at this;exact this
  have hcols:=(hcx (e.2.1,q2) (by rw[eN];exact g2));refine yA.snoc (w:=w6) hT6 ho9 (fun i hi=>?_) ⟨enm,?_,?_⟩
  ·have h1:=((hT6.at_ i hi).ext he7).grown hrow7 hg8.grown;exact h1.only o9 (fun q hq=>by have:q=r1:=hq;omega)
  ·show(k,n8,wrap .i64 ((n4:Nat):Int))=e.2.2;rw[ek,en8,en4,wrap_i64 (by omega) (by omega),<- g7]
  ·have h1:=(hcols.lower (B':=B0) (by omega)).only o36 (fun q hq e=>by have:=hcols.row q hq;have:q=r2:=e;omega);have h2:=(h1.ext he7).grown hg8.grown (fun q hq=>hrow7.ne (h1.ext he7) (by decide) q hq);exact h2.only o9 (fun q hq e=>by have:=h2.row q hq;have:q=r1:=e;omega)
end V
/- Contracts of the package catalog:Read. -/
namespace V
open Go Go.Proofs Go.RowKit Crc
variable {w w':World} {r:Nat} {st:Option (List UInt8)}
theorem xe.zfZ {l0:List UInt8} (hR:xe w r st) (hst:xe w r (some l0)):st=some l0:=by
 cases st with
 |none=>
  obtain⟨s,hs⟩:=hR;have h1:w.heap[r]?=some _:=hs;have h2:w.heap[r]?=some _:=hst;rw[h1]at h2;injection h2 with h2
  injection h2 with h2 _ _
  have:=congrArg (fun a=>a.toList[1]?) h2;simp at this
 |some l1=>
  have h1:w.heap[r]?=some _:=hR;have h2:w.heap[r]?=some _:=hst;rw[h1]at h2;injection h2 with h2
  injection h2 with h2 _ _
  have:=congrArg (fun a=>a.toList[0]?) h2;simp at this;rw[show l1=l0 from by have:=congrArg V.B this;rwa [xC,xC]at this]
theorem yA.zrb {B0:Nat} {x:SLC} {raws:List Raw} {es:List Ent} {A:Option Addr} {n c:Nat} {ss:List Snp} (h:yA w B0 x raws es) (ho:Owni zI 64 w B0 A n c ss) (hg:w.grownBy w' (orow A)):yA w' B0 x raws es:=
 ⟨h.row.grown hg (fun j hj=>ho.ne h.row (by decide) j hj),h.len,fun i hi=>⟨(h.at_ i hi).name,(h.at_ i hi).rest,(h.at_ i hi).cols.grown hg (fun j hj=>ho.ne (h.at_ i hi).cols (by decide) j hj)⟩⟩
def zbc (tot:Option (List Snp×List UInt8)) (es:List Ent) (z r1 r2 B0:Nat) (j:Nat) (w:World):Prop:=
 ∃ (x y:SLC) (ss:List Snp) (st:Option (List UInt8)),Blk w r1 (zF x y) 30/\Owni zI 64 w B0 y.1 y.2.1 y.2.2 ss/\y.2.1+j<=255/\xe w r2 st/\
  ((st=none/\tot=none)\/∃ l raws,st=some l/\l.length<=z/\yA w B0 x raws es/\Left kU tot j ss l)
theorem zkS {tot:Option (List Snp×List UInt8)} {es:List Ent} {z r1 r2 B0 j:Nat} {K:WP} (hz:z<=1000000) (hr1:r1<B0) (hr2:r2<B0) (h12:r1≠r2) (h:zbc tot es z r1 r2 B0 (j+1) w) (hB:B0<=w.heap.size) {l0:List UInt8} (hst:xe w r2 (some l0))
  (hK:∀ w',zbc tot es z r1 r2 B0 j w'->Only (fun k=>k=r1\/k=r2\/B0<=k) w w'->K w'):(zB<|
  ldW .slc ((aD r1).add 1) fun(u10:SLC)=>
  ze prog 131 [.pointer (some (aD r2))] (.one (.one .str)) fun(u11:ByteArray)=>
  zt [[((aD r1).add 1,.slice u10.1 u10.2.1 u10.2.2)]]<|
  ze prog 133 [.pointer (some (aD r2))] (.one (.one (.int .u32))) fun(u15:Int)=>
  zt [[((aD r1).add 1,.slice u10.1 u10.2.1 u10.2.2)]]<|
  zi (.cells #[.string u11,.int .u32 u15] 64) fun(r16:Nat)=>
  zt [[((aD r1).add 1,.slice u10.1 u10.2.1 u10.2.2)]]<|
  zv prog (Builtin.append_ #[28,28] 28 #[.slice u10.1 u10.2.1 u10.2.2,.slice (some (aD r16)) 1 1]) .slc fun(u17:SLC)=>
  stW ((aD r1).add 1) (.slice u17.1 u17.2.1 u17.2.2) K) w:=by
 obtain⟨x,y,ss,st,hb,hrow,hx,hR,hcase⟩:=h;obtain rfl:=hR.zfZ hst;rcases hcase with ⟨e,_⟩|⟨l,raws,e,hlz,hT,hL⟩
 ·cases e
 obtain rfl:l0=l:=by injection e
 have hxl:=hrow.len;refine zN fun w1 he1 hz1 hh1=>?_;have hb:=hb.ext he1;refine zm 1 y hb (by rfl) ?_;refine zb (rdname' (hR.ext he1)) ?_;rintro _ w2 ⟨⟨nm,rfl,hnm⟩,h2,o2⟩;refine⟨_,rfl,?_⟩;have hb:=hb.only o2 h12;refine xz (xd hb rfl) ?_;have hs2:=o2.2.2.2.1;refine zb (zcz h2) ?_;rintro _ w6 ⟨⟨k,rfl,hk⟩,h6,o6⟩;refine⟨_,rfl,?_⟩;have h6:xe w6 r2 (s1 (sN (some l0))):=h6;rw[zqy]at h6;have hb:=hb.only o6 h12;refine xz (xd hb rfl) ?_;have hs6:=o6.2.2.2.1;have o16:OnR r2 w w6:=(OnR.trans (Only.zz he1) o2).trans o6;have hrow6:=hrow.only o16 (fun q hq e=>by have:=hrow.row q hq;have:q=r2:=e;omega);have hT6:=hT.only o16 (fun q hq=>by have:q=r2:=hq;omega);refine zp fun r16 w7 hb7 he7 hr7 hz7=>?_;have hb:=hb.ext he7;refine xz (xd hb rfl) ?_;have hxx:Sli zI w7 (some ⟨r16,0,none⟩) 1 [((nm,k):Snp)]:=Sli.xw (E:=zI) (xs:=[(nm,k)]) hb7 rfl (by omega);have hs7:=he7.size;have hrow7:=hrow6.ext he7;refine xp (E:=zI) je hrow7 (by omega) hxx (by omega) (by omega) ?_;intro A8 c8 w8 ho8 hg8 _;have hs8:=hg8.grown.size;have hr1r:orow y.1≠some r1:=fun e=>by have:=hrow.row _ e;omega
 have hr2r:orow y.1≠some r2:=fun e=>by have:=hrow.row _ e;omega
 have hb8:Blk w8 r1 (zF x y) 30:=hb.grown hg8.grown (fun e=>hr1r e.symm);refine stE (o:=1) hb8 (by rw[zx]) (by show 1<2;omega) ?_;intro w9 hb9 o9;have o78:Only (fun q=>orow y.1=some q) w7 w8:=Only.zV hg8.grown (fun q hq=>.inl hq);have h9:xe w9 r2 ((kU l0).map fun p=>p.2):=((h6.ext he7).only o78 hr2r).only o9 (fun e=>h12 e.symm);have ho9:=ho8.only o9 (fun q hq e=>by have:=ho8.row q hq;have:q=r1:=e;omega);have hall:Only (fun q=>q=r1\/q=r2\/B0<=q) w w9:=by
  refine Only.trans (Only.trans (o16.mono (fun k hk=>.inr (.inl hk))) (Only.zz (F:=fun q=>q=r1\/q=r2\/B0<=q) he7) (fun q hq=>.inl hq)) ?_ (fun q hq=>.inl hq);refine Only.trans (F:=fun q=>q=r1\/q=r2\/B0<=q) (o78.mono (fun q hq=>.inr (.inr (hrow.row q hq)))) (o9.mono (fun q hq=>.inl hq)) (fun q hq=>.inl hq)
 refine hK w9 ⟨x,(A8,y.2.1+1,c8),_,_,hb9,ho9,by dsimp only;omega,h9,?_⟩ hall;cases he:kU l0 with
 |none=>exact .inl ⟨rfl,hL.bad he⟩
 |some p=>
  obtain⟨e,t⟩:=p;obtain⟨q1,g1,g5⟩:=zl7 he;have eN:sN (some l0)=some q1:=by show(nmR l0).map (fun p=>p.2)=_;rw[g1];rfl
  have enm:nm=e.1:=hnm (e.1,q1) g1;have ek:k=e.2:=hk (e.2,t) (by rw[eN];exact g5);have ee:((nm,k):Snp)=e:=by rw[enm,ek]
  refine .inr ⟨t,raws,rfl,by have:=zqA he;omega,?_,by rw[ee];exact hL.step he⟩;exact((hT6.ext he7).zrb hrow7 hg8.grown).only o9 (fun q hq=>by have:q=r1:=hq;omega)
theorem zbb.rd {tot:Option (List Ent×List UInt8)} {z r1 r2 B0 j:Nat} (h:zbb tot z r1 r2 B0 j w):∃ st,xe w r2 st/\(st=none->tot=none):=by
 obtain⟨x,raws,st,hb,hrow,hx,hR,hcase⟩:=h;refine⟨st,hR,fun e=>?_⟩;rcases hcase with ⟨_,h⟩|⟨l,acc,e',_⟩
 ·exact h
 ·rw[e]at e';cases e'
theorem zbc.rd {tot:Option (List Snp×List UInt8)} {es:List Ent} {z r1 r2 B0 j:Nat} (h:zbc tot es z r1 r2 B0 j w):∃ st,xe w r2 st/\(st=none->tot=none):=by
 obtain⟨x,y,ss,st,hb,hrow,hx,hR,hcase⟩:=h;refine⟨st,hR,fun e=>?_⟩;rcases hcase with ⟨_,h⟩|⟨l,acc,e',_⟩
 ·exact h
 ·rw[e]at e';cases e'
def jX (s:List UInt8):Option (List Ent×List UInt8):=match yo 1 s with
 |none=>none
 |some (b,r)=>qT ku (lev b) r
def zdm (t:Option (List Ent×List UInt8)):Option (List Snp×List UInt8):=match t with
 |none=>none
 |some (_,r)=>match yo 1 r with
  |none=>none
  |some (b,r')=>qT kU (lev b) r'
theorem zeC (s:List UInt8):zfU s=match jX s with
 |none=>none
 |some (ts,r)=>match zdm (some (ts,r)) with
  |none=>none
  |some (ss,r4)=>if r4=[] then some (ts,ss) else none:=by
 unfold zfU jX zdm;cases yo 1 s with
 |none=>rfl
 |some p=>
  obtain⟨b,r⟩:=p;dsimp only;cases qT ku (lev b) r with
  |none=>rfl
  |some q=>
   obtain⟨ts,r2⟩:=q;dsimp only;cases yo 1 r2 with
   |none=>rfl
   |some q2=>rfl
end V
/- Contracts of the package catalog:Read,whole. -/
namespace V
open Go Go.Proofs Go.RowKit Crc
variable {w w':World}
theorem zgz (s:ByteArray):(s.toList==(ByteArray.mk #[]).toList)=decide (B s=[]):=by rw[qh];rfl
theorem zbb.out {tot:Option (List Ent×List UInt8)} {z r1 r2 B0 j:Nat} (h:zbb tot z r1 r2 B0 j w) (hj:(∃ st,xe w r2 st/\st=none)\/j=0):zbb tot z r1 r2 B0 0 w:=by
 obtain⟨x,raws,st,hb,hrow,hx,hR,hcase⟩:=h;rcases hj with ⟨st',h1,rfl⟩|rfl
 ·cases st with
  |none=>exact⟨x,raws,none,hb,hrow,by omega,hR,.inl ⟨rfl,by rcases hcase with ⟨_,h⟩|⟨l,acc,e',_⟩;exact h;cases e'⟩⟩
  |some l=>exact absurd (h1.zfZ hR) (by simp)
 ·exact⟨x,raws,st,hb,hrow,hx,hR,hcase⟩
theorem zbc.out {tot:Option (List Snp×List UInt8)} {es:List Ent} {z r1 r2 B0 j:Nat} (h:zbc tot es z r1 r2 B0 j w) (hj:(∃ st,xe w r2 st/\st=none)\/j=0):zbc tot es z r1 r2 B0 0 w:=by
 obtain⟨x,y,ss,st,hb,hrow,hx,hR,hcase⟩:=h;rcases hj with ⟨st',h1,rfl⟩|rfl
 ·cases st with
  |none=>exact⟨x,y,ss,none,hb,hrow,by omega,hR,.inl ⟨rfl,by rcases hcase with ⟨_,h⟩|⟨l,acc,e',_⟩;exact h;cases e'⟩⟩
  |some l=>exact absurd (h1.zfZ hR) (by simp)
 ·exact⟨x,y,ss,st,hb,hrow,hx,hR,hcase⟩
theorem zgR {s:ByteArray} (hs:s.size<=1000000):Calls prog 89 #[.string s] w (Ret fun v w'=>(∃ x y,v=.tuple #[.agg (zF x y).toArray,.int .i64 (kM (B s)).2]/\yx w' w.heap.size x y (kM (B s)).1)/\Ext w w'):=by
 apply zp4;unfold S89;refine zp fun r1 w1 hb1 he1 hr1 hz1=>?_;refine zp fun r2 w2 hb2 he2 hr2 hz2=>?_;have hb1:Blk w2 r1 (zF (none,0,0) (none,0,0)) 30:=hb1.ext he2;have hR2:xe w2 r2 (some (B s)):=by
  show Blk w2 r2 [.string (mkB (B s)),.int .i64 0] _;rw[zkc];exact hb2
 have he02:=he1.trans he2;have h12:r1≠r2:=by omega
 have hlen:=yu s;generalize hB0:w2.heap.size=B0 at *;have hr1B:r1<B0:=by omega
 have hr2B:r2<B0:=by omega
 have hup:∀ {w8:World},Only (fun k=>k=r1\/k=r2\/B0<=k) w2 w8->Ext w w8:=fun o=>Only.ext he02 o (fun j hj=>by rcases hj with e|e|e<;>omega)
 -- the tables
 refine yq (fun _ w'=>zbb (jX (B s)) s.size r1 r2 B0 0 w'/\Only (fun k=>k=r1\/k=r2\/B0<=k) w2 w') ?_ (fun J3 hJ3=>?_);rotate_left
 ·refine zb (rdnum' hR2 (n:=1) (by omega)) ?_;rintro _ w3 ⟨⟨n,rfl,hn,hn0⟩,h3,o3⟩;refine⟨_,rfl,?_⟩;have h3:xe w3 r2 ((yo 1 (B s)).map fun p=>p.2):=h3;have hs3:=o3.2.2.2.1;have hI:zbb (jX (B s)) s.size r1 r2 B0 n w3/\n<=255:=by
   cases hc:yo 1 (B s) with
   |none=>
    have:=hn0 hc;rw[hc]at h3;subst this;exact⟨⟨(none,0,0),[],none,hb1.only o3 h12,Owni.nil _ _ _,by simp,h3,.inl ⟨rfl,by unfold jX;rw[hc]⟩⟩,by omega⟩
   |some p=>
    obtain⟨q,t⟩:=p;have e:=hn (q,t) hc;rw[hc]at h3;have hlv:lev q<256:=by
     have:=jM q;rw[(ql hc).1]at this;exact this
    dsimp only at e;refine⟨⟨(none,0,0),[],some t,hb1.only o3 h12,Owni.nil _ _ _,by dsimp only;omega,h3,.inr ⟨t,[],rfl,by have:=zjN hc;omega,⟨Owni.nil _ _ _,rfl,fun i hi=>by cases hi⟩,?_⟩⟩,by omega⟩;have:jX (B s)=qT ku n t:=by unfold jX;rw[hc,e]
    rw[this];exact Left.init
  obtain⟨hI,hn255⟩:=hI;refine zy (fun y w'=>∃ j:Nat,j<=255/\y=((j:Int),())/\zbb (jX (B s)) s.size r1 r2 B0 j w'/\Only (fun k=>k=r1\/k=r2\/B0<=k) w2 w'/\B0<=w'.heap.size) (fun y=>y.1.toNat) ⟨n,hn255,rfl,hI,o3.mono (fun k hk=>.inr (.inl hk)),by omega⟩ ?_;rintro _ w4 ⟨j,hj,rfl,hI4,o4,hs4⟩;dsimp only;obtain⟨st,hR4,_⟩:=hI4.rd
  by_cases h0:j=0
  ·subst h0;exact zd (by rfl) (hJ3 _ _ ⟨hI4,o4⟩)
  ·refine zf (decide_eq_true (by omega)) (zu ?_);cases st with
   |none=>
    obtain⟨s',hs'⟩:=id hR4;exact zm 1 (240:Int) hs' (by rfl) (zd (by rfl) (hJ3 _ _ ⟨hI4.out (.inl ⟨none,hR4,rfl⟩),o4⟩))
   |some l=>
    have hb4:Blk w4 r2 [.string (mkB l),.int .i64 0] 216:=hR4;obtain⟨j,rfl⟩:∃ j',j=j'+1:=⟨j-1,by omega⟩;refine zm 1 (0:Int) hb4 (by rfl) (zf (by rfl) ?_);refine zkR hs hr1B hr2B h12 hI4 hs4 hR4 fun w5 hI5 o5=>?_;have ew:wrap .u64 (((j+1:Nat):Int)-1)=(j:Int):=by rw[show((j+1:Nat):Int)-1=((j:Nat):Int) by omega,zD (by omega)]
    have hs5:=o5.2.2.2.1;exact⟨⟨j,by omega,by rw[ew],hI5,Only.trans o4 o5 (fun k hk=>.inl hk),by omega⟩,by rw[ew];omega⟩
 rintro _ w3 ⟨hI,o3⟩;obtain⟨x,raws,st,hb3,hrow,hx,hR3,hcase⟩:=hI;have hs3:=o3.2.2.2.1
 -- the snapshots
 refine yq (fun _ w'=>∃ es,zbc (zdm (jX (B s))) es s.size r1 r2 B0 0 w'/\(∀ ts t,jX (B s)=some (ts,t)->es=ts)/\Only (fun k=>k=r1\/k=r2\/B0<=k) w2 w') ?_ (fun J18 hJ18=>?_);rotate_left
 ·refine zb (rdnum' hR3 (n:=1) (by omega)) ?_;rintro _ w4 ⟨⟨n,rfl,hn,hn0⟩,h4,o4⟩;refine⟨_,rfl,?_⟩;have hs4:=o4.2.2.2.1;have hI:∃ es,zbc (zdm (jX (B s))) es s.size r1 r2 B0 n w4/\(∀ ts t,jX (B s)=some (ts,t)->es=ts)/\n<=255:=by
   rcases hcase with ⟨rfl,ht⟩|⟨l,acc,rfl,hlz,hT,hL⟩
   ·have:=hn0 rfl;subst this;exact⟨[],⟨x,(none,0,0),[],none,hb3.only o4 h12,Owni.nil _ _ _,by simp,h4,.inl ⟨rfl,by rw[ht];rfl⟩⟩,fun ts t h=>(by rw[ht]at h;cases h),by omega⟩
   ·have ht:=hL.done;have h4:xe w4 r2 ((yo 1 l).map fun p=>p.2):=h4;have hT4:=hT.only o4 (fun q hq=>by have:q=r2:=hq;omega);refine⟨acc,?_⟩;cases hc:yo 1 l with
    |none=>
     have:=hn0 hc;rw[hc]at h4;subst this;exact⟨⟨x,(none,0,0),[],none,hb3.only o4 h12,Owni.nil _ _ _,by simp,h4,.inl ⟨rfl,by rw[ht];unfold zdm;dsimp only;rw[hc]⟩⟩,fun ts t h=>by rw[ht]at h;cases h;rfl,by omega⟩
    |some p=>
     obtain⟨q,t⟩:=p;have e:=hn (q,t) hc;rw[hc]at h4;have hlv:lev q<256:=by
      have:=jM q;rw[(ql hc).1]at this;exact this
     dsimp only at e;refine⟨⟨x,(none,0,0),[],some t,hb3.only o4 h12,Owni.nil _ _ _,by dsimp only;omega,h4,.inr ⟨t,raws,rfl,by have:=zjN hc;omega,hT4,?_⟩⟩,fun ts t h=>by rw[ht]at h;cases h;rfl,by omega⟩;have:zdm (jX (B s))=qT kU n t:=by rw[ht];unfold zdm;dsimp only;rw[hc,e]
     rw[this];exact Left.init
  obtain⟨es,hI,hes,hn255⟩:=hI;refine zy (fun y w'=>∃ j:Nat,j<=255/\y=((j:Int),())/\zbc (zdm (jX (B s))) es s.size r1 r2 B0 j w'/\Only (fun k=>k=r1\/k=r2\/B0<=k) w2 w'/\B0<=w'.heap.size) (fun y=>y.1.toNat) ⟨n,hn255,rfl,hI,Only.trans o3 (o4.mono (fun k hk=>.inr (.inl hk))) (fun k hk=>.inl hk),by omega⟩ ?_;rintro _ w5 ⟨j,hj,rfl,hI5,o5,hs5⟩;dsimp only;obtain⟨st',hR5,_⟩:=hI5.rd
  by_cases h0:j=0
  ·subst h0;exact zd (by rfl) (hJ18 _ _ ⟨es,hI5,hes,o5⟩)
  ·refine zf (decide_eq_true (by omega)) (zu ?_);cases st' with
   |none=>
    obtain⟨s',hs'⟩:=id hR5;exact zm 1 (240:Int) hs' (by rfl) (zd (by rfl) (hJ18 _ _ ⟨es,hI5.out (.inl ⟨none,hR5,rfl⟩),hes,o5⟩))
   |some l=>
    have hb5:Blk w5 r2 [.string (mkB l),.int .i64 0] 216:=hR5;obtain⟨j,rfl⟩:∃ j',j=j'+1:=⟨j-1,by omega⟩;refine zm 1 (0:Int) hb5 (by rfl) (zf (by rfl) ?_);refine zkS hs hr1B hr2B h12 hI5 hs5 hR5 fun w6 hI6 o6=>?_;have ew:wrap .u64 (((j+1:Nat):Int)-1)=(j:Int):=by rw[show((j+1:Nat):Int)-1=((j:Nat):Int) by omega,zD (by omega)]
    have hs6:=o6.2.2.2.1;exact⟨⟨j,by omega,by rw[ew],hI6,Only.trans o5 o6 (fun k hk=>.inl hk),by omega⟩,by rw[ew];omega⟩
 rintro _ w4 ⟨es,hI,hes,o4⟩;obtain⟨x,y,ss,st,hb4,hrow,hx,hR4,hcase⟩:=hI;have he4:=hup o4;have hs4:=o4.2.2.2.1;have bad:∀ {w5:World},Blk w5 r1 (zF x y) 30->Ext w w5->kM (B s)=(za5,240)->(zc ((#[.slice none 0 0,.slice none 0 0]:Array Value).size=2)<|zq (aD r1) [.slice none 0 0,.slice none 0 0]<|zl [.slc,.slc] (aD r1) fun(u:SLC×SLC×Unit)=>fun w'=>(∃ x y,Value.tuple #[.agg #[.slice u.1.1 u.1.2.1 u.1.2.2,.slice u.2.1.1 u.2.1.2.1 u.2.1.2.2],.int .i64 240]=.tuple #[.agg (zF x y).toArray,.int .i64 (kM (B s)).2]/\yx w' w.heap.size x y (kM (B s)).1)/\Ext w w') w5:=by
  intro w5 hb5 he5 hk;refine refill (vs:=zF (none,0,0) (none,0,0)) hb5 (by rfl) (yw _ _) (by rfl) ?_;intro w6 hb6 hx6 hk6 hz6;refine zS (ls:=yH) (yF (none,0,0) (none,0,0)) hb6 (by rfl) ?_;rw[hk];exact⟨⟨_,_,rfl,zca _ _⟩,hx6 w he5 (by omega)⟩
 refine zu ?_;rcases hcase with ⟨rfl,ht⟩|⟨l,raws',rfl,hlz,hT,hL⟩
 ·obtain⟨s',hs'⟩:=hR4;refine zm 1 (240:Int) hs' (by rfl) (zf (by rfl) ?_);refine bad hb4 he4 ?_;unfold kM;rw[zeC];cases hq:jX (B s) with
  |none=>rfl
  |some p=>rw[hq]at ht;dsimp only;rw[ht]
 have hb42:Blk w4 r2 [.string (mkB l),.int .i64 0] 216:=hR4;refine zm 1 (0:Int) hb42 (by rfl) (zd (by rfl) (zu ?_));refine zJ (mkB l) hb42 (by rfl) ?_;have ht:=hL.done;obtain⟨t0,ht0⟩:∃ t0,jX (B s)=some (es,t0):=by
  cases hq:jX (B s) with
  |none=>rw[hq]at ht;cases ht
  |some p=>
   obtain⟨p1,p2⟩:=p;exact⟨p2,by rw[hes p1 p2 hq]⟩
 rw[ht0]at ht;rw[zgz]
 by_cases hl:l=[]
 ·subst hl;refine zd (by rfl) ?_;refine zS (ls:=yH) (yF x y) hb4 (by rfl) ?_;have hrd:zfU (B s)=some (es,ss):=by
   rw[zeC,ht0];dsimp only;rw[ht];dsimp only;rw[if_pos rfl]
  have hown:yx w4 B0 x y (es,ss):=⟨⟨raws',hT⟩,hrow⟩;refine zb (zby hown.cat) ?_;rintro _ w5 ⟨rfl,he5⟩;refine⟨_,rfl,?_⟩;have hb5:=hb4.ext he5;have he05:=he4.trans he5;cases hok:x5 (es,ss) with
  |false=>
   refine zf (by rfl) (bad hb5 he05 ?_);unfold kM;rw[hrd];dsimp only;rw[hok];rfl
  |true=>
   refine zd (by rfl) ?_;refine zS (ls:=yH) (yF x y) hb5 (by rfl) ?_;refine refill (vs:=zF x y) hb5 (by rfl) (yw _ _) (by rfl) ?_;intro w6 hb6 hx6 hk6 hz6;have he6:=hx6 w he05 (by omega);refine zS (ls:=yH) (yF x y) hb6 (by rfl) ?_;have hk:kM (B s)=((es,ss),0):=by
    unfold kM;rw[hrd];dsimp only;rw[hok];rfl
   rw[hk];refine⟨⟨x,y,rfl,((hown.ext he5).only (F:=fun k=>k=r1) ⟨he6.os.trans he05.os.symm,he6.tape.trans he05.tape.symm,he6.output.trans he05.output.symm,Nat.le_of_eq hz6.symm,fun k _ hk=>hk6 k hk⟩ (fun k hk=>by omega)).lower (by have:=he02.size;omega)⟩,he6⟩
 ·refine zf (by rw[decide_eq_false (by rw[xC];exact hl)];rfl) (bad hb4 he4 ?_);unfold kM;rw[zeC,ht0];dsimp only;rw[ht];dsimp only;rw[if_neg hl]
end V
/- Contracts of the package shadowbookref24:Same. -/
namespace V
open Go Go.Proofs Go.RowKit Crc
variable {w w':World}
def zfn (a b:Snp):Bool:=decide (B a.1=B b.1)&&(((a.2:Int)==(b.2:Int))&&true)
theorem zgA {a b:Snp}:zfn a b=true↔a=b:=by
 unfold zfn;simp only [Bool.and_eq_true,decide_eq_true_eq,beq_iff_eq,and_true];constructor
 ·rintro⟨h1,h2⟩;exact Prod.ext (j9 h1) (by omega)
 ·rintro rfl;exact⟨rfl,rfl⟩
theorem zkT (w:World) (a b:Snp):(Op.eqFields 9999 #[.string a.1,.int .u32 (a.2:Int)] #[.string b.1,.int .u32 (b.2:Int)] (prog.fieldsOf 64).toList).run prog w=.ok (zfn a b) w:=by
 have hf:(prog.fieldsOf 64).toList=[(prog.fieldsOf 64).getD 0 default,(prog.fieldsOf 64).getD 1 default]:=by kernel_rfl
 rw[hf];unfold zfn;rw[<- qh];refine qj (of_decide_eq_true (by kernel_rfl)) (a:=.string a.1) (b:=.string b.1) (by kernel_rfl) (by kernel_rfl) (run_equalIn_string w 9998 _ _ _ (by kernel_rfl)) ?_;refine qj (of_decide_eq_true (by kernel_rfl)) (a:=.int .u32 (a.2:Int)) (b:=.int .u32 (b.2:Int)) (by kernel_rfl) (by kernel_rfl) (run_equalIn_int w 9998 _ .u32 .u32 _ _ (by kernel_rfl)) ?_;rfl
theorem zqB (w:World) (a b:Snp) (x y:Operand):(eqS .neq 64 x y (.agg #[.string a.1,.int .u32 (a.2:Int)]) (.agg #[.string b.1,.int .u32 (b.2:Int)])).run prog w=.ok (.bool (!(zfn a b))) w:=
 zfH (by kernel_rfl) (by kernel_rfl) (by kernel_rfl) (zkT w a b)
theorem ko {a:Addr} {r:Raw} (h:xk w a 0 (yv.f r)):HL w [(a.add 0,.string r.1),(a.add 1,.slice r.2.1.1 r.2.1.2.1 r.2.1.2.2),(a.add 2,.int .u32 (r.2.2.1:Int)),(a.add 3,.int .u64 (r.2.2.2.1:Int)),(a.add 4,.int .i64 r.2.2.2.2)]:=by
 obtain⟨h0,h1,h2,h3,h4,_⟩:=h;intro p hp;simp only [mem_cons,not_mem_nil,or_false]at hp;rcases hp with rfl|rfl|rfl|rfl|rfl
 ·exact h0
 ·exact h1
 ·exact h2
 ·exact h3
 ·exact h4
theorem xk.ext {a:Addr}:∀ {vs:List Value} {i:Nat},xk w a i vs->Ext w w'->xk w' a i vs
 |[],_,_,_=>trivial
 |_::_,_,h,he=>⟨he.cell h.1,xk.ext h.2 he⟩
theorem hl4 {a b c d:List (Addr×Value)} {K:WP} (ha:HL w a) (hb:HL w b) (hc:HL w c) (hd:HL w d) (hK:K w):zt [a,b,c,d] K w:=heldc ha (heldc hb (heldc hc (heldc hd (zrq hK))))
theorem zg4 {α:Type} {l:List α} {i:Nat} {d:α} (h:i<l.length):l.take (i+1)=l.take i++[l.getD i d]:=by
 rw[take_succ_eq_append_getElem h,getD_eq_getElem?_getD,List.getElem?_eq_getElem h];rfl
theorem zkU {x y x2 y2:SLC} {c c2:Cat} (h:yK w x y c) (h2:yK w x2 y2 c2):
  Calls prog 16 #[.agg (zF x y).toArray,.agg (zF x2 y2).toArray] w (Ret fun v w'=>(∃ b:Bool,v=.bool b/\(b=true↔c=c2))/\Ext w w'):=by
 obtain⟨⟨ra,hA⟩,sA,_⟩:=h;obtain⟨⟨rb,hB⟩,sB,_⟩:=h2;have a1:=hA.sl.len;have a2:=hA.len;have a3:=sA.len;have a4:=hA.sl.le;have a5:=sA.le;have b1:=hB.sl.len;have b2:=hB.len;have b3:=sB.len;apply zo2;unfold S16;refine zp fun r1 w1 hb1 he1 hr1 hz1=>?_;refine zp fun r2 w2 hb2 he2 hr2 hz2=>?_;have hb1:Blk w2 r1 (zF x y) 30:=hb1.ext he2;have hb2:Blk w2 r2 (zF x2 y2) 30:=hb2;have he02:=he1.trans he2;have no:∀ {w5:World},Ext w w5->c≠c2->(fun v w'=>(∃ b:Bool,v=Value.bool b/\(b=true↔c=c2))/\Ext w w') (Value.bool false) w5:=fun he hne=>⟨⟨false,rfl,by simp[hne]⟩,he⟩;refine zJ x hb1 (by rfl) (zJ x2 hb2 (by rfl) ?_)
 by_cases hl:x.2.1=x2.2.1
 ·refine zd (bne_eq_false_iff_eq.2 (by omega)) ?_;refine zm 1 y hb1 (by rfl) (zm 1 y2 hb2 (by rfl) ?_)
  by_cases hl2:y.2.1=y2.2.1
  ·refine zd (bne_eq_false_iff_eq.2 (by omega)) ?_;refine zy (fun t w'=>∃ i:Nat,i<=x.2.1/\t=((i:Int),())/\Ext w2 w'/\c.1.take i=c2.1.take i) (fun t=>(x.2.1-t.1).toNat) ⟨0,by omega,rfl,Ext.refl _,rfl⟩ ?_;rintro _ w3 ⟨i,hi,rfl,he3,ht⟩;dsimp only;have hb13:=hb1.ext he3;have hb23:=hb2.ext he3;have he03:=he02.trans he3;refine zJ x hb13 (by rfl) ?_
   by_cases hlt:i<x.2.1
   ·refine zf (decide_eq_true (by omega)) ?_;refine zN fun w4 he4 hz4 hh4=>?_;have hb14:=hb13.ext he4;have hb24:=hb23.ext he4;have he04:=he03.trans he4;have ga:ra[i]?=some (ra.getD i yM):=by rw[getD_eq_getElem?_getD,List.getElem?_eq_getElem (by omega)];rfl
    have gb:rb[i]?=some (rb.getD i yM):=by rw[getD_eq_getElem?_getD,List.getElem?_eq_getElem (by omega)];rfl
    have eA:=(hA.at_ i (by omega)).ext he04;have eB:=(hB.at_ i (by omega)).ext he04;have tA:c.1.take (i+1)=c.1.take i++[c.1.getD i zQ]:=zg4 (by omega);have tB:c2.1.take (i+1)=c2.1.take i++[c2.1.getD i zQ]:=zg4 (by omega);have hne:c.1.getD i zQ≠c2.1.getD i zQ->c≠c2:=fun h e=>h (by rw[e]);generalize ra.getD i yM=p at *;generalize rb.getD i yM=q at *;generalize c.1.getD i zQ=ea at *;generalize c2.1.getD i zQ=eb at *;refine zJ x hb14 (by rfl) ?_;refine xQ (hA.sl.ext he04) (by omega) (x:=p) (by rw[Int.toNat_natCast];exact ga) rfl ?_;intro pa hpa hca;refine qn (ls:=zb6) (x:=zas p) hca ?_;refine zJ x2 hb24 (by rfl) ?_;refine xQ (hB.sl.ext he04) (by omega) (x:=q) (by rw[Int.toNat_natCast];exact gb) rfl ?_;intro pb hpb hcb;refine qn (ls:=zb6) (x:=zas q) hcb ?_;have hw:wrap .i64 ((i:Int)+1)=((i+1:Nat):Int):=by rw[wrap_i64 (by omega) (by omega)];rfl
    rw[hw];refine⟨?a,?b⟩
    case' a=>
     refine zp fun rX w5 hX he5 hr5 hz5=>?_;refine hl4 (ko (hcb.ext he5)) (ym (hb24.ext he5) rfl) (ko (hca.ext he5)) (ym (hb14.ext he5) rfl) ?_;refine zp fun rY w6 hY he6 hr6 hz6=>?_;have he56:=he5.trans he6;refine hl4 (ko (hcb.ext he56)) (ym (hb24.ext he56) rfl) (ko (hca.ext he56)) (ym (hb14.ext he56) rfl) ?_;have hX:=hX.ext he6
    case' b=>
     refine zp fun rY w5 hY he5 hr5 hz5=>?_;refine hl4 (ko (hcb.ext he5)) (ym (hb24.ext he5) rfl) (ko (hca.ext he5)) (ym (hb14.ext he5) rfl) ?_;refine zp fun rX w6 hX he6 hr6 hz6=>?_;have he56:=he5.trans he6;refine hl4 (ko (hcb.ext he56)) (ym (hb24.ext he56) rfl) (ko (hca.ext he56)) (ym (hb14.ext he56) rfl) ?_;have hY:=hY.ext he6
    all_goals
     have he06:=he04.trans he56;have hs04:=he04.size;refine refill (vs:=yv.f p) hX (by rfl) (yv.one _) (by rfl) ?_;intro w7 hX7 hx7 hk7 hz7;have he7:Ext w4 w7:=hx7 w4 he56 (by have:=he5.size;omega);have hY7:Blk w7 rY _ _:=(hk7 rY (by omega)).trans hY;refine jG (ko (hcb.ext he7)) (ym (hb24.ext he7) rfl) ?_;refine refill (vs:=yv.f q) hY7 (by rfl) (yv.one _) (by rfl) ?_;intro w8 hY8 hx8 hk8 hz8;have he8:Ext w4 w8:=hx8 w4 he7 (by have:=he5.size;omega);have hX8:Blk w8 rX (yv.f p) 42:=(hk8 rX (by omega)).trans hX7;have he08:=he04.trans he8;have q1:p.2.2.1=ea.2.2.1:=by rw[eA.rest]
     have q2:p.2.2.2.1=ea.2.2.2.1:=by rw[eA.rest]
     have q3:p.2.2.2.2=ea.2.2.2.2:=by rw[eA.rest]
     have q4:q.2.2.1=eb.2.2.1:=by rw[eB.rest]
     have q5:q.2.2.2.1=eb.2.2.2.1:=by rw[eB.rest]
     have q6:q.2.2.2.2=eb.2.2.2.2:=by rw[eB.rest]
     have q7:=eA.cols.len;have q8:=eB.cols.len;have q9:=eA.cols.le;refine zJ p.1 hX8 (by rfl) (zJ q.1 hY8 (by rfl) ?_);rw[eA.name,eB.name,qh];refine zg (fun hq=>no he08 (hne (fun e=>by rw[e]at hq;simp at hq))) (fun hq=>?_);have n1:ea.1=eb.1:=j9 (by simpa using hq);refine zm 2 ((p.2.2.1:Nat):Int) hX8 (by rfl) (zm 2 ((q.2.2.1:Nat):Int) hY8 (by rfl) ?_);refine zg (fun hq=>no he08 (hne (fun e=>by have:=bne_iff_ne.1 hq;rw[q1,q4,e]at this;exact this rfl))) (fun hq=>?_);have n2:p.2.2.1=q.2.2.1:=by have:=bne_eq_false_iff_eq.1 hq;omega
     refine zm 3 ((p.2.2.2.1:Nat):Int) hX8 (by rfl) (zm 3 ((q.2.2.2.1:Nat):Int) hY8 (by rfl) ?_);refine zg (fun hq=>no he08 (hne (fun e=>by have:=bne_iff_ne.1 hq;rw[q2,q5,e]at this;exact this rfl))) (fun hq=>?_);have n3:p.2.2.2.1=q.2.2.2.1:=by have:=bne_eq_false_iff_eq.1 hq;omega
     refine zm 4 p.2.2.2.2 hX8 (by rfl) (zm 4 q.2.2.2.2 hY8 (by rfl) ?_);refine zg (fun hq=>no he08 (hne (fun e=>by have:=bne_iff_ne.1 hq;rw[q3,q6,e]at this;exact this rfl))) (fun hq=>?_);have n4:p.2.2.2.2=q.2.2.2.2:=bne_eq_false_iff_eq.1 hq;refine zm 1 p.2.1 hX8 (by rfl) (zm 1 q.2.1 hY8 (by rfl) ?_);refine zg (fun hq=>no he08 (hne (fun e=>by have:=bne_iff_ne.1 hq;rw[e]at q7;omega))) (fun hq=>?_);have n5:p.2.1.2.1=q.2.1.2.1:=by have:=bne_eq_false_iff_eq.1 hq;omega
     refine zy (fun t w'=>∃ j:Nat,j<=p.2.1.2.1/\t=((j:Int),())/\Ext w8 w'/\ea.2.1.take j=eb.2.1.take j) (fun t=>(p.2.1.2.1-t.1).toNat) ⟨0,by omega,rfl,Ext.refl _,rfl⟩ ?_;rintro _ w9 ⟨j,hj,rfl,he9,htj⟩;dsimp only;refine zm 1 p.2.1 (hX8.ext he9) (by rfl) ?_
     by_cases hltj:j<p.2.1.2.1
     ·refine zf (decide_eq_true (by omega)) ?_;refine zN fun w10 he10 hz10 hh10=>?_;have he910:=he9.trans he10;have he410:=he8.trans he910;refine zm 1 p.2.1 (hX8.ext he910) (by rfl) ?_;have g1:ea.2.1[j]?=some (ea.2.1[j]'(by omega)):=List.getElem?_eq_getElem (by omega);have g2:eb.2.1[j]?=some (eb.2.1[j]'(by omega)):=List.getElem?_eq_getElem (by omega);have t1:ea.2.1.take (j+1)=ea.2.1.take j++[ea.2.1[j]'(by omega)]:=take_succ_eq_append_getElem (by omega);have t2:eb.2.1.take (j+1)=eb.2.1.take j++[eb.2.1[j]'(by omega)]:=take_succ_eq_append_getElem (by omega);have hnc:ea.2.1[j]'(by omega)≠eb.2.1[j]'(by omega)->c≠c2:=fun h=>hne (fun e=>h (by
       have e2:ea.2.1=eb.2.1:=by rw[e]
       simp only [e2]))
      generalize ea.2.1[j]'(by omega)=ca at *;generalize eb.2.1[j]'(by omega)=cb at *;refine xQ (eA.cols.ext he410) (by omega) (x:=ca) (by rw[Int.toNat_natCast];exact g1) rfl ?_;intro pc hpc hcc;refine qn (ls:=[.str,(.int .i64),.bool]) (x:=(ca.1,ca.2.1,ca.2.2,())) hcc ?_;refine zm 1 q.2.1 (hY8.ext he910) (by rfl) ?_;refine xQ (eB.cols.ext he410) (by omega) (x:=cb) (by rw[Int.toNat_natCast];exact g2) rfl ?_;intro pd hpd hcd;refine qn (ls:=[.str,(.int .i64),.bool]) (x:=(cb.1,cb.2.1,cb.2.2,())) hcd ?_;refine⟨_,fun w'=>zqu w' ca cb _ _,?_⟩;refine zg (fun hq=>no (he08.trans he910) (hnc (fun e=>by rw[zgx.2 e]at hq;cases hq))) (fun hq=>?_);have n6:ca=cb:=zgx.1 (by simpa using hq);exact⟨⟨j+1,by omega,by rw[wrap_i64 (by omega) (by omega)];rfl,he910,by rw[t1,t2,htj,n6]⟩,by rw[wrap_i64 (by omega) (by omega)];omega⟩
     ·refine zd (decide_eq_false (by omega)) ?_;have n7:ea.2.1=eb.2.1:=by
       rw[take_of_length_le (by omega),take_of_length_le (by omega)]at htj;exact htj
      have n8:ea=eb:=Prod.ext n1 (Prod.ext n7 (by rw[<- eA.rest,<- eB.rest];exact Prod.ext n2 (Prod.ext n3 n4)));exact⟨⟨i+1,by omega,rfl,(he3.trans he4).trans (he8.trans he9),by rw[tA,tB,ht,n8]⟩,by omega⟩
   ·refine zd (decide_eq_false (by omega)) ?_;have n1:c.1=c2.1:=by
     rw[take_of_length_le (by omega),take_of_length_le (by omega)]at ht;exact ht
    refine zy (fun t w'=>∃ i:Nat,i<=y.2.1/\t=((i:Int),())/\Ext w2 w'/\c.2.take i=c2.2.take i) (fun t=>(y.2.1-t.1).toNat) ⟨0,by omega,rfl,he3,rfl⟩ ?_;rintro _ w4 ⟨j,hj,rfl,he4,htj⟩;dsimp only;refine zm 1 y (hb1.ext he4) (by rfl) ?_
    by_cases hltj:j<y.2.1
    ·refine zf (decide_eq_true (by omega)) ?_;refine zN fun w5 he5 hz5 hh5=>?_;have he25:=he4.trans he5;have he05:=he02.trans he25;have g1:c.2[j]?=some (c.2[j]'(by omega)):=List.getElem?_eq_getElem (by omega);have g2:c2.2[j]?=some (c2.2[j]'(by omega)):=List.getElem?_eq_getElem (by omega);have t1:c.2.take (j+1)=c.2.take j++[c.2[j]'(by omega)]:=take_succ_eq_append_getElem (by omega);have t2:c2.2.take (j+1)=c2.2.take j++[c2.2[j]'(by omega)]:=take_succ_eq_append_getElem (by omega);have hnc:c.2[j]'(by omega)≠c2.2[j]'(by omega)->c≠c2:=fun h e=>h (by
      have e2:c.2=c2.2:=by rw[e]
      simp only [e2])
     generalize c.2[j]'(by omega)=ca at *;generalize c2.2[j]'(by omega)=cb at *;refine zm 1 y (hb1.ext he25) (by rfl) ?_;refine xQ (sA.ext he05) (by omega) (x:=ca) (by rw[Int.toNat_natCast];exact g1) rfl ?_;intro pc hpc hcc;refine qn (ls:=zfk) (x:=za6 ca) hcc ?_;refine zm 1 y2 (hb2.ext he25) (by rfl) ?_;refine xQ (sB.ext he05) (by omega) (x:=cb) (by rw[Int.toNat_natCast];exact g2) rfl ?_;intro pd hpd hcd;refine qn (ls:=zfk) (x:=za6 cb) hcd ?_;refine⟨_,fun w'=>zqB w' ca cb _ _,?_⟩;refine zg (fun hq=>no he05 (hnc (fun e=>by rw[zgA.2 e]at hq;cases hq))) (fun hq=>?_);have n6:ca=cb:=zgA.1 (by simpa using hq);exact⟨⟨j+1,by omega,by rw[wrap_i64 (by omega) (by omega)];rfl,he25,by rw[t1,t2,htj,n6]⟩,by rw[wrap_i64 (by omega) (by omega)];omega⟩
    ·refine zd (decide_eq_false (by omega)) ?_;have n2:c.2=c2.2:=by
      rw[take_of_length_le (by omega),take_of_length_le (by omega)]at htj;exact htj
     exact⟨⟨true,rfl,by simp[Prod.ext n1 n2]⟩,he02.trans he4⟩
  ·exact zf (bne_iff_ne.2 (by omega)) (no he02 (fun e=>hl2 (by rw[<- a3,<- b3,e])))
 ·exact zf (bne_iff_ne.2 (by omega)) (no he02 (fun e=>hl (by rw[<- a1,a2,<- b1,b2,e])))
end V
/- Contracts of the package blob:index,parts. -/
namespace V
open Go Go.Proofs Go.RowKit Crc
def qq (S:Spa) (n:Nat):Nat×List Nat×Int:=
 if (S.get n).2≠0 then (0,[],(S.get n).2)
 else if (S.get n).1.1≠6 then (0,[],11)
 else if (S.get n).1.2.2.size≠4 then (0,[],10)
 else if lev (B (S.get n).1.2.2)>65536\/nparts S.r0 (lev (B (S.get n).1.2.2))≠(S.get n).1.2.1.length then (0,[],10)
 else (lev (B (S.get n).1.2.2),(S.get n).1.2.1,0)
def zcb (S:Spa) (want k:Nat):Int:=if (S.get k).2=0/\((S.get k).1.1≠7\/0<(S.get k).1.2.1.length\/(S.get k).1.2.2.size≠want) then 10 else (S.get k).2
def goS (S:Spa):Nat->List Nat->List (ByteArray×Int)
 |_,[]=>[]
 |size,k::ks=>if zcb S (min size S.r0) k≠0 then [(ByteArray.empty,zcb S (min size S.r0) k)] else ((S.get k).1.2.2,0)::goS S (size-min size S.r0) ks
def yf (S:Spa) (n:Nat):List (ByteArray×Int):=if (qq S n).2.2≠0 then [(ByteArray.empty,(qq S n).2.2)] else goS S (qq S n).1 (qq S n).2.1
def jg (l:List (ByteArray×Int)):List (List Value):=l.map fun p=>[.string p.1,.int .i64 p.2]
theorem qg (l:List (ByteArray×Int)):(jg l).length=l.length:=by simp[jg]
theorem zl8 {l:List (ByteArray×Int)} {i:Nat} (h:i<(jg l).length) {p:ByteArray×Int} (hp:l[i]?=some p):(jg l)[i]=[.string p.1,.int .i64 p.2]:=by
 obtain⟨h1,h2⟩:=List.getElem?_eq_some_iff.1 hp;simp[jg,h2]
variable {w w':World} {b db:Nat} {S:Spa} {F Fd:Nat->Prop} {x:SLC} {hb hr nb nr:Nat} {m:MkL}
theorem zeD {n:Nat} (h:(S.get n).2=0):(S.get n).1.2.1.length<=1024/\∀ k∈(S.get n).1.2.1,2<=k/\k<S.N:=by
 unfold Spa.get at h ⊢;split
 ·rename_i hq;rw[if_pos hq]at h;cases h
 ·rename_i hq;rw[if_neg hq]at h;split
  ·rename_i h0;rw[if_pos h0]at h;cases h
  ·exact zbZ
theorem zia (h:SpM w b db S F Fd x hb hr nb nr m) {n:Nat} (hn:n<4294967296):
  Calls prog 160 #[.pointer (some ⟨b,0,none⟩),.int .u32 (n:Int)] w (Ret fun v w'=>∃ y:SLC,v=.tuple #[.int .i64 ((qq S n).1:Int),.slice y.1 y.2.1 y.2.2,.int .i64 (qq S n).2.2]/\Owni (zw .u32) 39 w' w.heap.size y.1 y.2.1 y.2.2 (qq S n).2.1/\Ext w w'):=by
 obtain⟨q0,q1,q2,q3⟩:=xK h.dims;apply znm;unfold S160 qq;refine zb (vq h hn) ?_;rintro _ w1 ⟨y,rfl,hok,he1⟩;refine⟨(pgT (S.get n).1 y,(S.get n).2,()),rfl,?_⟩;refine yh (vs:=pgV (S.get n).1 y) (by rfl) (jo _ _) (fun r2 w2 hb2 he2 hr2=>?_) (by rfl);have he:=he1.trans he2;have hok2:=hok.ext he2;dsimp only;refine zg (fun hq=>?_) (fun hq=>?_)
 ·have hq:=bne_iff_ne.1 hq;rw[if_pos hq];exact⟨(none,0,0),rfl,Owni.nil _ _ _,he⟩
 have h0:=bne_eq_false_iff_eq.1 hq;rw[if_neg (fun hh=>hh h0)];have hkl:=zeD h0;have hyn:=hok2.len;refine zJ (((S.get n).1.1.toNat:Nat):Int) hb2 (by rfl) ?_;refine zg (fun hq=>?_) (fun hq=>?_)
 ·have hq:=bne_iff_ne.1 hq;rw[if_pos (by intro e;rw[e]at hq;exact hq rfl)];exact⟨(none,0,0),rfl,Owni.nil _ _ _,he⟩
 have h6:=bne_eq_false_iff_eq.1 hq;have h6':(S.get n).1.1=6:=by
  apply UInt8.toNat_inj.1;show _=6;omega
 rw[if_neg (fun hh=>hh h6')];refine zm 2 (S.get n).1.2.2 hb2 (by rfl) ?_;refine zg (fun hq=>?_) (fun hq=>?_)
 ·have hq:=bne_iff_ne.1 hq;rw[if_pos (by omega)];exact⟨(none,0,0),rfl,Owni.nil _ _ _,he⟩
 have h4:=bne_eq_false_iff_eq.1 hq;have h4':(S.get n).1.2.2.size=4:=by omega
 rw[if_neg (fun hh=>hh h4')];refine zm 2 (S.get n).1.2.2 hb2 (by rfl) ?_;refine vk (u:=.string) (e:=5) (by kernel_rfl) (by kernel_rfl) (by kernel_rfl) (by omega) ?_;intro c w3 hsl he3 hs3 hc3;refine zb (qZ hsl (by dsimp only;omega)) ?_;rintro _ w4 ⟨rfl,he4⟩;refine⟨_,rfl,?_⟩;have hlv:lev (B (S.get n).1.2.2)<4294967296:=by
  have:=zlC (B (S.get n).1.2.2);unfold rd at this;have hl:(B (S.get n).1.2.2).length=4:=by rw[<- yu];exact h4'
  rw[if_neg (by omega),take_of_length_le (by omega)]at this;exact this
 generalize lev (B (S.get n).1.2.2)=z at *;have he34:=he3.trans he4;have he04:=he.trans he34;refine zb (ja (h.ext he04) (k:=0) (by omega) (by omega)) ?_;rintro _ w5 ⟨rfl,he5⟩;refine⟨_,rfl,?_⟩;have he05:=he04.trans he5;rw[q0,wrap_i64 (x:=(z:Int)) (by omega) (by omega)];refine zN fun w6 he6 _ _=>?_;have he06:=he05.trans he6;have he26:=(he34.trans he5).trans he6;refine zg (fun hq=>?_) (fun hq=>?_)
 ·have hq:=of_decide_eq_true hq;rw[if_pos (.inl (by omega))];exact⟨(none,0,0),rfl,Owni.nil _ _ _,he06⟩
 have hz:=of_decide_eq_false hq;refine zH (by omega) ?_;refine zm (l:=.slc) 1 y (hb2.ext he26) (by rfl) ?_;have hnp:nparts S.r0 z<=65536:=by
  unfold nparts;rw[Nat.div_le_iff_le_mul_add_pred (by omega)];have:110*65536<=S.r0*65536:=Nat.mul_le_mul_right _ q1;omega
 have eM:wrap .i64 (Int.tdiv (wrap .i64 (wrap .i64 ((z:Int)+(S.r0:Int))-1)) (S.r0:Int))=(nparts S.r0 z:Int):=by
  rw[wrap_i64 (x:=(z:Int)+(S.r0:Int)) (by omega) (by omega),wrap_i64 (x:=(z:Int)+(S.r0:Int)-1) (by omega) (by omega)];rw[show(z:Int)+(S.r0:Int)-1=((z+S.r0-1:Nat):Int) by omega,show Int.tdiv ((z+S.r0-1:Nat):Int) (S.r0:Int)=(((z+S.r0-1) / S.r0:Nat):Int) from rfl];have:(z+S.r0-1) / S.r0=nparts S.r0 z:=rfl;rw[this,wrap_i64 (by omega) (by omega)]
 rw[eM];refine zg (fun hq=>?_) (fun hq=>?_)
 ·have hq:=bne_iff_ne.1 hq;rw[if_pos (.inr (by omega))];exact⟨(none,0,0),rfl,Owni.nil _ _ _,he06⟩
 have hq:=bne_eq_false_iff_eq.1 hq;rw[if_neg (by omega)];refine zN fun w7 he7 _ _=>?_;refine zm (l:=.slc) 1 y ((hb2.ext he26).ext he7) (by rfl) ?_;exact⟨y,rfl,(hok2.ext he26).ext he7,he06.trans he7⟩
def NoB (w:World) (k:Nat):Prop:=∀ o,w.heap[k]?=some o->∀ c fz,o≠.cells c 5 fz
theorem NoB.at_ {w w':World} {k:Nat} (h:NoB w k) (e:w'.heap[k]?=w.heap[k]?):NoB w' k:=fun o ho=>h o (e▸ho)
theorem zf0 {w:World} {k:Nat} {cs:List Value} {t:TypeId} (h:Blk w k cs t) (ht:t≠5):NoB w k:=fun o ho c fz e=>by
 have h':w.heap[k]?=some _:=h;rw[h']at ho;injection ho with ho
 rw[<- ho]at e;injection e with _ e2 _
 exact ht e2
theorem zqC {α:Type} {E:Enc α} {w:World} {B n c:Nat} {A:Option Addr} {xs:List α} {e:TypeId} (h:Owni E e w B A n c xs) (he:e≠5):∀ q,orow A=some q->NoB w q:=fun q hq o ho c' fz ee=>by
 rcases h.2 with ⟨hv,_⟩|⟨g,cap,cur,hv,_,hg,_⟩
 ·injection hv with hv;subst hv;cases hq
 ·injection hv with hv
  subst hv;have:g=q:=Option.some.inj hq;subst this;rw[hg]at ho;injection ho with ho
  rw[<- ho]at ee;injection ee with _ e2 _
  exact he e2
def RSp (b db:Nat) (S:Spa) (F Fd:Nat->Prop) (x:SLC) (hb hr nb nr:Nat) (m:MkL):WP:=fun w=>SpM w b db S F Fd x hb hr nb nr m
def Two (b n r1 r2:Nat):WP:=fun w=>Blk w r1 [.pointer (some ⟨b,0,none⟩)] 24/\Blk w r2 [.int .u32 (n:Int)] 39
theorem zkV {N0 l n r1 r2:Nat} {J:(Nat->Prop)->Nat->WP} {E:(Nat->Prop)->WP} {Q:Nat->Prop} {wc:World} (hn:n<4294967296) (hF0:∀ k,F k->k<N0) (hN0:N0<=wc.heap.size) (hQ1:Q r1) (hQB:∀ k,Q k->NoB wc k) (hQN:∀ k,Q k->N0<=k)
  (hJ0:J Q 0 wc) (hQc:∀ k,Q k->k<wc.heap.size) (hR0:Two b n r1 r2 wc) (hJR:∀ V i w',J V i w'->RSp b db S F Fd x hb hr nb nr m w')
  (hJ:∀ (V V':Nat->Prop) i w' w'',J V i w'->Only V w' w''->(∀ k,V' k->V k\/w'.heap.size<=k)->RSp b db S F Fd x hb hr nb nr m w''->J V' i w'')
  (hY:∀ (V:Nat->Prop) i w' (h:i<(jg (yf S n)).length),J V i w'->(∀ k,V k->k<w'.heap.size)->(∀ k,V k->NoB w' k)->jh prog l (jg (yf S n))[i] w' fun v w''=>w'.heap.size<=w''.heap.size/\(∀ k,V k->w''.heap[k]?=w'.heap[k]?)/\
   ((v=.bool true/\RSp b db S F Fd x hb hr nb nr m w''/\J V (i+1) w'')\/(v=.bool false/\E V w''))):
  Calls prog 159 #[.func (.yield l) #[] #[],.pointer (some ⟨r1,0,none⟩),.pointer (some ⟨r2,0,none⟩)] wc (Ret fun _ w'=>∃ V:Nat->Prop,(J V (jg (yf S n)).length w'/\(∀ k,V k->Q k\/wc.heap.size<=k)/\True)\/E V w'):=by
 obtain⟨k1,k2⟩:=hR0;have hS:=hJR _ _ _ hJ0;have hS':SpM wc b db S F Fd x hb hr nb nr m:=hS;obtain⟨q0,q1,q2,q3⟩:=xK hS'.dims;have hRst:∀ {w1 w2:World},RSp b db S F Fd x hb hr nb nr m w1->Ext w1 w2->RSp b db S F Fd x hb hr nb nr m w2:=fun h e=>SpM.ext h e;apply znl;unfold S159;refine zn (x:=some ⟨b,0,none⟩) k1 (by rfl) (zn (x:=(n:Int)) k2 (by rfl) ?_);refine zb (zia hS' hn) ?_;rintro _ w1 ⟨y,rfl,hok,he1⟩;refine⟨(((qq S n).1:Int),y,(qq S n).2.2,()),rfl,?_⟩;dsimp only
 -- a yield, whatever comes behind
 have yld:∀ {V:Nat->Prop} {i:Nat} {w2:World} {p:ByteArray×Int} {K:Bool->WP},J V i w2->(∀ k,V k->k<w2.heap.size)->(∀ k,V k->NoB w2 k)->(yf S n)[i]?=some p->(∀ w3,w2.heap.size<=w3.heap.size->(∀ k,V k->w3.heap[k]?=w2.heap[k]?)->RSp b db S F Fd x hb hr nb nr m w3->J V (i+1) w3->K true w3)->(∀ w3,E V w3->K false w3)->
   yD prog (.func (.yield l) #[] #[]) [.string p.1,.int .i64 p.2] (.one (.one .bool)) K w2:=by
  intro V i w2 p K hJ2 hV2 hB2 hp hK1 hK2;have hidx:i<(jg (yf S n)).length:=by rw[qg];exact(List.getElem?_eq_some_iff.1 hp).1
  refine .inr ⟨l,rfl,?_⟩;have hy:=hY V i w2 hidx hJ2 hV2 hB2;rw[zl8 hidx hp]at hy;obtain⟨fn,tmps,asg,bd,hy1,hy2⟩:=hy;refine⟨fn,tmps,asg,bd,hy1,RoundIn.mono hy2 ?_⟩;rintro(v|cc|_) w6 hvv
  ·obtain⟨a1,a2,⟨rfl,a3,a4⟩|⟨rfl,a3⟩⟩:=hvv
   ·exact⟨true,rfl,hK1 w6 a1 a2 a3 a4⟩
   ·exact⟨false,rfl,hK2 w6 a3⟩
  ·exact hvv
  ·exact hvv
 have he1s:=he1.size
 let V1:Nat->Prop:=fun q=>Q q\/orow y.1=some q
 have hV1n:∀ q,V1 q->Q q\/wc.heap.size<=q:=fun q hq=>by
  rcases hq with hq|hq
  ·exact .inl hq
  ·exact .inr (hok.row q hq)
 have hV1l:∀ q,V1 q->q<w1.heap.size:=fun q hq=>by
  rcases hq with hq|hq
  ·exact Nat.lt_of_lt_of_le (hQc q hq) he1s
  ·exact hok.ye q hq
 have hV1b:∀ q,V1 q->NoB w1 q:=fun q hq=>by
  rcases hq with hq|hq
  ·exact(hQB q hq).at_ (he1.block q (hQc q hq))
  ·exact zqC hok (by decide) q hq
 have hJ1:J V1 0 w1:=hJ _ _ _ _ _ hJ0 (Only.zz he1) hV1n (hRst hS he1);refine zg (fun hq=>?_) (fun hq=>?_)
 ·have hq:=bne_iff_ne.1 hq;have ep:yf S n=[(ByteArray.empty,(qq S n).2.2)]:=by unfold yf;rw[if_pos hq]
  refine yld (p:=(ByteArray.empty,(qq S n).2.2)) hJ1 hV1l hV1b (by rw[ep];rfl) (fun w3 _ _ _ hJ3=>⟨V1,.inl ⟨?_,hV1n,trivial⟩⟩) (fun w3 hE=>⟨V1,.inr hE⟩);rw[qg,ep];exact hJ3
 have hq:=bne_eq_false_iff_eq.1 hq;have ep:yf S n=goS S (qq S n).1 (qq S n).2.1:=by unfold yf;rw[if_neg (fun hh=>hh hq)]
 have hyn:=hok.len;have hkn:∀ k∈(qq S n).2.1,k<4294967296:=by
  intro k hk;have hd:=hS'.dims.n;unfold qq at hk;split at hk
  ·cases hk
  ·rename_i h0;have h0:(S.get n).2=0:=by omega
   have:=zeD h0;split at hk
   ·cases hk
   ·split at hk
    ·cases hk
    ·split at hk
     ·cases hk
     ·have:=this.2 k hk;omega
 have hz65:(qq S n).1<=65536:=by
  unfold qq;split
  ·omega
  ·split
   ·omega
   ·split
    ·omega
    ·split
     ·omega
     ·rename_i hh;omega
 have hle:=hok.le;generalize hks:(qq S n).2.1=ks at *;generalize hsz0:(qq S n).1=z0 at *;refine zy (fun y' w'=>∃ (j zj:Nat) (V:Nat->Prop),j<=y.2.1/\y'=((zj:Int),(j:Int),())/\zj<=65536/\(yf S n).drop j=goS S zj (ks.drop j)/\j<=(yf S n).length/\J V j w'/\(∀ q,V1 q->V q)/\(∀ q,V q->Q q\/wc.heap.size<=q)/\(∀ q,V q->q<w'.heap.size)/\(∀ q,V q->NoB w' q)/\(∀ q,V1 q->w'.heap[q]?=w1.heap[q]?)/\w1.heap.size<=w'.heap.size) (fun y'=>(y.2.1-y'.2.1).toNat)
  ⟨0,z0,V1,by omega,rfl,hz65,by rw[ep];rfl,by omega,hJ1,fun q h=>h,hV1n,hV1l,hV1b,fun _ _=>rfl,Nat.le_refl _⟩ ?_
 rintro _ w2 ⟨j,zj,V,hj,rfl,hzj,hdrop,hjl,hJ2,hVV,hVn,hVl,hVb,hkp,hs12⟩;dsimp only;have hS2:=hJR _ _ _ hJ2;have hS2':SpM w2 b db S F Fd x hb hr nb nr m:=hS2;have k1w:=(k1.ext he1).at_ (hkp r1 (.inl hQ1));have hslj:Sli (zw .u32) w2 y.1 y.2.1 ks:=hok.sl.congr (fun a ha=>hkp _ (.inr (by rw[ha];rfl)))
 by_cases hlt:j<y.2.1
 ·refine zf (decide_eq_true (by omega)) ?_;refine ya hslj (by omega) (by omega) ?_;rw[Int.toNat_natCast];have eg:ks[j]?=some (ks.getD j 0):=by rw[getD_eq_getElem?_getD,List.getElem?_eq_getElem (by omega)];rfl
  have hk32:=hkn _ (mem_of_getElem? eg);have edrop:ks.drop j=ks.getD j 0::ks.drop (j+1):=by
   obtain⟨h1,h2⟩:=List.getElem?_eq_some_iff.1 eg;rw[drop_eq_getElem_cons h1,h2]
  rw[edrop]at hdrop;generalize ks.getD j 0=k at *;refine zn (x:=some ⟨b,0,none⟩) k1w (by rfl) ?_;refine zb (ja hS2' (k:=0) (by omega) (by omega)) ?_;rintro _ w3 ⟨rfl,he3⟩;refine⟨_,rfl,?_⟩;rw[q0];refine zn (x:=some ⟨b,0,none⟩) (k1w.ext he3) (by rfl) ?_;refine zb (vq (hS2'.ext he3) hk32) ?_;rintro _ w4 ⟨y2,rfl,hok4,he4⟩;refine⟨(pgT (S.get k).1 y2,(S.get k).2,()),rfl,?_⟩;refine yh (vs:=pgV (S.get k).1 y2) (by rfl) (jo _ _) (fun r13 w5 hb5 he5 hr5=>?_) (by rfl);have he25:=(he3.trans he4).trans he5;have h25:=he25.size;have hkl:(S.get k).2=0->(S.get k).1.2.1.length<=1024:=fun h0=>(zeD h0).1;have hy2n:=hok4.len;have ewant:(if ((S.r0:Nat):Int)<(zj:Int) then ((S.r0:Nat):Int) else (zj:Int))=((min zj S.r0:Nat):Int):=by split<;>omega
  rw[ewant];dsimp only;refine yq (fun y' w'=>y'=(zcb S (min zj S.r0) k,())/\w'=w5) ?_ (fun J' hJ'=>?_);rotate_left
  ·unfold zcb at hJ';refine zg (fun hq=>?_) (fun hq=>?_)
   ·have hq:=beq_iff_eq.1 hq;refine zJ (((S.get k).1.1.toNat:Nat):Int) hb5 (by rfl) ?_;refine zg (fun h7=>?_) (fun h7=>?_)
    ·have h7:=bne_iff_ne.1 h7;exact hJ' _ _ ⟨by rw[if_pos ⟨hq,.inl (fun e=>by rw[e]at h7;exact h7 rfl)⟩],rfl⟩
    have h7:=bne_eq_false_iff_eq.1 h7;have h7':(S.get k).1.1=7:=by
     apply UInt8.toNat_inj.1;show _=7;omega
    refine zm (l:=.slc) 1 y2 hb5 (by rfl) ?_;refine zg (fun h8=>?_) (fun h8=>?_)
    ·have h8:=of_decide_eq_true h8;exact hJ' _ _ ⟨by rw[if_pos ⟨hq,.inr (.inl (by omega))⟩],rfl⟩
    have h8:=of_decide_eq_false h8;refine zm 2 (S.get k).1.2.2 hb5 (by rfl) ?_;refine zg (fun h9=>?_) (fun h9=>?_)
    ·have h9:=bne_iff_ne.1 h9;exact hJ' _ _ ⟨by rw[if_pos ⟨hq,.inr (.inr (by omega))⟩],rfl⟩
    have h9:=bne_eq_false_iff_eq.1 h9;exact hJ' _ _ ⟨by rw[if_neg (by rintro⟨_,e|e|e⟩;exact e h7';omega;omega)],rfl⟩
   ·have hq:¬(S.get k).2=0:=beq_eq_false_iff_ne.1 hq;exact hJ' _ _ ⟨by rw[if_neg (fun e=>hq e.1)],rfl⟩
  rintro y' w6 ⟨rfl,hw6⟩;rw[hw6];dsimp only
  let V2:Nat->Prop:=fun q=>V q\/q=r13
  have hr13:w2.heap.size<=r13:=Nat.le_trans (he3.trans he4).size hr5;have hV2n:∀ q,V2 q->V q\/w2.heap.size<=q:=fun q hq=>by
   rcases hq with hq|rfl
   ·exact .inl hq
   ·exact .inr hr13
  have hJ5:J V2 j w5:=hJ _ _ _ _ _ hJ2 (Only.zz he25) hV2n (hRst hS2 he25);have hV2l:∀ q,V2 q->q<w5.heap.size:=fun q hq=>by
   rcases hq with hq|rfl
   ·exact Nat.lt_of_lt_of_le (hVl q hq) h25
   ·exact hb5.lt
  have hV2b:∀ q,V2 q->NoB w5 q:=fun q hq=>by
   rcases hq with hq|rfl
   ·exact(hVb q hq).at_ (he25.block q (hVl q hq))
   ·exact zf0 hb5 (by decide)
  have hV2Q:∀ q,V2 q->Q q\/wc.heap.size<=q:=fun q hq=>by
   rcases hV2n q hq with e|e
   ·exact hVn q e
   ·exact .inr (by omega)
  have hkp5:∀ q,V1 q->w5.heap[q]?=w1.heap[q]?:=fun q hq=>(he25.block q (hVl q (hVV q hq))).trans (hkp q hq);have hget0:∀ p r,(yf S n).drop j=p::r->(yf S n)[j]?=some p/\(yf S n).drop (j+1)=r/\j+1<=(yf S n).length:=fun p r hh=>by
   have h1:((yf S n).drop j)[0]?=some p:=by rw[hh];rfl
   rw[List.getElem?_drop,Nat.add_zero]at h1;refine⟨h1,?_,(List.getElem?_eq_some_iff.1 h1).1⟩;have h2:=congrArg (List.drop 1) hh;rw[drop_drop]at h2
   simpa using h2
  refine zg (fun hq=>?_) (fun hq=>?_)
  ·have hq:=bne_iff_ne.1 hq;rw[goS,if_pos hq]at hdrop;obtain⟨g1,g2,g3⟩:=hget0 _ _ hdrop;have hl1:(yf S n).length=j+1:=by
    have:=congrArg List.length hdrop;rw[length_drop,length_singleton]at this;omega
   refine yld (p:=(ByteArray.empty,zcb S (min zj S.r0) k)) hJ5 hV2l hV2b g1 (fun w7 _ _ _ hJ7=>⟨V2,.inl ⟨?_,hV2Q,trivial⟩⟩) (fun w7 hE=>⟨V2,.inr hE⟩);rw[qg,hl1];exact hJ7
  have hq:=bne_eq_false_iff_eq.1 hq;rw[goS,if_neg (fun hh=>hh hq)]at hdrop;obtain⟨g1,g2,g3⟩:=hget0 _ _ hdrop;refine zm 2 (S.get k).1.2.2 hb5 (by rfl) ?_;refine yld (p:=((S.get k).1.2.2,0)) hJ5 hV2l hV2b g1 (fun w7 a1 a2 a3 a4=>?_) (fun w7 hE=>zf (by rfl) ⟨V2,.inr hE⟩);refine zd (by rfl) ?_;have w1':wrap .i64 ((zj:Int)-((min zj S.r0:Nat):Int))=((zj-min zj S.r0:Nat):Int):=by rw[wrap_i64 (by omega) (by omega)];omega
  have w2':wrap .i64 ((j:Int)+1)=((j+1:Nat):Int):=by rw[wrap_i64 (by omega) (by omega)];rfl
  rw[w1',w2'];refine⟨⟨j+1,zj-min zj S.r0,V2,by omega,rfl,by omega,g2,g3,a4,fun q hq=>.inl (hVV q hq),hV2Q,fun q hq=>Nat.lt_of_lt_of_le (hV2l q hq) a1,fun q hq=>(hV2b q hq).at_ (a2 q hq),fun q hq=>(a2 q (.inl (hVV q hq))).trans (hkp5 q hq),by omega⟩,by omega⟩
 ·obtain rfl:j=y.2.1:=by omega
  refine zd (decide_eq_false (by omega)) ?_;rw[drop_of_length_le (l:=ks) (by omega),goS]at hdrop;have hl1:(yf S n).length=y.2.1:=by
   have:=congrArg List.length hdrop;rw[length_drop,length_nil]at this;omega
  refine⟨V,.inl ⟨?_,hVn,trivial⟩⟩;rw[qg,hl1];exact hJ2
theorem zjf (h:SpM w b db S F Fd x hb hr nb nr m) {n:Nat} (hn:n<4294967296):
  Calls prog 129 #[.pointer (some ⟨b,0,none⟩),.int .u32 (n:Int)] w (Ret fun v w'=>∃ (Q:Nat->Prop) (R0:WP),zg2 prog v (jg (yf S n)) (RSp b db S F Fd x hb hr nb nr m) Q R0 (fun _=>True) NoB/\R0 w'/\(∀ w1 w2,R0 w1->Ext w1 w2->R0 w2)/\(∀ k,Q k->k<w'.heap.size)/\(∀ k,Q k->w.heap.size<=k)/\Ext w w'):=by
 have hFlt:=h.lt;apply zmY;unfold S129;refine zp fun r1 w1 hb1 he1 hr1 hz1=>?_;refine zp fun r2 w2 hb2 he2 hr2 hz2=>?_;have he:=he1.trans he2;have hs1:=he1.size;refine⟨fun k=>k=r1\/k=r2,Two b n r1 r2,?_,⟨hb1.ext he2,hb2⟩,fun w1 w2 h1 h2=>⟨h1.1.ext h2,h1.2.ext h2⟩,fun k hk=>by rcases hk with rfl|rfl<;>omega,fun k hk=>by rcases hk with rfl|rfl<;>omega,he⟩;refine⟨_,_,rfl,by kernel_rfl,fun l J E wc hJ0 hQc hR0c hJR hJs hEs hY=>?_⟩;exact zkV (N0:=w.heap.size) hn hFlt (by have:=hQc r1 (.inl rfl);omega) (.inl rfl) (fun k hk=>by rcases hk with rfl|rfl;exact zf0 hR0c.1 (by decide);exact zf0 hR0c.2 (by decide)) (fun k hk=>by rcases hk with rfl|rfl<;>omega) hJ0 hQc hR0c hJR hJs hY
end V
/- Contracts of the package blob:Get,Parts. -/
namespace V
open Go Go.Proofs Go.RowKit Crc
variable {w w':World} {b db:Nat} {S:Spa} {F Fd:Nat->Prop} {x:SLC} {hb hr nb nr:Nat} {m:MkL}
def BdV (V:Nat->Prop) (w:World) (b:Nat) (l:List UInt8):Prop:=∃ p v,(p=.pointer none\/p=.pointer (some ⟨b,0,none⟩))/\w.heap[b]?=some (.cells #[p,v] 182 (0,0))/\w.ownsRowF b 5 1 v (Lib.byteCells l).length (Lib.byteCells l)/\v.ownBlock≠some b/\∀ j,v.ownBlock=some j->¬V j
theorem BdV.is {V:Nat->Prop} {w:World} {b:Nat} {l:List UInt8} (h:BdV V w b l):Lib.IsBuilderF 182 5 b b (Lib.byteCells l) w:=by
 obtain⟨p,v,rfl|rfl,h1,h2,h3,_⟩:=h
 ·exact .inl ⟨Nat.le_refl _,v,h1,h2,h3⟩
 ·exact .inr ⟨Nat.le_refl _,v,h1,h2,h3⟩
theorem BdV.only {V V' G:Nat->Prop} {w w':World} {b:Nat} {l:List UInt8} (h:BdV V w b l) (hO:Only G w w') (hb:¬G b) (hG:∀ j,G j->V j\/w.heap.size<=j\/j<b) (hV:∀ j,V' j->V j\/w.heap.size<=j):BdV V' w' b l:=by
 obtain⟨p,v,hp,h1,h2,h3,h4⟩:=h;have hlt:=(Array.getElem?_eq_some_iff.1 h1).1;refine⟨p,v,hp,(hO.2.2.2.2 b hlt hb).trans h1,?_,h3,fun j hj hv=>?_⟩
 ·refine⟨h2.1,?_⟩;rcases h2.2 with hn|⟨g,cap,cur,fz,rfl,hbb,hgg,rest⟩
  ·exact .inl hn
  ·refine .inr ⟨g,cap,cur,fz,rfl,hbb,?_,rest⟩;have hgl:=(Array.getElem?_eq_some_iff.1 hgg).1;rw[hO.2.2.2.2 g hgl (fun hh=>by
    rcases hG g hh with e|e|e
    ·exact h4 g rfl e
    ·omega
    ·omega)]
   exact hgg
 ·rcases hV j hv with e|e
  ·exact h4 j hj e
  ·have:=(World.ownsRowF.lt h2 j hj).2;omega
theorem BdV.new {V:Nat->Prop} {w:World} {b:Nat} (h:Blk w b [.pointer none,.slice none 0 0] 182):BdV V w b []:=
 ⟨_,_,.inl rfl,h,World.ownsRowF_nil w b _ 1,(fun e=>by cases e),(fun j hj=>by cases hj)⟩
theorem BdV.lt {V:Nat->Prop} {w:World} {b:Nat} {l:List UInt8} (h:BdV V w b l):b<w.heap.size:=by
 obtain⟨p,v,hp,h1,_⟩:=h;exact(Array.getElem?_eq_some_iff.1 h1).1
theorem zkW {V:Nat->Prop} {w:World} {b:Nat} {l:List UInt8} (h:BdV V w b l) (s:ByteArray) (hl:l.length+s.size<=140737488355000) (hV:∀ k,V k->k<w.heap.size/\k≠b/\NoB w k):
  Calls prog 101 #[.pointer (some ⟨b,0,none⟩),.string s] w (Ret fun v w'=>v=.tuple #[.int .i64 s.size,.nilIface]/\BdV V w' b (l++B s)/\Below b w w'/\∀ k,k<w.heap.size->k≠b->NoB w k->w'.heap[k]?=w.heap[k]?):=
 (Tryz.Builder_WriteString_k b b (Lib.byteCells l) s w h.is (by rw[Lib.byteCells_length];omega) (Nat.le_of_lt h.lt)).mono (by
  rintro e w' ⟨rfl,⟨h1,v,h2,h3,h4⟩,hB,hK⟩
  have keep:∀ k,k<w.heap.size->k≠b->NoB w k->w'.heap[k]?=w.heap[k]?:=fun k h1 h2 h3=>by
   have e:=Array.getElem?_eq_getElem h1
   rw[e]
   exact hK k _ e (fun e'=>h2 (Option.some.inj e')) (fun c fz=>h3 _ e c fz)
  refine⟨rfl,⟨_,v,.inr rfl,h2,?_,h4,fun j hj hv=>?_⟩,hB,keep⟩
  ·have ee:Lib.byteCells (l++B s)=Lib.byteCells l++Lib.strCells s:=by simp[Lib.byteCells,strCells_eq,bV]
   rw[ee]
   exact h3
  ·obtain⟨v1,v2,v3⟩:=hV j hv
   rcases h3.2 with ⟨hn,_⟩|⟨g,cap,cur,fz,hvv,_,hgg,_⟩
   ·subst hn;cases hj
   ·subst hvv
    have:g=j:=Option.some.inj hj
    subst this
    rw[keep g v1 v2 v3]at hgg
    exact v3 _ hgg cur fz rfl)
theorem zjg {V:Nat->Prop} {w:World} {b:Nat} {l:List UInt8} (h:BdV V w b l):
  Calls prog 103 #[.pointer (some ⟨b,0,none⟩)] w (Ret fun v w'=>v=.string (mkB l)/\Below b w w'/\∀ k,k<w.heap.size->k≠b->NoB w k->w'.heap[k]?=w.heap[k]?):=
 (Tryz.Builder_String_any_k b b l w h.is (Nat.le_of_lt h.lt)).mono (by
  rintro e w' ⟨rfl,_,hB,hK⟩
  refine⟨rfl,hB,fun k h1 h2 h3=>?_⟩
  have e:=Array.getElem?_eq_getElem h1
  rw[e]
  exact hK k _ e (fun e'=>h2 (Option.some.inj e')) (fun c fz=>h3 _ e c fz))
def zcc (S:Spa) (n:Nat):ByteArray×Int:=match (yf S n).find? (fun p=>decide (p.2≠0)) with
 |some p=>(ByteArray.empty,p.2)
 |none=>(mkB ((yf S n).flatMap fun p=>B p.1),0)
theorem zkX {l:List (ByteArray×Int)} {i:Nat} {p:ByteArray×Int} (hp:l[i]?=some p) (hne:p.2≠0) (hno:∀ (j:Nat) (q:ByteArray×Int),j<i->l[j]?=some q->q.2=0):l.find? (fun p=>decide (p.2≠0))=some p:=by
 induction l generalizing i with
 |nil=>simp at hp
 |cons a t ih=>
  cases i with
  |zero=>
   simp only [List.getElem?_cons_zero,Option.some.injEq]at hp;subst hp;rw[List.find?_cons,decide_eq_true hne]
  |succ i=>
   have h0:=hno 0 a (by omega) rfl;rw[List.find?_cons,decide_eq_false (fun e=>e h0)];exact ih (i:=i) (by simpa using hp) (fun j q hj hq=>hno (j+1) q (by omega) (by simpa using hq))
theorem zgB {l:List (ByteArray×Int)} (hno:∀ (j:Nat) (q:ByteArray×Int),l[j]?=some q->q.2=0):l.find? (fun p=>decide (p.2≠0))=none:=by
 rw[List.find?_eq_none];intro p hp;obtain⟨j,hj,e⟩:=mem_iff_getElem.1 hp;have:=hno j p (by rw[List.getElem?_eq_getElem hj,e]);simp[this]
def jr (S:Spa) (n i:Nat):List UInt8:=((yf S n).take i).flatMap fun p=>B p.1
theorem zkY (h:SpM w b db S F Fd x hb hr nb nr m) {n:Nat} (hn:n<4294967296) (hlen:(yf S n).length<=100000) (hsz0:∀ p∈yf S n,p.1.size<=5000):
  Calls prog 88 #[.pointer (some ⟨b,0,none⟩),.int .u32 (n:Int)] w (Ret fun v w'=>v=.tuple #[.string (zcc S n).1,.int .i64 (zcc S n).2]/\Ext w w'):=by
 have hFlt:=h.lt;have hbl:∀ i,(jr S n i).length<=i*5000:=by
  intro i
  induction i with
  |zero=>simp[jr]
  |succ i ih=>
   unfold jr at ih ⊢;rw[take_add_one];rw[flatMap_append,length_append];cases hp:(yf S n)[i]? with
   |none=>rw[Option.toList_none,List.flatMap_nil,length_nil,Nat.add_zero];exact Nat.le_trans ih (Nat.mul_le_mul_right _ (Nat.le_succ i))
   |some p=>
    have:=hsz0 p (mem_of_getElem? hp);rw[yu]at this;rw[Option.toList_some,flatMap_cons,List.flatMap_nil,append_nil,Nat.add_mul,Nat.one_mul];exact Nat.add_le_add ih (by omega)
 apply zp3;unfold S88;refine zp fun r1 w1 hb1 he1 hr1 hz1=>?_;refine zp fun r2 w2 hb2 he2 hr2 hz2=>?_;refine zd (by rfl) ?_;refine zp fun r5 w3 hb5 he3 hr5 hz5=>?_;have hb1:=(hb1.ext he2).ext he3;have hb2:=hb2.ext he3;have he:=(he1.trans he2).trans he3;refine zb (zjf (h.ext he) hn) ?_;rintro v w4 ⟨Q,R0,hit,hR0,hRx,hQl,hQ,he4⟩;refine⟨v,rfl,?_⟩;have he04:=he.trans he4;have hb1:=hb1.ext he4;have hb2:=hb2.ext he4;have hb5:=hb5.ext he4;have h34:=he4.size;have hs1:=he1.size;have h04:=he04.size;have hsame:∀ {w' w'':World},yZ w4.heap.size (w4.heap.size+1) w' w''->RSp b db S F Fd x hb hr nb nr m w'->RSp b db S F Fd x hb hr nb nr m w'':=fun hs hS=>
  SpM.qi hS hs (fun hf=>by have:=hFlt _ hf;omega) (fun hf=>by have:=hFlt _ hf;omega)
 have hRb:∀ {w' w'':World},Only (fun k=>r5<=k) w' w''->RSp b db S F Fd x hb hr nb nr m w'->RSp b db S F Fd x hb hr nb nr m w'':=fun hO hS=>SpM.only hS hO (fun j hj hk=>by have:=hFlt _ hj;have:r5<=j:=hk;omega);have hel:∀ i,i<(yf S n).length->(yf S n)[i]?=some ((yf S n).getD i (ByteArray.empty,0)):=fun i hi=>by rw[getD_eq_getElem?_getD,List.getElem?_eq_getElem hi];rfl
 refine zex (fun i=>(((yf S n).getD i (ByteArray.empty,0)).1,((yf S n).getD i (ByteArray.empty,0)).2,())) ?_
  (fun V i w'=>RSp b db S F Fd x hb hr nb nr m w'/\Blk w' r1 [.string ByteArray.empty] 9/\Blk w' r2 [.int .i64 0] 34/\BdV (fun k=>V k\/k=w4.heap.size\/k=w4.heap.size+1) w' r5 (jr S n i)/\(∀ j q,j<i->(yf S n)[j]?=some q->q.2=0)/\Ext w w'/\(∀ k,V k->r5<k)/\w4.heap.size<=w'.heap.size)
  (fun V c w'=>c=.ret/\∃ e:Int,Blk w' r1 [.string ByteArray.empty] 9/\Blk w' r2 [.int .i64 e] 34/\zcc S n=(ByteArray.empty,e)/\Ext w w'/\(∀ k,V k->r5<k)/\w4.heap.size<=w'.heap.size)
  hit hQl (fun w' w'' hs hS=>hsame hs hS) (fun _ _ _ _=>trivial) ?_ ?_ ?_ ?_ ?_ ?_ ?_ ?_
 ·intro i hi;have hi':i<(yf S n).length:=by rw[qg]at hi;exact hi
  simp[jg,hi']
 ·intro V i w' hI;exact hI.1
 ·rintro V V' i w' w'' ⟨g1,g2,g3,g4,g5,g6,g7,g8⟩ hO hV hR;have hno:∀ k,k<=r5->¬(V k\/k=w4.heap.size\/k=w4.heap.size+1):=fun k hk hh=>by
   rcases hh with hh|hh|hh
   ·have:=g7 k hh;omega
   ·omega
   ·omega
  refine⟨hR,g2.only hO (hno r1 (by omega)),g3.only hO (hno r2 (by omega)),?_,g5,Only.ext g6 hO (fun j hj=>?_),fun k hk=>?_,?_⟩
  ·refine BdV.only g4 hO (hno r5 (by omega)) (fun j hj=>.inl hj) (fun j hj=>?_);rcases hj with hj|hj
   ·rcases hV j hj with e|e
    ·exact .inl (.inl e)
    ·exact .inr e
   ·exact .inl (.inr hj)
  ·rcases hj with hj|rfl|rfl
   ·have:=g7 j hj;omega
   ·omega
   ·omega
  ·rcases hV k hk with e|e
   ·exact g7 k e
   ·omega
  ·have:=hO.2.2.2.1;omega
 ·rintro V V' c w' w'' ⟨rfl,e,g1,g2,g3,g6,g7,g8⟩ hO hV;have hno:∀ k,k<=r5->¬(V k\/k=w4.heap.size\/k=w4.heap.size+1):=fun k hk hh=>by
   rcases hh with hh|hh|hh
   ·have:=g7 k hh;omega
   ·omega
   ·omega
  refine⟨rfl,e,g1.only hO (hno r1 (by omega)),g2.only hO (hno r2 (by omega)),g3,Only.ext g6 hO (fun j hj=>?_),fun k hk=>?_,?_⟩
  ·rcases hj with hj|rfl|rfl
   ·have:=g7 j hj;omega
   ·omega
   ·omega
  ·rcases hV k hk with e|e
   ·exact g7 k e
   ·omega
  ·have:=hO.2.2.2.1;omega
 ·intro o;have hx:Ext w4 ((w4.alloc (.deferred (some []))).alloc o):=((Ext.refl w4).alloc _).alloc _;exact⟨(h.ext he04).ext hx,hb1.ext hx,hb2.ext hx,BdV.new (hb5.ext hx),fun j q hj=>by omega,he04.trans hx,fun k hk=>by have:=hQ k hk;omega,hx.size⟩
 ·intro o;exact hRx _ _ hR0 (((Ext.refl w4).alloc _).alloc _)
 ·rintro V i hi w' G N jump hI hsz hV hVb hG;have hi':i<(yf S n).length:=by rw[qg]at hi;exact hi
  have ei:=hel i hi';have hpz:=hsz0 _ (mem_of_getElem? ei);generalize (yf S n).getD i (ByteArray.empty,0)=p at *;refine hG _ w' hI (Nat.le_refl _) (fun _ _=>rfl) ?_;rintro w2' ⟨g1,g2,g3,g4,g5,g6,g7,g8⟩ hs2 hk2 hNC hN' hJ';dsimp only;refine zg (fun hq=>?_) (fun hq=>?_)
  ·have hq:=bne_iff_ne.1 hq;refine zX g2 (by show 0<1;omega) ?_;have a1:=g2.set 0 (.string (ByteArray.mk #[]));have a2:=g3.other (p:=⟨r1,0,none⟩) (by show r1≠r2;omega) (.string (ByteArray.mk #[]));refine zX a2 (by show 0<1;omega) ?_;have a3:=a1.other (p:=⟨r2,0,none⟩) (by show r2≠r1;omega) (.int .i64 p.2);have a4:=a2.set 0 (.int .i64 p.2);refine hJ' .ret _ ⟨rfl,p.2,a3,a4,?_,(g6.set (p:=⟨r1,0,none⟩) (by show w.heap.size<=r1;omega) _).set (p:=⟨r2,0,none⟩) (by show w.heap.size<=r2;omega) _,g7,by simp;omega⟩ (by simp) (fun k hk=>?_)
   ·unfold zcc;rw[zkX ei hq (fun j q hj hq'=>g5 j q hj hq')]
   ·have hkr:k≠r1/\k≠r2:=by
     rcases hk with rfl|rfl|hk
     ·omega
     ·omega
     ·have:=g7 k hk;omega
    rw[Below.heap_setCell _ _ _ _ (by show k≠r2;exact hkr.2),Below.heap_setCell _ _ _ _ (by show k≠r1;exact hkr.1)]
  ·have hq:=bne_eq_false_iff_eq.1 hq;have hbli:=hbl i;have hV2:∀ k,(V k\/k=w4.heap.size\/k=w4.heap.size+1)->k<w2'.heap.size/\k≠r5/\NoB w2' k:=fun k hk=>by
    rcases hk with hk|hk
    ·obtain⟨v1,v2,v3⟩:=hV k hk;exact⟨by omega,by have:=g7 k hk;omega,(hVb k hk).at_ (hk2 k v2 v3)⟩
    ·exact⟨by omega,by omega,fun o ho c fz=>hNC k hk o ho c _ fz⟩
   refine zb (zkW g4 p.1 (by omega) hV2) ?_;rintro _ w5 ⟨rfl,g4',hB,hK⟩;refine⟨(((p.1.size:Nat):Int),.nilIface,()),rfl,?_⟩;have oB:Only (fun k=>r5<=k) w2' w5:=⟨hB.os,hB.tape,hB.output,hB.size,fun k _ hk=>hB.block k (by have:¬r5<=k:=hk;omega)⟩;refine hN' w5 (hRb oB g1) ⟨hRb oB g1,g2.only oB (by show ¬r5<=r1;omega),g3.only oB (by show ¬r5<=r2;omega),?_,fun j q hj hq'=>?_,Only.ext g6 oB (fun j hj=>by have:r5<=j:=hj;omega),g7,by have:=hB.size;omega⟩ hB.size (fun k hk=>?_)
   ·have e1:jr S n (i+1)=jr S n i++B p.1:=by
     unfold jr;rw[take_add_one,ei,flatMap_append];simp
    rw[e1];exact g4'
   ·by_cases hji:j=i
    ·subst hji;rw[ei]at hq';injection hq' with hq'
     rw[<- hq'];exact hq
    ·exact g5 j q (by omega) hq'
   ·have hk':V k\/k=w4.heap.size\/k=w4.heap.size+1:=by
     rcases hk with e|e|e
     ·exact .inr (.inl e)
     ·exact .inr (.inr e)
     ·exact .inl e
    obtain⟨v1,v2,v3⟩:=hV2 k hk';exact hK k v1 v2 v3
 ·rintro V w' ⟨g1,g2,g3,g4,g5,g6,g7,g8⟩ _ hsz hdf;rw[qN];refine zb (zjg g4) ?_;rintro _ w5 ⟨rfl,hB,hK⟩;refine⟨_,rfl,?_⟩;have oB:Only (fun k=>r5<=k) w' w5:=⟨hB.os,hB.tape,hB.output,hB.size,fun k _ hk=>hB.block k (by have:¬r5<=k:=hk;omega)⟩;have a1:=g2.only oB (by show ¬r5<=r1;omega);have a2:=g3.only oB (by show ¬r5<=r2;omega);have hx5:=Only.ext g6 oB (fun j hj=>by have:r5<=j:=hj;omega);have hdf5:w5.heap[w4.heap.size]?=some (.deferred (some [])):=by
   rw[hK w4.heap.size (by omega) (by omega) (fun o ho c fz e=>by rw[hdf]at ho;injection ho with ho;rw[<- ho]at e;cases e)];exact hdf
  refine zX a1 (by show 0<1;omega) ?_;have b1:=a1.set 0 (.string (mkB (jr S n (jg (yf S n)).length)));have b2:=a2.other (p:=⟨r1,0,none⟩) (by show r1≠r2;omega) (.string (mkB (jr S n (jg (yf S n)).length)));refine zX b2 (by show 0<1;omega) ?_;have c1:=b1.other (p:=⟨r2,0,none⟩) (by show r2≠r1;omega) (.int .i64 0);have c2:=b2.set 0 (.int .i64 0);refine jn ?_ ?_
  ·rw[Below.heap_setCell _ _ _ _ (by show w4.heap.size≠r2;omega),Below.heap_setCell _ _ _ _ (by show w4.heap.size≠r1;omega)];exact hdf5
  have hxx:=(hx5.set (p:=⟨r1,0,none⟩) (by show w.heap.size<=r1;omega) (.string (mkB (jr S n (jg (yf S n)).length)))).set (p:=⟨r2,0,none⟩) (by show w.heap.size<=r2;omega) (.int .i64 0);have hsb:=yb (a:=w4.heap.size) (b:=w4.heap.size+1) (w:=(w5.setCell ⟨r1,0,none⟩ (.string (mkB (jr S n (jg (yf S n)).length)))).setCell ⟨r2,0,none⟩ (.int .i64 0)) (o:=.deferred none) (.inl rfl);refine zn (x:=mkB (jr S n (jg (yf S n)).length)) (hsb.blk c1 (by omega)) (by rfl) (zn (x:=(0:Int)) (hsb.blk c2 (by omega)) (by rfl) ?_);refine⟨?_,hsb.ext hxx (by omega)⟩;unfold zcc;rw[zgB (fun j q hq=>g5 j q (by rw[qg];exact(List.getElem?_eq_some_iff.1 hq).1) hq)];unfold jr;rw[qg,List.take_length]
 ·rintro V c w' ⟨rfl,e,g1,g2,g3,g6,g7,g8⟩ hsz hdf;rw[qN];refine jn hdf ?_;have hsb:=yb (a:=w4.heap.size) (b:=w4.heap.size+1) (w:=w') (o:=.deferred none) (.inl rfl);refine zn (x:=ByteArray.empty) (hsb.blk g1 (by omega)) (by rfl) (zn (x:=e) (hsb.blk g2 (by omega)) (by rfl) ?_);rw[g3];exact⟨rfl,hsb.ext g6 (by omega)⟩
end V
/- Blobs:what they tell. -/
namespace V
open Go Go.Proofs Go.RowKit Crc
structure uo (S:Spa) (n:Nat) (b:ByteArray) (ks:List Nat):Prop where
 idx:S.page n=(((6:UInt8),ks,mkB (le 4 b.size)),0)
 len:ks.length=nparts S.r0 b.size
 data:∀ i,i<ks.length->S.page (ks.getD i 0)=(((7:UInt8),[],part S.r0 b i),0)
 most:b.size<=qF S.r0
theorem uo.blob {S:Spa} {R:List Nat} {n:Nat} {b:ByteArray} {ks:List Nat} (h:uo S n b ks) (hg:Good S R) (hn:zE S.sup.pages S.now n=true):Blob S n b ks:=by
 have hk:∀ k∈ks,zE S.sup.pages S.now k=true:=fun k hk=>(hg.well.good n hn).2 k (by unfold zR;rw[h.idx];exact hk);refine⟨by rw[(hg.get hn).1];exact h.idx,h.len,fun i hi=>?_,h.most⟩;have hm:ks.getD i 0∈ks:=by rw[getD_eq_getElem?_getD,List.getElem?_eq_getElem hi];exact getElem_mem hi
 rw[(hg.get (hk _ hm)).1];exact h.data i hi
theorem uo.keep {S S':Spa} {n:Nat} {b:ByteArray} {ks:List Nat} (h:uo S n b ks) (hr:S'.r0=S.r0) (hp:∀ k,k=n\/k∈ks->S'.page k=S.page k):uo S' n b ks:=by
 refine⟨by rw[hp n (.inl rfl)];exact h.idx,by rw[hr];exact h.len,fun i hi=>?_,by rw[hr];exact h.most⟩;have hm:ks.getD i 0∈ks:=by rw[getD_eq_getElem?_getD,List.getElem?_eq_getElem hi];exact getElem_mem hi
 rw[hp _ (.inr hm),hr];exact h.data i hi
structure zrK (S S2:Spa) (R:List Nat) (bs:ByteArray) (n:Nat) (ks:List Nat):Prop where
 good:Good S2 (n::R)
 sup:S2.sup=S.sup
 held:S2.held=S.held
 mark:S2.mark=S.mark
 slot:S2.slot=S.slot
 blob:uo S2 n bs ks
 two:2<=n
 lt:n<S.N
 page:∀ k,zE S.sup.pages S.now k=true->S2.page k=S.page k
 fresh:S.now.getD n 0=0
 one:S2.now.getD n 0=1
 now:∀ k,zE S.sup.pages S.now k=true->S2.now.getD k 0=S.now.getD k 0
 free:S.zY=S2.zY+nparts S.r0 bs.size+1
 yk:S.yk=ks++n::S2.yk
 klen:ks.length=nparts S.r0 bs.size
 pen:S2.dev.pen.length=S.dev.pen.length+nparts S.r0 bs.size+1
 kept:Kept S S2
theorem zqD {S S1 S2:Spa} {R ks:List Nat} {bs:ByteArray} {n:Nat} (h0:Good S R) (hm:bs.size<=qF S.r0) (hP:Puts S S1 R ks (uc S.r0 bs (nparts S.r0 bs.size))) (hO:kg S1 S2 ((6:UInt8),ks,mkB (le 4 bs.size)) n) (hg:Good S2 (n::R)):zrK S S2 R bs n ks:=by
 have hr1:S1.r0=S.r0:=by unfold Spa.r0 Spa.room;rw[hP.sup]
 have hr2:S2.r0=S.r0:=by unfold Spa.r0 Spa.room;rw[hO.sup,hP.sup]
 have hkl:ks.length=nparts S.r0 bs.size:=by rw[<- hP.len];simp[uc]
 have hmem:∀ i,i<ks.length->ks.getD i 0∈ks:=fun i hi=>by rw[getD_eq_getElem?_getD,List.getElem?_eq_getElem hi];exact getElem_mem hi
 have hnk:n∉ks:=fun hk=>by
  have hf:=(zU.1 hO.free).1;rw[hP.now n,if_pos hk]at hf;cases hf
 have hfr:=zU.1 hO.free;have hn0:S.now.getD n 0=0:=by
  have:=hP.now n;rw[if_neg hnk]at this;omega
 have huk:∀ k,zE S.sup.pages S.now k=true->k∉ks/\k≠n/\k<S.N:=fun k hu=>by
  have hpos:=(zC.1 hu).2.2;refine⟨fun hk=>?_,fun e=>?_,h0.well.lt hu⟩
  ·have:=(zU.1 (hP.mem hk).2.2.1).1;omega
  ·rw[e]at hpos;omega
 have hN1:=hP.N;have hnl:n<S1.now.length:=by rw[hP.good.ok.now];exact hO.lt
 refine⟨hg,hO.sup.trans hP.sup,hO.held.trans hP.held,hO.mark.trans hP.mark,hO.slot.trans hP.slot,⟨hO.page,by rw[hr2];exact hkl,fun i hi=>?_,by rw[hr2];exact hm⟩,hO.two,by rw[<- hN1];exact hO.lt,fun k hu=>?_,hn0,by rw[hO.now,yn,if_pos ⟨rfl,hnl⟩],fun k hu=>?_,?_,?_,?_,?_,⟨hO.sup.trans hP.sup,hO.held.trans hP.held,hO.mark.trans hP.mark,hO.slot.trans hP.slot,⟨hO.dim.1.trans hP.dim.1,hO.dim.2.trans hP.dim.2⟩,fun k h0 hk hf=>?_⟩⟩
 ·have hmi:=hmem i hi;rw[hO.other _ (fun e=>hnk (e▸hmi)) (by rw[hN1];exact(hP.mem hmi).2.1),hP.page i hi,hr2];unfold uc;rw[getD_eq_getElem?_getD,List.getElem?_map,List.getElem?_range (by omega)];rfl
 ·obtain⟨a1,a2,a3⟩:=huk k hu;rw[hO.other k a2 (by rw[hN1];exact a3),hP.other k a3 a1]
 ·obtain⟨a1,a2,a3⟩:=huk k hu;rw[hO.now,yn,if_neg (fun e=>a2 e.1.symm),hP.now k,if_neg a1]
 ·unfold Spa.zY;rw[hP.free,hO.yk,length_append,length_cons];omega
 ·rw[hP.free,hO.yk]
 ·exact hkl
 ·rw[hO.pen,hP.pen];omega
 ·rw[hO.read k h0 (by rw[hN1];exact hk) (fun e=>?_)]
  ·exact hP.kept.read k h0 hk hf
  ·have e:k.toNat=n:=by omega
   rw[e]at hf;rcases hf with hf|hf
   ·have:=hO.two;omega
   ·rw[zU.2 ⟨hn0,by rw[<- hP.held];exact hfr.2.1,by rw[<- hP.mark];exact hfr.2.2⟩]at hf;cases hf
theorem zry {n:Nat} (h:n<=65536):lev (B (mkB (le 4 n)))=n:=by rw[xC];exact zhH (by omega)
theorem Blob.qq {S:Spa} {n:Nat} {b:ByteArray} {ks:List Nat} (h:Blob S n b ks):qq S n=(b.size,ks,0):=by
 have hb:b.size<=65536:=by have:=h.most;unfold qF at this;omega
 unfold V.qq;rw[h.idx];dsimp only;rw[if_neg (by simp),if_neg (by simp),if_neg (by rw[xF,zA];simp),zry hb,if_neg (by rw[h.len];omega)]
theorem zib {S:Spa} {n:Nat} {b:ByteArray} {ks:List Nat} (h:Blob S n b ks) (hr:1<=S.r0):∀ (j i:Nat),i+j=ks.length->goS S (b.size-i*S.r0) (ks.drop i)=(List.range j).map fun t=>(part S.r0 b (i+t),(0:Int))
 |0,i,hi=>by
  rw[drop_of_length_le (by omega)];simp[goS]
 |j+1,i,hi=>by
  have hil:i<ks.length:=by omega
  have hd:=h.data i hil;have e:ks.drop i=ks.getD i 0::ks.drop (i+1):=by
   rw[drop_eq_getElem_cons hil,getD_eq_getElem?_getD,List.getElem?_eq_getElem hil];rfl
  have hp:=zdb (r:=S.r0) (b:=b) (i:=i) hr (by rw[<- h.len];exact hil);have hpe:zcb S (min (b.size-i*S.r0) S.r0) (ks.getD i 0)=0:=by
   unfold zcb;rw[hd];dsimp only;rw[if_neg (by rintro⟨_,e|e|e⟩;exact e rfl;simp at e;apply e;rw[hp.1];exact Nat.min_comm _ _)]
  rw[e,goS,hpe,if_neg (by simp),hd];have e2:b.size-i*S.r0-min (b.size-i*S.r0) S.r0=b.size-(i+1)*S.r0:=by
   rw[Nat.add_mul,Nat.one_mul];omega
  rw[e2,zib h hr j (i+1) (by omega),List.range_succ_eq_map,map_cons,map_map];congr 1;apply map_congr_left;intro t _;show(part S.r0 b (i+1+t),(0:Int))=(part S.r0 b (i+(t+1)),0);rw[show i+1+t=i+(t+1) by omega]
theorem Blob.parts {S:Spa} {n:Nat} {b:ByteArray} {ks:List Nat} (h:Blob S n b ks) (hr:1<=S.r0):yf S n=(List.range ks.length).map fun t=>(part S.r0 b t,(0:Int)):=by
 unfold yf;rw[h.qq,if_neg (by simp)];have:=zib h hr ks.length 0 (by omega);rw[Nat.zero_mul,Nat.sub_zero,List.drop_zero]at this;rw[this];apply map_congr_left;intro t _;rw[Nat.zero_add]
theorem Blob.get {S:Spa} {n:Nat} {b:ByteArray} {ks:List Nat} (h:Blob S n b ks) (hr:1<=S.r0):zcc S n=(b,0):=by
 unfold zcc;rw[h.parts hr,zgB (fun j q hq=>by
  rw[List.getElem?_map]at hq
  cases hh:(List.range ks.length)[j]? with
  |none=>rw[hh]at hq;cases hq
  |some t=>rw[hh]at hq;injection hq with hq;rw[<- hq])]
 dsimp only;have e:((List.range ks.length).map fun t=>(part S.r0 b t,(0:Int))).flatMap (fun p=>B p.1)=(List.range ks.length).flatMap fun t=>B (part S.r0 b t):=by
  rw[List.flatMap_map]
 rw[e,zfb hr b ks.length (by rw[h.len];exact Nat.le_refl _),take_of_length_le]
 ·rw[zkc]
 ·rw[<- yu,h.len];unfold nparts;have:=Nat.lt_mul_div_succ (b.size+S.r0-1) (show 0<S.r0 by omega);rw[Nat.mul_comm,Nat.add_mul,Nat.one_mul]at this;omega
theorem Blob.plen {S:Spa} {n:Nat} {b:ByteArray} {ks:List Nat} (h:Blob S n b ks) (hd:zao S):(yf S n).length<=100000/\∀ p∈yf S n,p.1.size<=5000:=by
 obtain⟨q0,q1,q2,q3⟩:=xK hd;rw[h.parts (by omega)];have hn:=zde q1 h.most;rw[<- h.len]at hn;refine⟨by rw[length_map,length_range];omega,fun p hp=>?_⟩;obtain⟨t,ht,rfl⟩:=mem_map.1 hp;have hp:=zdb (r:=S.r0) (b:=b) (i:=t) (by omega) (by rw[<- h.len];exact mem_range.1 ht);show(part S.r0 b t).size<=5000;omega
end V
/- Spaces after pages were put:plain. catalog.pages,spots. -/
namespace V
open Go Go.Proofs Go.RowKit Crc
theorem Great.made {S S':Spa} {R R' H ls:List Nat} {M:Option (List Nat)} (h:Great S R H M) (hm:Mk S S' ls) (hg:Good S' R') (hr:S.sup.pages.length<=S'.zY):Great S' R' H M:=by
 have hN:=hm.N;have hb:=h.good.dims.blocks;have hn:=h.good.dims.n;have ho:=h.heldOK;have hP:=ho.zoG h.good;have hslot:∀ j:Int,j=0\/j=1->(S'.dev.read j).1=(S.dev.read j).1:=fun j hj=>hm.read j (by omega) (by omega) (fun hk=>by have:=(hm.mem hk).2.1;omega);refine⟨hg,⟨?_,?_,?_,?_,?_,?_⟩,?_,?_,?_⟩
 ·rw[hm.slot];exact ho.slot
 ·rw[hm.sup];exact ho.chk
 ·rw[hm.slot,hm.sup,hslot _ ho.slot];exact ho.cur
 ·rw[hm.slot,hm.sup,hslot _ (by unfold other;split<;>simp)];exact ho.old
 ·intro i hi;rw[hm.sup]at hi ⊢;have hmem:S.sup.pages.getD i 0∈S.sup.pages:=by rw[getD_eq_getElem?_getD,List.getElem?_eq_getElem hi];exact getElem_mem _
  have hlt:=(h.good.well.pgs _ hmem).2.1;rw[hm.held,hm.dim.1,hm.read _ (by omega) (by omega) ?_]
  ·exact ho.pgs i hi
  ·intro hk;rw[Int.toNat_natCast]at hk;have:=(zU.1 (hm.mem hk).2.2).1;have:=(hP.at_ _ hmem).2.2;omega
 ·rw[hm.held];exact ho.fit
 ·rw[hN,hm.sup,hm.held];exact yg.zap h.hwell (fun m hu=>hm.other m (h.hwell.lt hu) (fun hk=>by
   have:=(zU.1 (hm.mem hk).2.2).2.1
   have:=(zC.1 hu).2.2;omega))
 ·rw[hN,hm.sup,hm.mark];exact h.mwell.zap (fun m hc _ hmN=>hm.other m hmN (fun hk=>hc (zU.1 (hm.mem hk).2.2).2.2))
 ·rw[hm.sup];exact hr
variable {w w':World} {b db:Nat} {S:Spa} {F:Nat->Prop} {R H:List Nat} {M:Option (List Nat)}
open Classical in
noncomputable def zeE (r:Nat) (w:World):Nat:=if w.cell? ⟨r,0,none⟩=some (.int .u8 3) then 1 else 0
theorem zrc {r:Nat} {p:Page} {y:SLC} {ty:TypeId} (h:Blk w r (pgV p y) ty) (hp:p.1≠3):zeE r w=0:=by
 unfold zeE;rw[h.cell,if_neg];intro e;have e:(Value.int .u8 (p.1.toNat:Int))=.int .u8 3:=Option.some.inj e;injection e with _ e
 exact hp (UInt8.toNat_inj.1 (by show _=3;omega))
theorem zrd {r:Nat} {p:Page} {y:SLC} {ty:TypeId} (h:Blk w r (pgV p y) ty) (hp:p.1=3):zeE r w=1:=by
 unfold zeE;rw[h.cell,if_pos];show some (Value.int .u8 (p.1.toNat:Int))=_;rw[hp];rfl
theorem zic (h:z6 w b db S F) {n:Nat} {res:Bool} (hn:n<4294967296) (h0:(S.get n).2=0)
  (hp:((S.get n).1.1≠3/\res=decide ((S.get n).1.1=5))\/((S.get n).1.1=3/\∃ k r,(S.get n).1.2.1=k::r/\k<4294967296/\(S.get k).2=0/\(S.get k).1.1≠3/\res=decide ((S.get k).1.1=5))):
  Calls prog 87 #[.pointer (some ⟨b,0,none⟩),.int .u32 (n:Int)] w (Ret fun v w'=>v=.bool res/\Ext w w'):=by
 apply zp2;unfold S87;refine zb (zfc h hn) ?_;rintro _ w1 ⟨y,rfl,ho,he1⟩;refine⟨(pgT (S.get n).1 y,(S.get n).2,()),rfl,?_⟩;refine yh (vs:=pgV (S.get n).1 y) (by rfl) (jo _ _) (fun r2 w2 hb2 he2 hr2=>?_) (by rfl);have ho2:=ho.ext he2;have he:=he1.trans he2;have hs1:=he1.size;rw[h0];refine⟨fun t w'=>t=((0:Int),())/\Ext w w'/\∃ (p:Page) (y:SLC),Blk w' r2 (pgV p y) 49/\((p.1≠3/\res=decide (p.1=5))\/(p.1=3/\∃ k r,p.2.1=k::r/\k<4294967296/\(S.get k).2=0/\(S.get k).1.1≠3/\res=decide ((S.get k).1.1=5)/\Sli (zw .u32) w' y.1 y.2.1 p.2.1)),fun _ w'=>zeE r2 w',⟨rfl,he,(S.get n).1,y,hb2,?_⟩,?_⟩
 ·rcases hp with hp|⟨hp,k,r,e1,e2,e3,e4,e5⟩
  ·exact .inl hp
  ·exact .inr ⟨hp,k,r,e1,e2,e3,e4,e5,ho2.sl⟩
 rintro _ w3 ⟨rfl,he3,p,y',hb3,hc⟩;refine zf (by rfl) (zJ ((p.1.toNat:Nat):Int) hb3 (by rfl) ?_);rcases hc with ⟨h3,hres⟩|⟨h3,k,r,e1,e2,e3,e4,e5,hsl⟩
 ·refine zd (beq_eq_false_iff_ne.2 (fun e=>h3 (UInt8.toNat_inj.1 (by show _=3;omega)))) (zf (by rfl) ?_);refine zJ ((p.1.toNat:Nat):Int) hb3 (by rfl) ⟨?_,he3⟩;rw[hres];congr 1;rw[Bool.eq_iff_iff,beq_iff_eq,decide_eq_true_iff];constructor
  ·intro e;exact UInt8.toNat_inj.1 (by show _=5;omega)
  ·intro e;rw[e];rfl
 ·refine zf (by rw[h3];rfl) (zm 1 y' hb3 (by rfl) ?_);rw[e1]at hsl;have hl:(k::r).length=y'.2.1:=hsl.len;have hle:=hsl.le;simp only [length_cons]at hl;refine ya hsl (by omega) (by omega) ?_;show ze _ _ [_,.int .u32 ((k:Nat):Int)] _ _ w3;refine zb (zfc (h.ext he3) e2) ?_;rintro _ w4 ⟨y4,rfl,ho4,he4⟩;refine⟨(pgT (S.get k).1 y4,(S.get k).2,()),rfl,?_⟩;have hb4:=hb3.ext he4;refine refill (vs:=pgV (S.get k).1 y4) hb4 (by rfl) (jo _ _) (by rfl) ?_;intro w5 hb5 hx5 hk5 hz5;refine⟨⟨by rw[e3],hx5 w (he3.trans he4) (by omega),_,y4,hb5,.inl ⟨e4,e5⟩⟩,?_⟩;show zeE r2 w5<zeE r2 w3;rw[zrc hb5 e4,zrd hb3 h3];omega
theorem zl9 (hg:Good S R) {n:Nat} {ks vs:List Nat} (ht:jC S n ks vs) (hu:zE S.sup.pages S.now n=true):(S.get n).2=0/\((((S.get n).1.1≠3/\true=decide ((S.get n).1.1=5))\/((S.get n).1.1=3/\∃ k r,(S.get n).1.2.1=k::r/\k<4294967296/\(S.get k).2=0/\(S.get k).1.1≠3/\true=decide ((S.get k).1.1=5)))):=by
 cases ht with
 |one hA=>
  rw[(hA.get hg hu).1];exact⟨rfl,.inl ⟨show(5:UInt8)≠3 by decide,rfl⟩⟩
 |two m a c h1 h2 h3 h4 h5 h6 h7 h8=>
  have hkid:zR S.page n=[a,c]:=by unfold zR;rw[h6]
  have hua:=((hg.well.good n hu).2 a (by rw[hkid];simp));obtain⟨a1,a2,a3⟩:=h7.get hg hua;rw[(hg.get hu).1,h6];refine⟨rfl,.inr ⟨rfl,a,[c],rfl,a3,?_⟩⟩;rw[a1];exact⟨rfl,show(5:UInt8)≠3 by decide,rfl⟩
end V
/- Contracts of the package catalog:spots. -/
namespace V
open Go Go.Proofs Go.RowKit Crc
variable {w w':World}
def spE:Enc (Nat×Addr) where
 k:=2
 f p:=[.int .u64 (p.1:Int),.pointer (some p.2)]
 len _:=rfl
 one _:=by
  intro v hv
  simp only [mem_cons,not_mem_nil,or_false]at hv
  rcases hv with rfl|rfl<;>rfl
 pos:=by decide
theorem zgC:qm prog 130 135 (.agg #[.int .u64 0,.pointer none]) 2 16:=⟨by kernel_rfl,by kernel_rfl,by kernel_rfl⟩
def adr (A:Option Addr):Addr:=A.getD ⟨0,0,none⟩
def vx (A:Option Addr) (i:Nat):Addr:=((adr A).add (i*5)).add 2
def vy (A:Option Addr) (i:Nat):Addr:=((adr A).add (i*2)).add 1
abbrev Spt:=Nat×Addr×Nat
def spT (A:Option Addr) (es:List Ent) (i:Nat):List Spt:=(List.range i).filterMap fun j=>if (es.getD j zQ).2.2.1=0 then none else some (1+j,vx A j,(es.getD j zQ).2.2.1)
def spS (A:Option Addr) (ss:List Snp) (i:Nat):List Spt:=(List.range i).filterMap fun j=>if (ss.getD j zL).2=0 then none else some (100+j,vy A j,(ss.getD j zL).2)
def z7 (x y:SLC) (c:Cat):List Spt:=spT x.1 c.1 c.1.length++spS y.1 c.2 c.2.length
def spP (p:Spt):Nat×Addr:=(p.1,p.2.1)
theorem jy (A:Option Addr) (es:List Ent) (i:Nat):spT A es (i+1)=spT A es i++(if (es.getD i zQ).2.2.1=0 then [] else [(1+i,vx A i,(es.getD i zQ).2.2.1)]):=by
 unfold spT;rw[range_succ,List.filterMap_append];congr 1
 by_cases h:(es.getD i zQ).2.2.1=0
 ·rw[if_pos h,List.filterMap_cons,if_pos h];rfl
 ·rw[if_neg h,List.filterMap_cons,if_neg h];rfl
theorem jY (A:Option Addr) (ss:List Snp) (i:Nat):spS A ss (i+1)=spS A ss i++(if (ss.getD i zL).2=0 then [] else [(100+i,vy A i,(ss.getD i zL).2)]):=by
 unfold spS;rw[range_succ,List.filterMap_append];congr 1
 by_cases h:(ss.getD i zL).2=0
 ·rw[if_pos h,List.filterMap_cons,if_pos h];rfl
 ·rw[if_neg h,List.filterMap_cons,if_neg h];rfl
theorem zf1 (A:Option Addr) (es:List Ent) (i:Nat):(spT A es i).length<=i:=by
 have:=List.length_filterMap_le (fun j=>if (es.getD j zQ).2.2.1=0 then none else some (1+j,vx A j,(es.getD j zQ).2.2.1)) (List.range i)
 rwa [length_range]at this
theorem zjO (A:Option Addr) (ss:List Snp) (i:Nat):(spS A ss i).length<=i:=by
 have:=List.length_filterMap_le (fun j=>if (ss.getD j zL).2=0 then none else some (100+j,vy A j,(ss.getD j zL).2)) (List.range i)
 rwa [length_range]at this
theorem zbd {r:Nat} {t:TypeId} {x y:SLC} {c:Cat} (hb:Blk w r (zF x y) t) (h:yK w x y c) (h1:c.1.length<=1000) (h2:c.2.length<=1000):
  Calls prog 73 #[.pointer (some ⟨r,0,none⟩)] w (Ret fun v w'=>∃ A k,v=.slice A (z7 x y c).length k/\Owni spE 135 w' w.heap.size A (z7 x y c).length k ((z7 x y c).map spP)/\Ext w w'):=by
 obtain⟨⟨raws,hT⟩,hs,hcx,hcy⟩:=h;have hxl:=hT.sl.len;have hyl:=hs.len;have hlr:=hT.len;apply zpR;unfold S73;refine zu (zJ x hb (by rfl) ?_);refine zy (fun q w'=>∃ (i:Nat) (A:Option Addr) (k:Nat),i<=c.1.length/\q=((A,(spT x.1 c.1 i).length,k),(i:Int),())/\Ext w w'/\Owni spE 135 w' w.heap.size A (spT x.1 c.1 i).length k ((spT x.1 c.1 i).map spP)) (fun q=>(c.1.length-q.2.1).toNat) ⟨0,none,0,by omega,rfl,Ext.refl _,Owni.nil _ _ _⟩ ?_;rintro _ w1 ⟨i,A,k,hi,rfl,he1,ho⟩;dsimp only;have hb1:=hb.ext he1
 by_cases hlt:i<c.1.length
 ·refine zf (decide_eq_true (by omega)) (zu (zJ x hb1 (by rfl) ?_));refine zaE (E:=yv) 2 (fun e:Raw=>((e.2.2.1:Nat):Int)) yM (hT.sl.ext he1) (fun _=>rfl) rfl (by omega) (by omega) ?_;rw[Int.toNat_natCast,show(raws.getD i yM).2.2.1=(c.1.getD i zQ).2.2.1 by rw[(hT.at_ i hlt).rest]];have hw:wrap .i64 ((i:Int)+1)=((i+1:Nat):Int):=by rw[wrap_i64 (by omega) (by omega)];rfl
  have hn:=zf1 x.1 c.1 i;have hsu:=jy x.1 c.1 i;refine zg (fun hq=>?_) (fun hq=>?_)
  ·have hq:¬(c.1.getD i zQ).2.2.1=0:=fun e=>by rw[e]at hq;cases hq
   rw[if_neg hq]at hsu;refine zu (zJ x hb1 (by rfl) (zH ⟨by omega,by omega⟩ ?_));obtain⟨a,ha,hsp,hcs⟩:=hT.sl.2.2 (by omega);refine⟨a,ha,?_⟩;show zi _ _ _;have hkey:wrap .u64 (wrap .i64 (1+(i:Int)))=((1+i:Nat):Int):=by rw[wrap_i64 (by omega) (by omega),show(1:Int)+(i:Int)=((1+i:Nat):Int) by omega,zD (by omega)]
   rw[hkey,hw];have hadr:(a.add (i*5)).add 2=vx x.1 i:=by unfold vx adr;rw[ha];rfl
   rw[hadr];refine yT (E:=spE) (ys:=[(1+i,vx x.1 i)]) (by rfl) rfl zgC ho he1.size (by omega) (by omega) ?_;intro A2 k2 w2 ho2 hg2;refine⟨⟨i+1,A2,k2,by omega,?_,he1.grown hg2.grown ho.row,?_⟩,by omega⟩
   ·rw[hsu,length_append];rfl
   ·rw[hsu,length_append,map_append];exact ho2
  ·have hq:(c.1.getD i zQ).2.2.1=0:=by have:=bne_eq_false_iff_eq.1 hq;omega
   rw[if_pos hq,append_nil]at hsu;rw[hw];exact⟨⟨i+1,A,k,by omega,by rw[hsu],he1,by rw[hsu];exact ho⟩,by omega⟩
 ·obtain rfl:i=c.1.length:=by omega
  refine zd (decide_eq_false (by omega)) (zu (zm 1 y hb1 (by rfl) ?_));have hn1:=zf1 x.1 c.1 c.1.length;have hnil:spT x.1 c.1 c.1.length++spS y.1 c.2 0=spT x.1 c.1 c.1.length:=by simp[spS]
  refine zy (fun q w'=>∃ (i:Nat) (A:Option Addr) (k:Nat),i<=c.2.length/\q=((A,(spT x.1 c.1 c.1.length++spS y.1 c.2 i).length,k),(i:Int),())/\Ext w w'/\Owni spE 135 w' w.heap.size A (spT x.1 c.1 c.1.length++spS y.1 c.2 i).length k ((spT x.1 c.1 c.1.length++spS y.1 c.2 i).map spP)) (fun q=>(c.2.length-q.2.1).toNat) ⟨0,A,k,by omega,by rw[hnil];rfl,he1,by rw[hnil];exact ho⟩ ?_;rintro _ w2 ⟨i,A,k,hi,rfl,he2,ho⟩;dsimp only;have hb2:=hb.ext he2
  by_cases hlt:i<c.2.length
  ·refine zf (decide_eq_true (by omega)) (zu (zm 1 y hb2 (by rfl) ?_));refine zaE (E:=zI) 1 (fun e:Snp=>((e.2:Nat):Int)) zL (hs.ext he2) (fun _=>rfl) rfl (by omega) (by omega) ?_;rw[Int.toNat_natCast];have hw:wrap .i64 ((i:Int)+1)=((i+1:Nat):Int):=by rw[wrap_i64 (by omega) (by omega)];rfl
   have hn:=zjO y.1 c.2 i;have hsu:=jY y.1 c.2 i;have hnl:(spT x.1 c.1 c.1.length++spS y.1 c.2 i).length<=2000:=by rw[length_append];omega
   refine zg (fun hq=>?_) (fun hq=>?_)
   ·have hq:¬(c.2.getD i zL).2=0:=fun e=>by rw[e]at hq;cases hq
    rw[if_neg hq]at hsu;refine zu (zm 1 y hb2 (by rfl) (zH ⟨by omega,by omega⟩ ?_));obtain⟨a,ha,hsp,hcs⟩:=hs.2.2 (by omega);refine⟨a,ha,?_⟩;show zi _ _ _;have hkey:wrap .u64 (wrap .i64 (100+(i:Int)))=((100+i:Nat):Int):=by rw[wrap_i64 (by omega) (by omega),show(100:Int)+(i:Int)=((100+i:Nat):Int) by omega,zD (by omega)]
    rw[hkey,hw];have hadr:(a.add (i*2)).add 1=vy y.1 i:=by unfold vy adr;rw[ha];rfl
    rw[hadr];refine yT (E:=spE) (ys:=[(100+i,vy y.1 i)]) (by rfl) rfl zgC ho he2.size (by omega) (by omega) ?_;intro A2 k2 w3 ho3 hg3;refine⟨⟨i+1,A2,k2,by omega,?_,he2.grown hg3.grown ho.row,?_⟩,by omega⟩
    ·rw[hsu,<- append_assoc,length_append (bs:=[_])];rfl
    ·rw[hsu,<- append_assoc,length_append (bs:=[_]),map_append (l₂:=[_])];exact ho3
   ·have hq:(c.2.getD i zL).2=0:=by have:=bne_eq_false_iff_eq.1 hq;omega
    rw[if_pos hq,append_nil]at hsu;rw[hw];exact⟨⟨i+1,A,k,by omega,by rw[hsu],he2,by rw[hsu];exact ho⟩,by omega⟩
  ·obtain rfl:i=c.2.length:=by omega
   refine zd (decide_eq_false (by omega)) ?_;exact⟨A,k,rfl,ho,he2⟩
end V
/- Catalogs as trees:plain. -/
namespace V
open Go Go.Proofs Go.RowKit Crc
def kvC (c:Cat):List (Nat×Nat):=(z7 (none,0,0) (none,0,0) c).map fun p=>(p.1,p.2.2)
def qV (c:Cat):List Nat:=(kvC c).map fun p=>p.1
def z8 (c:Cat):List Nat:=(kvC c).map fun p=>p.2
theorem zid (A A':Option Addr) (es:List Ent):∀ i,(spT A es i).map (fun p=>(p.1,p.2.2))=(spT A' es i).map fun p=>(p.1,p.2.2)
 |0=>rfl
 |i+1=>by
  rw[jy,jy,map_append,map_append,zid A A' es i];congr 1;split<;>rfl
theorem zie (A A':Option Addr) (ss:List Snp):∀ i,(spS A ss i).map (fun p=>(p.1,p.2.2))=(spS A' ss i).map fun p=>(p.1,p.2.2)
 |0=>rfl
 |i+1=>by
  rw[jY,jY,map_append,map_append,zie A A' ss i];congr 1;split<;>rfl
theorem zcd (x y:SLC) (c:Cat):(z7 x y c).map (fun p=>(p.1,p.2.2))=kvC c:=by
 unfold kvC z7;rw[map_append,map_append,zid x.1 none,zie y.1 none]
theorem zaN (x y:SLC) (c:Cat):(z7 x y c).length=(kvC c).length:=by rw[<- zcd x y c,length_map]
theorem zfo (c:Cat):(kvC c).length<=c.1.length+c.2.length:=by
 rw[<- zaN (none,0,0) (none,0,0)];unfold z7;rw[length_append];have:=zf1 none c.1 c.1.length;have:=zjO none c.2 c.2.length;dsimp only;omega
theorem zif (es:List Ent):∀ i,((spT none es i).map fun p=>p.1).Pairwise (· < ·)/\∀ k∈(spT none es i).map (fun p=>p.1),1<=k/\k<=i
 |0=>⟨.nil,by simp[spT]⟩
 |i+1=>by
  obtain⟨h1,h2⟩:=zif es i;rw[jy,map_append];constructor
  ·rw[List.pairwise_append];refine⟨h1,by split<;>simp,fun a ha b hb=>?_⟩;have:=h2 a ha;split at hb
   ·simp at hb
   ·simp at hb;omega
  ·intro k hk;rcases mem_append.1 hk with e|e
   ·have:=h2 k e;omega
   ·split at e
    ·simp at e
    ·simp at e;omega
theorem zig (ss:List Snp):∀ i,((spS none ss i).map fun p=>p.1).Pairwise (· < ·)/\∀ k∈(spS none ss i).map (fun p=>p.1),100<=k/\k<100+i
 |0=>⟨.nil,by simp[spS]⟩
 |i+1=>by
  obtain⟨h1,h2⟩:=zig ss i;rw[jY,map_append];constructor
  ·rw[List.pairwise_append];refine⟨h1,by split<;>simp,fun a ha b hb=>?_⟩;have:=h2 a ha;split at hb
   ·simp at hb
   ·simp at hb;omega
  ·intro k hk;rcases mem_append.1 hk with e|e
   ·have:=h2 k e;omega
   ·split at e
    ·simp at e
    ·simp at e;omega
theorem keys_eq (c:Cat):qV c=(spT none c.1 c.1.length).map (fun p=>p.1)++(spS none c.2 c.2.length).map (fun p=>p.1):=by
 unfold qV kvC z7;rw[map_map,map_append];rfl
theorem zqE {c:Cat} (h1:c.1.length<=16) (h2:c.2.length<=16):(0::qV c).Pairwise (· < ·)/\∀ k∈0::qV c,k<200:=by
 obtain⟨a1,a2⟩:=zif c.1 c.1.length;obtain⟨b1,b2⟩:=zig c.2 c.2.length;rw[keys_eq];constructor
 ·rw[List.pairwise_cons,List.pairwise_append];refine⟨fun k hk=>?_,a1,b1,fun x hx y hy=>?_⟩
  ·rcases mem_append.1 hk with e|e
   ·have:=a2 k e;omega
   ·have:=b2 k e;omega
  ·have:=a2 x hx;have:=b2 y hy;omega
 ·intro k hk;rcases mem_cons.1 hk with rfl|hk
  ·omega
  ·rcases mem_append.1 hk with e|e
   ·have:=a2 k e;omega
   ·have:=b2 k e;omega
theorem zih:∀ {l:List Nat},l.Pairwise (· < ·)->xT l=true
 |[],_=>rfl
 |[_],_=>rfl
 |a::b::r,h=>by
  rw[List.pairwise_cons]at h;show(decide (a<b)&&xT (b::r))=true;rw[decide_eq_true (h.1 b (by simp)),zih h.2];rfl
structure zdE (S:Spa) (n:Nat) (c:Cat):Prop where
 isC:kN c
 tree:∃ bn bks,jC S n (0::qV c) (bn::z8 c)/\uo S bn (V.mkB (xU c)) bks
end V
/- Contracts of the package catalog:Put. -/
namespace V
open Go Go.Proofs Go.RowKit Crc
variable {w w':World} {b db:Nat} {S:Spa} {F:Nat->Prop} {R H:List Nat} {M:Option (List Nat)}
theorem zqF (h:z6 w b db S F) (hg:Great S R H M) (hpen:S.dev.pen.length<=900000) {bs:ByteArray} (hbs:bs.size<=qF S.r0) (hf:S.sup.pages.length+nparts S.r0 bs.size+1<=S.zY):
  Calls prog 76 #[.pointer (some ⟨b,0,none⟩),.string bs] w (Ret fun v w'=>∃ (S2:Spa) (n:Nat) (ks ls:List Nat),v=.tuple #[.int .u32 (n:Int),.int .i64 0]/\Mk S S2 ls/\ls.length=nparts S.r0 bs.size+1/\Great S2 (n::R) H M/\uo S2 n bs ks/\S2.now.getD n 0=1/\yO w b db F S2 w'):=by
 obtain⟨q0,q1,q2,q3⟩:=xK hg.good.dims;have hm:qF S.r0<=65536:=by unfold qF;omega
 obtain⟨Fd,x,hb,hr,nb,nr,m,h'⟩:=h;refine(zkK h' hg.good hpen bs (by omega)).mono (Ret.mono ?_);rintro v w' (⟨h1,_⟩|⟨_,h2,S1,S2,ks,n,hP,hO,hG,rfl,hst⟩|⟨_,h2,_⟩)
 ·omega
 ·have hB:=zqD hg.good hbs hP hO hG;have hlen:S1.now.length=S1.N:=hP.good.well.len;have hMk:Mk S S2 (ks++[n]):=hP.mk_.trans (hO.mk_ hlen);refine⟨S2,n,ks,ks++[n],rfl,hMk,by rw[length_append,hB.klen];rfl,hg.made hMk hG (by have:=hB.free;omega),hB.blob,hB.one,hst⟩
 ·omega
structure zre (S S':Spa) (n:Nat) (c:Cat) (ls R H:List Nat) (M:Option (List Nat)):Prop where
 made:Mk S S' ls
 great:Great S' (n::R) H M
 pg:zdE S' n c
 few:ls.length<=nparts S.r0 (xU c).length+4
theorem zrz {x:SLC} {raws:List Raw} {es:List Ent} (h:zbx w x raws es) {i:Nat} (hi:i<es.length):w.cell? (vx x.1 i)=some (.int .u32 ((es.getD i zQ).2.2.1:Int)):=by
 have hl:=h.len;have g:raws[i]?=some (raws.getD i yM):=by rw[getD_eq_getElem?_getD,List.getElem?_eq_getElem (by omega)];rfl
 obtain⟨a,ha,hsp,hc⟩:=h.sl.at_ g;obtain⟨_,_,h2,_⟩:=hc;have:vx x.1 i=(a.add (i*5)).add 2:=by unfold vx adr;rw[ha];rfl
 rw[this,<- (h.at_ i hi).rest];exact h2
theorem zrA {y:SLC} {ss:List Snp} (h:Sli zI w y.1 y.2.1 ss) {i:Nat} (hi:i<ss.length):w.cell? (vy y.1 i)=some (.int .u32 ((ss.getD i zL).2:Int)):=by
 have g:ss[i]?=some (ss.getD i zL):=by rw[getD_eq_getElem?_getD,List.getElem?_eq_getElem hi];rfl
 obtain⟨a,ha,hsp,hc⟩:=h.at_ g;obtain⟨_,h1,_⟩:=hc;have:vy y.1 i=(a.add (i*2)).add 1:=by unfold vy adr;rw[ha];rfl
 rw[this];exact h1
theorem zbe {x y:SLC} {c:Cat} (h:yK w x y c):∀ p∈z7 x y c,w.cell? p.2.1=some (.int .u32 (p.2.2:Int)):=by
 obtain⟨⟨raws,hT⟩,hs,_⟩:=h;intro p hp;unfold z7 at hp;rcases mem_append.1 hp with e|e
 ·unfold spT at e;obtain⟨i,hi,e⟩:=List.mem_filterMap.1 e;rw[mem_range]at hi;split at e
  ·cases e
  ·injection e with e
   subst e;exact zrz hT hi
 ·unfold spS at e;obtain⟨i,hi,e⟩:=List.mem_filterMap.1 e;rw[mem_range]at hi;split at e
  ·cases e
  ·injection e with e
   subst e;exact zrA hs hi
end V
/- Contracts of the package catalog:Put,whole. -/
namespace V
open Go Go.Proofs Go.RowKit Crc
variable {w w':World} {b db:Nat} {S:Spa} {F:Nat->Prop} {R H:List Nat} {M:Option (List Nat)}
structure uJ (w0 w:World) (A1 A2:Option Addr) (n c1 c2:Nat) (ks vs:List Nat):Prop where
 ext:Ext w0 w
 ks:Owni (zw .u64) 40 w w0.heap.size A1 n c1 ks
 vs:Owni (zw .u64) 40 w w0.heap.size A2 n c2 vs
 ne:∀ j,orow A1=some j->orow A2≠some j
theorem uJ.ext' {w0:World} {A1 A2:Option Addr} {n c1 c2:Nat} {ks vs:List Nat} (h:uJ w0 w A1 A2 n c1 c2 ks vs) (he:Ext w w'):uJ w0 w' A1 A2 n c1 c2 ks vs:=⟨h.ext.trans he,h.ks.ext he,h.vs.ext he,h.ne⟩
theorem zeF {w0:World} {A1 A2:Option Addr} {n c1 c2 k rk:Nat} {ks vs:List Nat} {t1:TypeId} {K1:SLC->WP} (h:uJ w0 w A1 A2 n c1 c2 ks vs) (hk:Blk w rk [.int .u64 (k:Int)] t1) (hn:n<=1000000)
  (hK:∀ A1' c1' w1,Owni (zw .u64) 40 w1 w0.heap.size A1' (n+1) c1' (ks++[k])->Owni (zw .u64) 40 w1 w0.heap.size A2 n c2 vs->(∀ j,orow A1'=some j->orow A2≠some j)->Ext w0 w1->w.heap.size<=w1.heap.size->(∀ q,orow A1≠some q->q<w.heap.size->w1.heap[q]?=w.heap[q]?)->K1 (A1',n+1,c1') w1):
  zv prog (Builtin.append_ #[138,138] 138 #[.slice A1 n c1,.slice (some (aD rk)) 1 1]) .slc K1 w:=by
 have hx:Sli (zw .u64) w (some ⟨rk,0,none⟩) 1 [k]:=Sli.xw (E:=zw .u64) (xs:=[k]) hk rfl (by omega);refine xp kT h.ks h.ext.size hx (by omega) (by omega) ?_;intro A1' c1' w1 ho hg _;have hs:=hg.grown.size;refine hK A1' c1' w1 ho (h.vs.grown hg.grown (fun j hj=>h.ne j hj)) (fun j hj e=>?_) (h.ext.grown hg.grown h.ks.row) hs (fun q hq hlt=>hg.grown.block q hlt (fun e=>hq e.symm));rcases hg.next j hj with e1|e1
 ·exact h.ne j e1 e
 ·have:=h.vs.ye j e;omega
theorem zeG {w0:World} {A1 A2:Option Addr} {n c1 c2 v rv:Nat} {ks vs:List Nat} {t2:TypeId} {K1:SLC->WP} (h1:Owni (zw .u64) 40 w w0.heap.size A1 (n+1) c1 ks) (h2:Owni (zw .u64) 40 w w0.heap.size A2 n c2 vs) (hne:∀ j,orow A1=some j->orow A2≠some j) (he:Ext w0 w) (hv:Blk w rv [.int .u64 (v:Int)] t2) (hn:n<=1000000)
  (hK:∀ A2' c2' w1,uJ w0 w1 A1 A2' (n+1) c1 c2' ks (vs++[v])->w.heap.size<=w1.heap.size->(∀ q,orow A2≠some q->q<w.heap.size->w1.heap[q]?=w.heap[q]?)->K1 (A2',n+1,c2') w1):
  zv prog (Builtin.append_ #[138,138] 138 #[.slice A2 n c2,.slice (some (aD rv)) 1 1]) .slc K1 w:=by
 have hx:Sli (zw .u64) w (some ⟨rv,0,none⟩) 1 [v]:=Sli.xw (E:=zw .u64) (xs:=[v]) hv rfl (by omega);refine xp kT h2 he.size hx (by omega) (by omega) ?_;intro A2' c2' w1 ho hg _;have hs:=hg.grown.size;refine hK A2' c2' w1 ⟨he.grown hg.grown h2.row,h1.grown hg.grown (fun j hj e=>hne j e hj),ho,fun j hj e=>?_⟩ hs (fun q hq hlt=>hg.grown.block q hlt (fun e=>hq e.symm));rcases hg.next j e with e1|e1
 ·exact hne j hj e1
 ·have:=h1.ye j hj;omega
theorem zii (h:z6 w b db S F) {x y:SLC} {c:Cat} (hC:∀ w',Only F w w'->yK w' x y c) (hok:x5 c=true) (hg:Great S (z8 c++R) H M) (hpen:S.dev.pen.length<=500000) (hr:204<=S.r0) (hmost:(xU c).length<=qF S.r0)
  (hf:S.sup.pages.length+nparts S.r0 (xU c).length+4<=S.zY) (h6:∀ v∈z8 c,S.now.getD v 0<65535):
  Calls prog 36 #[.pointer (some ⟨b,0,none⟩),.agg (zF x y).toArray] w (Ret fun v w'=>(c=za5/\v=.tuple #[.int .u32 0,.int .i64 0]/\yO w b db F S w')\/(c≠za5/\∃ (S':Spa) (n:Nat) (ls:List Nat),v=.tuple #[.int .u32 (n:Int),.int .i64 0]/\zre S S' n c ls R H M/\yO w b db F S' w')):=by
 obtain⟨q0,q1,q2,q3⟩:=xK hg.good.dims;have hIs:=qU.1 hok;have ht16:=hIs.tabs;have hs16:=hIs.snaps;have hFlt:=h.lt;have hC0:=hC w (Only.refl F w);have hxl:c.1.length=x.2.1:=by obtain⟨⟨raws,hT⟩,_⟩:=hC0;rw[<- hT.len];exact hT.sl.len
 have hyl:c.2.length=y.2.1:=hC0.2.1.len;apply zpl;unfold S36;refine zp fun r1 w1 hb1 he1 hr1 hz1=>?_;have hb1:Blk w1 r1 (zF x y) 30:=hb1;have hr1F:¬F r1:=fun hf=>by have:=hFlt _ hf;omega
 refine zS (ls:=yH) (yF x y) hb1 (by rfl) ?_;refine zb (zfY (hC0.ext he1)) ?_;rintro _ w2 ⟨rfl,he2⟩;have eB:zdh c=(mkB (xU c),0):=by unfold zdh;rw[if_pos hok]
 rw[eB];refine⟨(mkB (xU c),0,()),rfl,zd (by rfl) ?_⟩;have hb2:=hb1.ext he2;have he02:=he1.trans he2;refine zJ x hb2 (by rfl) (zm 1 y hb2 (by rfl) ?_);rw[show wrap .i64 (((x.2.1:Nat):Int)+((y.2.1:Nat):Int))=((x.2.1+y.2.1:Nat):Int) by rw[wrap_i64 (by omega) (by omega)];omega]
 by_cases h0:c=za5
 ·refine zf (beq_iff_eq.2 ?_) (.inl ⟨h0,rfl,yO.ext h he02⟩);rw[h0]at hxl hyl;have:x.2.1=0:=hxl.symm;have:y.2.1=0:=hyl.symm;omega
 have hne:¬(x.2.1+y.2.1=0):=fun e=>h0 (Prod.ext (eq_nil_of_length_eq_zero (by omega)) (eq_nil_of_length_eq_zero (by omega)));refine zd (beq_eq_false_iff_ne.2 (by omega)) ?_;have hmk:(mkB (xU c)).size=(xU c).length:=xF _;refine zb (zqF (h.ext he02) hg (by omega) (by rw[hmk];exact hmost) (by rw[hmk];omega)) ?_;rintro _ w3 ⟨S2,bn,bks,ls,rfl,hMk,hll,hG2,hBl,hone,F3,h3,hF3,hO3⟩;refine⟨((bn:Int),0,()),rfl,zd (by rfl) ?_⟩;have hb3:=hb2.only hO3 hr1F;have hO03:Only F w w3:=Only.trans (Only.zz he02) hO3 (fun j hj=>.inl hj);have hs02:=he02.size;have hs3:=hO3.2.2.2.1;have hF30:∀ k,F3 k->F k\/w.heap.size<=k:=fun k hk=>by
  rcases hF3 k hk with e|e
  ·exact .inl e
  ·exact .inr (by omega)
 have hbn32:bn<4294967296:=by
  have:=hG2.good.well.lt (hG2.good.well.root bn mem_cons_self);have:=hG2.good.dims.n;omega
 refine zfX (B:=w3.heap.size) (Nat.le_refl _) (by simp) fun r7 w4 hK0 he4 hr7 hz4=>?_;rw[zD (by omega)];refine zfX (B:=w3.heap.size) (by omega) (by simp) fun r8 w5 hV0 he5 hr8 hz5=>?_;have he35:=he4.trans he5;have hC5:yK w5 x y c:=(hC w3 hO03).ext he35;have hb5:=hb3.ext he35;refine zb (zbd hb5 hC5 (by omega) (by omega)) ?_;rintro _ w6 ⟨Asp,ksp,rfl,hsp,he6⟩;refine⟨(Asp,(z7 x y c).length,ksp),rfl,?_⟩;have he36:=he35.trans he6;have hC6:=hC5.ext he6;have hcell:=zbe hC6;have hsl:=hsp.sl;have hkvl:=zfo c;have hspl:=zaN x y c;have hkv:=zcd x y c;generalize hspots:z7 x y c=sp at *;have hts:uJ w3 w6 (some ⟨r7,0,none⟩) (some ⟨r8,0,none⟩) 1 1 1 [0] [bn]:=⟨he36,((show Owni (zw .u64) 40 w4 w3.heap.size (some ⟨r7,0,none⟩) 1 1 [0] from hK0).ext he5).ext he6,(show Owni (zw .u64) 40 w5 w3.heap.size (some ⟨r8,0,none⟩) 1 1 [bn] from hV0).ext he6,fun j hj e=>by
  have e1:r7=j:=Option.some.inj hj
  have e2:r8=j:=Option.some.inj e
  omega⟩
 dsimp only;have hcell3:∀ p∈sp,∀ {w9:World},Ext w3 w9->w9.cell? p.2.1=some (.int .u32 (p.2.2:Int)):=fun p hp w9 he9=>by
  have:=zbe (hC w3 hO03) p (by rw[hspots];exact hp);exact he9.cell this
 have hroot:∀ p∈sp,p.2.2∈z8 c:=fun p hp=>by
  unfold z8;rw[<- hkv,map_map];exact mem_map.2 ⟨p,hp,rfl⟩
 have hspsz:sp.length<=32:=by omega
 have hr32:∀ v∈z8 c,v<4294967296:=fun v hv=>by
  have:=hg.good.well.lt (hg.good.well.root v (mem_append_left _ hv));have:=hg.good.dims.n;omega
 refine zy (fun q w'=>∃ (i:Nat) (A1 A2:Option Addr) (c1 c2:Nat),i<=sp.length/\q=((A1,i+1,c1),(A2,i+1,c2),(i:Int),())/\uJ w3 w' A1 A2 (i+1) c1 c2 (0::(sp.take i).map fun p=>p.1) (bn::(sp.take i).map fun p=>p.2.2)/\Owni spE 135 w' w5.heap.size Asp sp.length ksp (sp.map spP)) (fun q=>(sp.length-q.2.2.1).toNat) ⟨0,_,_,1,1,by omega,rfl,hts,hsp⟩ ?_;rintro _ w7 ⟨i,A1,A2,c1,c2,hi,rfl,ht7,hs7⟩;dsimp only
 by_cases hlt:i<sp.length
 ·refine zf (decide_eq_true (by omega)) ?_;have eg:(sp.map spP)[i]?=some (spP (sp[i]'hlt)):=by rw[List.getElem?_map,List.getElem?_eq_getElem hlt];rfl
  have hmem:sp[i]'hlt∈sp:=getElem_mem hlt;have tk:sp.take (i+1)=sp.take i++[sp[i]'hlt]:=take_succ_eq_append_getElem hlt;generalize sp[i]'hlt=p at *;refine xQ hs7.sl (by omega) (x:=spP p) (by rw[Int.toNat_natCast];exact eg) rfl ?_;intro pa hpa hca;refine qn (ls:=[.int .u64,.ptr]) (x:=((p.1:Int),some p.2.1,())) hca ?_;refine yh (vs:=[.int .u64 (p.1:Int),.pointer (some p.2.1)]) (by rfl) (by
   intro v hv
   simp only [mem_cons,not_mem_nil,or_false]at hv
   rcases hv with rfl|rfl<;>rfl) (fun r14 w8 hb14 he8 hr14=>?_) (by rfl)
  refine zN fun w9 he9 hz9 hh9=>?_;have hb14:=hb14.ext he9;have he89:=he8.trans he9;have ht9:=ht7.ext' he89;have hs9:=hs7.ext he89;refine zJ ((p.1:Nat):Int) hb14 (by rfl) (zm 1 (some p.2.1) hb14 (by rfl) (zu ?_));refine zaW (l:=.int .u32) (x:=((p.2.2:Nat):Int)) (hcell3 p hmem ht9.ext) ?_;have hv32:=hr32 _ (hroot p hmem);rw[show wrap .u64 ((p.2.2:Nat):Int)=((p.2.2:Nat):Int) from zD (by omega)];have hw:wrap .i64 ((i:Int)+1)=((i+1:Nat):Int):=by rw[wrap_i64 (by omega) (by omega)];rfl
  rw[hw];have neR:∀ {w':World} {A:Option Addr} {n c0:Nat} {xs:List Nat},Owni (zw .u64) 40 w' w3.heap.size A n c0 xs->Blk w' r14 [.int .u64 (p.1:Int),.pointer (some p.2.1)] 135->orow A≠some r14:=fun ho hb e=>Own.neB (show Own 40 _ _ _ _ _ _ from ho) hb (by decide) _ e rfl;have hp17:∀ {w':World},Ext w3 w'->HL w' [(p.2.1,.int .u32 ((p.2.2:Nat):Int))]:=fun he q hq=>by rw[mem_singleton.1 hq];exact hcell3 p hmem he
  have fin:∀ {w':World} {A1' A2':Option Addr} {c1' c2':Nat},uJ w3 w' A1' A2' (i+1+1) c1' c2' ((0::(sp.take i).map fun p=>p.1)++[p.1]) ((bn::(sp.take i).map fun p=>p.2.2)++[p.2.2])->Owni spE 135 w' w5.heap.size Asp sp.length ksp (sp.map spP)->
    (∃ (j:Nat) (B1 B2:Option Addr) (d1 d2:Nat),j<=sp.length/\(((A1',i+1+1,c1'),(A2',i+1+1,c2'),((i+1:Nat):Int),()):SLC×SLC×Int×Unit)=((B1,j+1,d1),(B2,j+1,d2),(j:Int),())/\uJ w3 w' B1 B2 (j+1) d1 d2 (0::(sp.take j).map fun p=>p.1) (bn::(sp.take j).map fun p=>p.2.2)/\Owni spE 135 w' w5.heap.size Asp sp.length ksp (sp.map spP)):=by
   intro w' A1' A2' c1' c2' h1 h2;refine⟨i+1,A1',A2',c1',c2',by omega,rfl,?_,h2⟩;rw[tk,map_append,map_append];exact h1
  have spk:∀ {wa wb:World} {A:Option Addr} {n c0:Nat} {xs:List Nat},Owni spE 135 wa w5.heap.size Asp sp.length ksp (sp.map spP)->Owni (zw .u64) 40 wa w3.heap.size A n c0 xs->(∀ q,orow A≠some q->q<wa.heap.size->wb.heap[q]?=wa.heap[q]?)->Owni spE 135 wb w5.heap.size Asp sp.length ksp (sp.map spP):=fun h1 h2 h3=>h1.cong (fun j hj=>h3 j (fun e=>h1.ne h2 (by decide) j hj e) (h1.ye j hj));have bk:∀ {wa wb:World} {A:Option Addr} {n c0:Nat} {xs:List Nat},Blk wa r14 [.int .u64 (p.1:Int),.pointer (some p.2.1)] 135->Owni (zw .u64) 40 wa w3.heap.size A n c0 xs->(∀ q,orow A≠some q->q<wa.heap.size->wb.heap[q]?=wa.heap[q]?)->Blk wb r14 [.int .u64 (p.1:Int),.pointer (some p.2.1)] 135:=fun h1 h2 h3=>(h3 r14 (neR h2 h1) h1.lt).trans h1;refine⟨?_,?_⟩
  ·refine zp fun r19 wa hb19 hea hra hza=>?_;have hba:=hb14.ext hea;have hta:=ht9.ext' hea;have hsa:=hs9.ext hea;refine jG (hp17 hta.ext) (xd hba rfl) ?_;refine⟨?_,?_⟩
   ·refine zeF hta hb19 (by omega) ?_;intro B1 d1 wb hkb hvb hne heb hsb hkeep;have hbb:=bk hba hta.ks hkeep;have hspb:=spk hsa hta.ks hkeep;refine jG (hp17 heb) (xd hbb rfl) ?_;refine zp fun r21 wc hb21 hec hrc hzc=>?_;refine xz (ym (hbb.ext hec) rfl) ?_;refine zeG (hkb.ext hec) (hvb.ext hec) hne (heb.trans hec) hb21 (by omega) ?_;intro B2 d2 wd htd hsd hkeepd;exact⟨fin htd (spk (hspb.ext hec) (hvb.ext hec) hkeepd),by omega⟩
   ·refine zp fun r23 wb hb23 heb hrb hzb=>?_;have hbb:=hba.ext heb;have htb:=hta.ext' heb;have hspb:=hsa.ext heb;refine xz (ym hbb rfl) ?_;refine zeF htb (hb19.ext heb) (by omega) ?_;intro B1 d1 wc hkc hvc hne hec hsc hkeep;have hbc:=bk hbb htb.ks hkeep;have hspc:=spk hspb htb.ks hkeep;refine jG (hp17 hec) (xd hbc rfl) ?_;have hb23':Blk wc r23 _ _:=(hkeep r23 (fun e=>by have:=hta.ks.ye _ e;have:=hb23.lt;omega) hb23.lt).trans hb23;refine zeG hkc hvc hne hec hb23' (by omega) ?_;intro B2 d2 wd htd hsd hkeepd;exact⟨fin htd (spk hspc hvc hkeepd),by omega⟩
  ·refine zp fun r26 wa hb26 hea hra hza=>?_;have hba:=hb14.ext hea;have hta:=ht9.ext' hea;have hsa:=hs9.ext hea;refine xz (ym hba rfl) ?_;refine zp fun r27 wb hb27 heb hrb hzb=>?_;have hbb:=hba.ext heb;have htb:=hta.ext' heb;have hspb:=hsa.ext heb;refine jG (hp17 htb.ext) (xd hbb rfl) ?_;refine zeF htb hb27 (by omega) ?_;intro B1 d1 wc hkc hvc hne hec hsc hkeep;have hbc:=bk hbb htb.ks hkeep;have hspc:=spk hspb htb.ks hkeep;refine jG (hp17 hec) (xd hbc rfl) ?_;have hb26b:=hb26.ext heb;have hb26':Blk wc r26 _ _:=(hkeep r26 (fun e=>by have:=ht9.ks.ye _ e;omega) hb26b.lt).trans hb26b;refine zeG hkc hvc hne hec hb26' (by omega) ?_;intro B2 d2 wd htd hsd hkeepd;exact⟨fin htd (spk hspc hvc hkeepd),by omega⟩
 ·obtain rfl:i=sp.length:=by omega
  refine zd (decide_eq_false (by omega)) ?_;rw[take_of_length_le (by omega)]at ht7;have hks:sp.map (fun p=>p.1)=qV c:=by unfold qV;rw[<- hkv,map_map];rfl
  have hvs:sp.map (fun p=>p.2.2)=z8 c:=by unfold z8;rw[<- hkv,map_map];rfl
  rw[hks,hvs]at ht7;have hkl:(qV c).length=sp.length:=by rw[<- hks,length_map]
  have hvl:(z8 c).length=sp.length:=by rw[<- hvs,length_map]
  obtain⟨hpw,hk200⟩:=zqE ht16 hs16;have h37:=h3.ext ht7.ext;have h3lt:=h3.lt;have hs37:=ht7.ext.size;have hrow:∀ {A:Option Addr} {n c0:Nat} {xs:List Nat},Owni (zw .u64) 40 w7 w3.heap.size A n c0 xs->∀ a,A=some a->¬F3 a.block/\a.block<w7.heap.size:=fun ho a ha=>by
   have e1:=ho.row a.block (by rw[ha];rfl);have e2:=ho.ye a.block (by rw[ha];rfl);exact⟨fun hf=>by have:=h3lt _ hf;omega,e2⟩
  have hr0:S2.r0=S.r0:=hMk.r0;have hsup:=hMk.sup;have hfr:=hMk.free;have hpn:=hMk.pen;rw[hmk]at hll;have hnp:ls.length<=65537:=by
   have:=(zde (len:=(xU c).length) q1 hmost).2;omega
  refine zb (zja (R:=R) (ks:=0::qV c) (vs:=bn::z8 c) (x:=(A1,sp.length+1,c1)) (y:=(A2,sp.length+1,c2)) h37 hG2 (by omega) ht7.ks.sl ht7.ks.le.1 ht7.vs.sl (hrow ht7.ks) (hrow ht7.vs) (by simp[hkl,hvl]) (fun k hk=>by have:=hk200 k hk;omega) (by simp) (by rw[hr0,length_cons];omega) (zih hpw) (by rw[hsup];omega) (fun v hv=>?_)) ?_
  ·rcases mem_cons.1 hv with rfl|hv
   ·rw[hone];omega
   ·have hu:=hg.good.well.root v (mem_append_left _ hv);rw[(hMk.used hg.good hu).2.1];exact h6 v hv
  rintro _ w8 ⟨S',n,ls2,rfl,hB,hst⟩;refine⟨((n:Int),0,()),rfl,.inr ⟨h0,S',n,ls++ls2,rfl,⟨hMk.trans hB.made,hB.great,⟨hIs,bn,bks,hB.tree,?_⟩,?_⟩,yO.trans (Only.trans hO03 (Only.zz (F:=F) ht7.ext) (fun j hj=>.inl hj)) (fun k hk=>?_) hst⟩⟩
  ·have hub:=hG2.good.well.root bn mem_cons_self;refine hBl.keep (hB.made.r0) (fun k hk=>?_);rcases hk with rfl|hk
   ·exact(hB.made.used hG2.good hub).1
   ·have hkid:zR S2.page bn=bks:=by unfold zR;rw[hBl.idx]
    exact(hB.made.used hG2.good ((hG2.good.well.good bn hub).2 k (by rw[hkid];exact hk))).1
  ·have:=hB.few;rw[length_append];omega
  ·rcases hF30 k hk with e|e
   ·exact .inl e
   ·exact .inr e
end V
/- Contracts of the package catalog:Get;the entries of a tree,gathered. -/
namespace V
open Go Go.Proofs Go.RowKit Crc
variable {w w':World} {b db:Nat} {S:Spa} {F:Nat->Prop}
structure Gath (w0 w:World) (r1 r5 r6:Nat) (i:Nat) (ks vs:List Nat) (A1 A2:Option Addr) (c1 c2:Nat):Prop where
 ext:Ext w0 w
 b1:Blk w r1 (zF (none,0,0) (none,0,0)) 30
 b5:Blk w r5 [.slice A1 i c1] 138
 b6:Blk w r6 [.slice A2 i c2] 47
 ks:Owni (zw .u64) 40 w (r6+1) A1 i c1 ks
 vs:Owni (zw .u32) 39 w (r6+1) A2 i c2 vs
theorem Gath.only {G:Nat->Prop} {w0:World} {r1 r5 r6 i:Nat} {ks vs:List Nat} {A1 A2:Option Addr} {c1 c2:Nat} (h:Gath w0 w r1 r5 r6 i ks vs A1 A2 c1 c2) (o:Only G w w') (h0:w0.heap.size<=r1) (hr:r1<r5/\r5<r6) (hG:∀ k,G k->r6<k/\orow A1≠some k/\orow A2≠some k):Gath w0 w' r1 r5 r6 i ks vs A1 A2 c1 c2:=
 ⟨Only.ext h.ext o (fun j hj=>by have:=(hG j hj).1;omega),h.b1.only o (fun e=>by have:=(hG _ e).1;omega),h.b5.only o (fun e=>by have:=(hG _ e).1;omega),h.b6.only o (fun e=>by have:=(hG _ e).1;omega),
  h.ks.only o (fun j hj e=>(hG j e).2.1 hj),h.vs.only o (fun j hj e=>(hG j e).2.2 hj)⟩
theorem Gath.ext' {w0:World} {r1 r5 r6 i:Nat} {ks vs:List Nat} {A1 A2:Option Addr} {c1 c2:Nat} (h:Gath w0 w r1 r5 r6 i ks vs A1 A2 c1 c2) (he:Ext w w'):Gath w0 w' r1 r5 r6 i ks vs A1 A2 c1 c2:=⟨h.ext.trans he,h.b1.ext he,h.b5.ext he,h.b6.ext he,h.ks.ext he,h.vs.ext he⟩
theorem zeH {w0:World} {r1 r5 r6 i k rk:Nat} {ks vs:List Nat} {A1 A2:Option Addr} {c1 c2:Nat} {t1:TypeId} {K1:SLC->WP} (h:Gath w0 w r1 r5 r6 i ks vs A1 A2 c1 c2) (hr:w0.heap.size<=r1/\r1<r5/\r5<r6) (hk:Blk w rk [.int .u64 (k:Int)] t1) (hn:i<=1000000)
  (hK:∀ A c w1,Owni (zw .u64) 40 w1 (r6+1) A (i+1) c (ks++[k])->Blk w1 r1 (zF (none,0,0) (none,0,0)) 30->Blk w1 r5 [.slice A1 i c1] 138->Blk w1 r6 [.slice A2 i c2] 47->Owni (zw .u32) 39 w1 (r6+1) A2 i c2 vs->Only (fun q=>orow A1=some q) w w1->(∀ q,orow A=some q->orow A1=some q\/w.heap.size<=q)->K1 (A,i+1,c) w1):
  zv prog (Builtin.append_ #[138,138] 138 #[.slice A1 i c1,.slice (some (aD rk)) 1 1]) .slc K1 w:=by
 have hx:Sli (zw .u64) w (some ⟨rk,0,none⟩) 1 [k]:=Sli.xw (E:=zw .u64) (xs:=[k]) hk rfl (by omega);refine xp kT h.ks (by have:=h.b6.lt;omega) hx (by omega) (by omega) ?_;intro A c w1 ho hg _;have hrow:=h.ks.row;exact hK A c w1 ho (h.b1.grown hg.grown (fun e=>by have:=hrow _ e.symm;omega)) (h.b5.grown hg.grown (fun e=>by have:=hrow _ e.symm;omega)) (h.b6.grown hg.grown (fun e=>by have:=hrow _ e.symm;omega)) (h.vs.grown hg.grown (fun j hj=>h.ks.ne h.vs (by decide) j hj)) (Only.zV hg.grown (fun q hq=>.inl hq)) hg.next
theorem zkZ {w0:World} {r1 r5 r6 i k v:Nat} {ks vs:List Nat} {A1 A2:Option Addr} {c1 c2:Nat} {N:WP} (h:Gath w0 w r1 r5 r6 i ks vs A1 A2 c1 c2) (hr:w0.heap.size<=r1/\r1<r5/\r5<r6) (hn:i<=1000000) (hv32:v<4294967296)
  (hN:∀ A1' A2' c1' c2' w',Gath w0 w' r1 r5 r6 (i+1) (ks++[k]) (vs++[v]) A1' A2' c1' c2'->Only (fun q=>q=r5\/q=r6\/orow A1=some q\/orow A2=some q) w w'->(∀ q,orow A1'=some q->orow A1=some q\/w.heap.size<=q)->(∀ q,orow A2'=some q->orow A2=some q\/w.heap.size<=q)->N w'):
  (zB<|ldW .slc (aD r5) fun(u14:SLC)=>ldW .slc (aD r6) fun(u15:SLC)=>
   kI (zi (.cells #[.int .u64 (k:Int)] 40) fun r16=>zt [[((aD r6),.slice u15.1 u15.2.1 u15.2.2)],[((aD r5),.slice u14.1 u14.2.1 u14.2.2)]]<|
    kI (zv prog (Builtin.append_ #[138,138] 138 #[.slice u14.1 u14.2.1 u14.2.2,.slice (some (aD r16)) 1 1]) .slc fun(u17:SLC)=>
     zt [[((aD r6),.slice u15.1 u15.2.1 u15.2.2)]]<|zi (.cells #[.int .u32 (wrap .u32 (v:Int))] 39) fun r18=>
     zt [[((aD r6),.slice u15.1 u15.2.1 u15.2.2)],[((aD r5),.slice u14.1 u14.2.1 u14.2.2)]]<|
     zv prog (Builtin.append_ #[47,47] 47 #[.slice u15.1 u15.2.1 u15.2.2,.slice (some (aD r18)) 1 1]) .slc fun(u19:SLC)=>
     stW (aD r5) (.slice u17.1 u17.2.1 u17.2.2)<|stW (aD r6) (.slice u19.1 u19.2.1 u19.2.2)<|N)
    (zi (.cells #[.int .u32 (wrap .u32 (v:Int))] 39) fun r20=>
     zt [[((aD r6),.slice u15.1 u15.2.1 u15.2.2)],[((aD r5),.slice u14.1 u14.2.1 u14.2.2)]]<|
     zv prog (Builtin.append_ #[138,138] 138 #[.slice u14.1 u14.2.1 u14.2.2,.slice (some (aD r16)) 1 1]) .slc fun(u21:SLC)=>
     zt [[((aD r6),.slice u15.1 u15.2.1 u15.2.2)]]<|
     zv prog (Builtin.append_ #[47,47] 47 #[.slice u15.1 u15.2.1 u15.2.2,.slice (some (aD r20)) 1 1]) .slc fun(u22:SLC)=>
     stW (aD r5) (.slice u21.1 u21.2.1 u21.2.2)<|stW (aD r6) (.slice u22.1 u22.2.1 u22.2.2)<|N))
   (zi (.cells #[.int .u32 (wrap .u32 (v:Int))] 39) fun r23=>
    zt [[((aD r6),.slice u15.1 u15.2.1 u15.2.2)],[((aD r5),.slice u14.1 u14.2.1 u14.2.2)]]<|
    zi (.cells #[.int .u64 (k:Int)] 40) fun r24=>zt [[((aD r6),.slice u15.1 u15.2.1 u15.2.2)],[((aD r5),.slice u14.1 u14.2.1 u14.2.2)]]<|
    zv prog (Builtin.append_ #[138,138] 138 #[.slice u14.1 u14.2.1 u14.2.2,.slice (some (aD r24)) 1 1]) .slc fun(u25:SLC)=>
    zt [[((aD r6),.slice u15.1 u15.2.1 u15.2.2)]]<|
    zv prog (Builtin.append_ #[47,47] 47 #[.slice u15.1 u15.2.1 u15.2.2,.slice (some (aD r23)) 1 1]) .slc fun(u26:SLC)=>
    stW (aD r5) (.slice u25.1 u25.2.1 u25.2.2)<|stW (aD r6) (.slice u26.1 u26.2.1 u26.2.2)<|N)) w:=by
 refine zN fun wd hed hzd hhd=>?_;have hd:=h.ext' hed;refine zJ ((A1,i,c1):SLC) hd.b5 (by rfl) (zJ ((A2,i,c2):SLC) hd.b6 (by rfl) ?_);have hv:wrap .u32 (v:Int)=(v:Int):=by rw[wrap_u32];omega
 rw[hv];have hs0:=hed.size
 -- the values' append, and the boxes
 have fin:∀ {A:Option Addr} {c rv:Nat} {wa wb:World} {t:TypeId},Ext wd wa->Owni (zw .u64) 40 wb (r6+1) A (i+1) c (ks++[k])->Blk wb r1 (zF (none,0,0) (none,0,0)) 30->Blk wb r5 [.slice A1 i c1] 138->Blk wb r6 [.slice A2 i c2] 47->Owni (zw .u32) 39 wb (r6+1) A2 i c2 vs->Only (fun q=>orow A1=some q) wa wb->(∀ q,orow A=some q->orow A1=some q\/wa.heap.size<=q)->Blk wb rv [.int .u32 (v:Int)] t->
   zv prog (Builtin.append_ #[47,47] 47 #[.slice A2 i c2,.slice (some (aD rv)) 1 1]) .slc (fun(u19:SLC)=>stW (aD r5) (.slice A (i+1) c)<|stW (aD r6) (.slice u19.1 u19.2.1 u19.2.2)<|N) wb:=by
  intro A c rv wa wb t hea ho g1 g5 g6 gv oab hAn hb;have hx:Sli (zw .u32) wb (some ⟨rv,0,none⟩) 1 [v]:=Sli.xw (E:=zw .u32) (xs:=[v]) hb rfl (by omega);refine xp jR gv (by have:=g6.lt;omega) hx (by omega) (by omega) ?_;intro A' c' w1 ho' hg _;have hrow:=gv.row;have e1:=g1.grown hg.grown (fun e=>by have:=hrow _ e.symm;omega);have e5:=g5.grown hg.grown (fun e=>by have:=hrow _ e.symm;omega);have e6:=g6.grown hg.grown (fun e=>by have:=hrow _ e.symm;omega);have ek:=ho.grown hg.grown (fun j hj=>gv.ne ho (by decide) j hj);have ob1:Only (fun q=>orow A2=some q) wb w1:=Only.zV hg.grown (fun q hq=>.inl hq);refine stE (o:=0) e5 rfl (by show 0<1;omega) ?_;intro w2 f5 o2;refine stE (o:=0) (e6.only o2 (by omega)) rfl (by show 0<1;omega) ?_;intro w3 f6 o3;have hsz1:=oab.2.2.2.1;have hsz2:=hg.grown.size;have hsz0:=hea.size;have rA:=ho.row;have rA':=ho'.row;have oall:Only (fun q=>q=r5\/q=r6\/orow A1=some q\/orow A2=some q) w w3:=by
   refine Only.trans (Only.trans (Only.trans (Only.trans (Only.zz (hed.trans hea)) (oab.mono (fun q hq=>.inr (.inr (.inl hq)))) (fun q hq=>.inl hq)) (ob1.mono (fun q hq=>.inr (.inr (.inr hq)))) (fun q hq=>.inl hq)) (o2.mono (fun q hq=>.inl hq)) (fun q hq=>.inl hq)) (o3.mono (fun q hq=>.inr (.inl hq))) (fun q hq=>.inl hq)
  have k1:=h.ks.row;have k2:=h.vs.row;refine hN A A' c c' w3 ⟨Only.ext h.ext oall (fun q hq=>?_),(e1.only o2 (by omega)).only o3 (by omega),f5.only o3 (by omega),f6,(ek.only o2 (fun j hj e=>by have:=rA j hj;have:j=r5:=e;omega)).only o3 (fun j hj e=>by have:=rA j hj;have:j=r6:=e;omega),(ho'.only o2 (fun j hj e=>by have:=rA' j hj;have:j=r5:=e;omega)).only o3 (fun j hj e=>by have:=rA' j hj;have:j=r6:=e;omega)⟩ oall (fun q hq=>?_) (fun q hq=>?_)
  ·rcases hq with e|e|e|e
   ·omega
   ·omega
   ·have:=k1 q e;omega
   ·have:=k2 q e;omega
  ·rcases hAn q hq with e|e
   ·exact .inl e
   ·exact .inr (by omega)
  ·rcases hg.next q hq with e|e
   ·exact .inl e
   ·exact .inr (by omega)
 refine⟨?_,?_⟩
 ·refine zp fun r16 wa hb16 hea hra hza=>?_;have ha:=hd.ext' hea;refine jG (ym ha.b6 rfl) (ym ha.b5 rfl) ?_;refine⟨?_,?_⟩
  ·refine zeH ha hr hb16 hn ?_;intro A c wb ho g1 g5 g6 gv oab hAn;refine xz (ym g6 rfl) ?_;refine zp fun r18 wc hb18 hec hrc hzc=>?_;refine jG (ym (g6.ext hec) rfl) (ym (g5.ext hec) rfl) ?_;exact fin hea (ho.ext hec) (g1.ext hec) (g5.ext hec) (g6.ext hec) (gv.ext hec) (Only.trans oab (Only.zz (F:=fun q=>orow A1=some q) hec) (fun q hq=>.inl hq)) hAn hb18
  ·refine zp fun r20 wb hb20 heb hrb hzb=>?_;have hb:=ha.ext' heb;refine jG (ym hb.b6 rfl) (ym hb.b5 rfl) ?_;refine zeH hb hr (hb16.ext heb) hn ?_;intro A c wc ho g1 g5 g6 gv oab hAn;refine xz (ym g6 rfl) ?_;exact fin (hea.trans heb) ho g1 g5 g6 gv oab hAn (hb20.only oab (fun e=>by have:=ha.ks.ye _ e;omega))
 ·refine zp fun r23 wa hb23 hea hra hza=>?_;have ha:=hd.ext' hea;refine jG (ym ha.b6 rfl) (ym ha.b5 rfl) ?_;refine zp fun r24 wb hb24 heb hrb hzb=>?_;have hb:=ha.ext' heb;refine jG (ym hb.b6 rfl) (ym hb.b5 rfl) ?_;refine zeH hb hr hb24 hn ?_;intro A c wc ho g1 g5 g6 gv oab hAn;refine xz (ym g6 rfl) ?_;exact fin (hea.trans heb) ho g1 g5 g6 gv oab hAn ((hb23.ext heb).only oab (fun e=>by have:=hd.ks.ye _ e;omega))
end V
/- A field of a row of one's own is set. -/
namespace V
open Go Go.Proofs Go.RowKit Crc
variable {w w':World} {b db:Nat} {S:Spa} {F:Nat->Prop} {R:List Nat}
theorem Enc.zij {α:Type} (E:Enc α) {x x':α} {v:Value} {j:Nat} (hj:j<E.k) (hx:E.f x'=(E.f x).set j v):∀ (xs:List α) (i:Nat),xs[i]?=some x->(E.flat xs).set (i*E.k+j) v=E.flat (xs.set i x')
 |[],i,h=>by simp at h
 |a::r,0,h=>by
  have ha:a=x:=by simpa using h
  subst ha;show(E.f a++E.flat r).set (0*E.k+j) v=E.f x'++E.flat r;rw[Nat.zero_mul,Nat.zero_add,List.set_append_left _ _ (by rw[E.len];exact hj),hx]
 |a::r,i+1,h=>by
  have ih:=Enc.zij E hj hx r i (by simpa using h);show(E.f a++E.flat r).set ((i+1)*E.k+j) v=E.f a++E.flat (r.set i x');rw[List.set_append_right _ _ (by rw[E.len,Nat.add_mul,Nat.one_mul];omega),E.len,show(i+1)*E.k+j-E.k=i*E.k+j by rw[Nat.add_mul,Nat.one_mul];omega,ih]
theorem Owni.stF {α:Type} {E:Enc α} {e:TypeId} {B0:Nat} {A:Option Addr} {n c i j k:Nat} {xs:List α} {x x':α} {v:Value} {K:WP} (h:Owni E e w B0 A n c xs) (hk:E.k=k) (hi:xs[i]?=some x) (hj:j<k) (hx:E.f x'=(E.f x).set j v)
  (hK:∀ w',Owni E e w' B0 A n c (xs.set i x')->Only (fun q=>orow A=some q) w w'->K w'):stW (((adr A).add (i*k)).add j) v K w:=by
 subst hk;have hl:=h.len;have hin:i<xs.length:=(List.getElem?_eq_some_iff.1 hi).1;obtain⟨g,hA⟩:∃ g,A=some ⟨g,0,none⟩:=by
  rcases h.2 with ⟨hv,h2⟩|⟨g,cap,cur,hv,_⟩
  ·have:n=0:=h2;omega
  ·injection hv with hv
   exact⟨g,hv⟩
 subst hA;have ha:((adr (some ⟨g,0,none⟩)).add (i*E.k)).add j=(⟨g,i*E.k+j,none⟩:Addr):=by
  show((aD g).add (i*E.k)).add j=_;rw[zx,zx,Nat.zero_add]
 rw[ha];have hlt:i*E.k+j<(E.flat xs).length:=by
  rw[Enc.yB];have:(i+1)*E.k<=xs.length*E.k:=Nat.mul_le_mul_right _ hin;rw[Nat.add_mul,Nat.one_mul]at this;omega
 have hst:=World.ownsRow.stored (show w.ownsRow B0 e E.k (.slice (some ⟨g,0,none⟩) n c) n (E.flat xs) from h) (i*E.k+j) v;refine⟨?_,World.ownsRow.frozenAt (show w.ownsRow B0 e E.k (.slice (some ⟨g,0,none⟩) n c) n (E.flat xs) from h) _,hK _ ?_ (Only.zV hst.2 (fun q hq=>.inl (by injection hq with hq;rw[<- hq];rfl)))⟩
 ·rw[World.ownsRow.cellAt (show w.ownsRow B0 e E.k (.slice (some ⟨g,0,none⟩) n c) n (E.flat xs) from h) _ (by rw[<- hl,<- Enc.yB];exact hlt)];exact⟨_,List.getElem?_eq_getElem hlt⟩
 ·have:=hst.1;rw[Enc.zij E hj hx xs i hi]at this;exact this
end V
/- Catalogs whose roots are put in one by one:plain. -/
namespace V
open Go Go.Proofs Go.RowKit Crc
def nzT (es:List Ent) (j:Nat):Nat:=(spT none es j).length
def nzS (ss:List Snp) (j:Nat):Nat:=(spS none ss j).length
theorem zce (A:Option Addr) (es:List Ent) (j:Nat):(spT A es j).length=nzT es j:=by
 have:=congrArg List.length (zid A none es j)
 rwa [length_map,length_map]at this
theorem zfp (A:Option Addr) (ss:List Snp) (j:Nat):(spS A ss j).length=nzS ss j:=by
 have:=congrArg List.length (zie A none ss j)
 rwa [length_map,length_map]at this
theorem zik (es:List Ent) (j:Nat):nzT es (j+1)=nzT es j+(if (es.getD j zQ).2.2.1=0 then 0 else 1):=by
 unfold nzT;rw[jy,length_append];split<;>rfl
theorem zil (ss:List Snp) (j:Nat):nzS ss (j+1)=nzS ss j+(if (ss.getD j zL).2=0 then 0 else 1):=by
 unfold nzS;rw[jY,length_append];split<;>rfl
theorem zim (es:List Ent) (j:Nat):∀ d,nzT es j<=nzT es (j+d)
 |0=>Nat.le_refl _
 |d+1=>Nat.le_trans (zim es j d) (by rw[<- Nat.add_assoc,zik];omega)
theorem zin (ss:List Snp) (j:Nat):∀ d,nzS ss j<=nzS ss (j+d)
 |0=>Nat.le_refl _
 |d+1=>Nat.le_trans (zin ss j d) (by rw[<- Nat.add_assoc,zil];omega)
theorem zfq {es:List Ent} {j k:Nat} (h:j<k) (hj:(es.getD j zQ).2.2.1≠0):nzT es j<nzT es k:=by
 have h1:=zim es (j+1) (k-(j+1));rw[show j+1+(k-(j+1))=k by omega,zik,if_neg hj]at h1;omega
theorem zio {ss:List Snp} {j k:Nat} (h:j<k) (hj:(ss.getD j zL).2≠0):nzS ss j<nzS ss k:=by
 have h1:=zin ss (j+1) (k-(j+1));rw[show j+1+(k-(j+1))=k by omega,zil,if_neg hj]at h1;omega
theorem zma {A:Option Addr} {es:List Ent}:∀ {n i:Nat} {p:Spt},(spT A es n)[i]?=some p->∃ j,j<n/\nzT es j=i/\(es.getD j zQ).2.2.1≠0/\p=(1+j,vx A j,(es.getD j zQ).2.2.1)
 |0,i,p,h=>by simp[spT]at h
 |n+1,i,p,h=>by
  rw[jy]at h
  by_cases hi:i<(spT A es n).length
  ·rw[List.getElem?_append_left hi]at h;obtain⟨j,h1,h2⟩:=zma h;exact⟨j,by omega,h2⟩
  ·rw[List.getElem?_append_right (by omega)]at h;split at h
   ·simp at h
   ·rename_i hn;have h0:i-(spT A es n).length=0:=by
     have:=(List.getElem?_eq_some_iff.1 h).1;simp at this;omega
    rw[h0]at h;refine⟨n,by omega,by rw[<- zce A];omega,hn,?_⟩
    simpa using h.symm
theorem zmb {A:Option Addr} {ss:List Snp}:∀ {n i:Nat} {p:Spt},(spS A ss n)[i]?=some p->∃ j,j<n/\nzS ss j=i/\(ss.getD j zL).2≠0/\p=(100+j,vy A j,(ss.getD j zL).2)
 |0,i,p,h=>by simp[spS]at h
 |n+1,i,p,h=>by
  rw[jY]at h
  by_cases hi:i<(spS A ss n).length
  ·rw[List.getElem?_append_left hi]at h;obtain⟨j,h1,h2⟩:=zmb h;exact⟨j,by omega,h2⟩
  ·rw[List.getElem?_append_right (by omega)]at h;split at h
   ·simp at h
   ·rename_i hn;have h0:i-(spS A ss n).length=0:=by
     have:=(List.getElem?_eq_some_iff.1 h).1;simp at this;omega
    rw[h0]at h;refine⟨n,by omega,by rw[<- zfp A];omega,hn,?_⟩
    simpa using h.symm
def ux (b:Bool) (r:Nat):Nat:=if b then r else min r 1
def zcf (es es':List Ent) (i:Nat):Prop:=es'.length=es.length/\∀ j,j<es.length->es'.getD j zQ=((es.getD j zQ).1,(es.getD j zQ).2.1,ux (decide (nzT es j<i)) (es.getD j zQ).2.2.1,(es.getD j zQ).2.2.2.1,(es.getD j zQ).2.2.2.2)
def zcg (n0:Nat) (ss ss':List Snp) (i:Nat):Prop:=ss'.length=ss.length/\∀ j,j<ss.length->ss'.getD j zL=((ss.getD j zL).1,ux (decide (n0+nzS ss j<i)) (ss.getD j zL).2)
theorem getD_map' {α β:Type} (f:α->β) (l:List α) (j:Nat) (d:α) (d':β) (h:j<l.length):(l.map f).getD j d'=f (l.getD j d):=by
 rw[getD_eq_getElem?_getD,List.getElem?_map,List.getElem?_eq_getElem h,getD_eq_getElem?_getD,List.getElem?_eq_getElem h];rfl
theorem zrf (es:List Ent):zcf es (es.map kj) 0:=by
 refine⟨by simp,fun j hj=>?_⟩;rw[getD_map' kj es j zQ zQ hj,decide_eq_false (by omega)];rfl
theorem zrg (n0:Nat) (ss:List Snp):zcg n0 ss (ss.map kL) 0:=by
 refine⟨by simp,fun j hj=>?_⟩;rw[getD_map' kL ss j zL zL hj,decide_eq_false (by omega)];rfl
theorem ziq {α:Type} {l l':List α} (d:α) (h:l.length=l'.length) (hh:∀ j,j<l'.length->l.getD j d=l'.getD j d):l=l':=by
 refine List.ext_getElem h (fun j h1 h2=>?_);have:=hh j h2;rw[getD_eq_getElem?_getD,List.getElem?_eq_getElem h1,getD_eq_getElem?_getD,List.getElem?_eq_getElem h2]at this;exact this
theorem zir {es es':List Ent} {i:Nat} (h:zcf es es' i) (hi:nzT es es.length<=i):es'=es:=by
 refine ziq zQ h.1 (fun j hj=>?_);rw[h.2 j hj]
 by_cases h0:(es.getD j zQ).2.2.1=0
 ·rw[h0];have:ux (decide (nzT es j<i)) 0=0:=by unfold ux;split<;>simp
  rw[this];refine Prod.ext rfl (Prod.ext rfl (Prod.ext h0.symm rfl))
 ·have:=zfq (k:=es.length) hj h0;rw[decide_eq_true (show nzT es j<i by omega)];rfl
theorem zon {n0:Nat} {ss ss':List Snp} {i:Nat} (h:zcg n0 ss ss' i) (hi:n0+nzS ss ss.length<=i):ss'=ss:=by
 refine ziq zL h.1 (fun j hj=>?_);rw[h.2 j hj]
 by_cases h0:(ss.getD j zL).2=0
 ·rw[h0];have:ux (decide (n0+nzS ss j<i)) 0=0:=by unfold ux;split<;>simp
  rw[this];exact Prod.ext rfl h0.symm
 ·have:=zio (k:=ss.length) hj h0;rw[decide_eq_true (show n0+nzS ss j<i by omega)];rfl
theorem ve {α:Type} {l:List α} {j k:Nat} {x d:α} (hj:j<l.length):(l.set j x).getD k d=if j=k then x else l.getD k d:=by
 rw[getD_eq_getElem?_getD,List.getElem?_set]
 by_cases h:j=k
 ·subst h;rw[if_pos rfl,if_pos hj,if_pos rfl];rfl
 ·rw[if_neg h,if_neg h,<- getD_eq_getElem?_getD]
theorem zcf.step {es es':List Ent} {i j:Nat} (h:zcf es es' i) (hj:j<es.length) (hi:nzT es j=i) (hn:(es.getD j zQ).2.2.1≠0):zcf es (es'.set j (es.getD j zQ)) (i+1):=by
 refine⟨by rw[length_set];exact h.1,fun k hk=>?_⟩;rw[ve (by rw[h.1];exact hj)]
 by_cases e:j=k
 ·subst e;rw[if_pos rfl,decide_eq_true (by omega)];rfl
 ·rw[if_neg e,h.2 k hk]
  by_cases h0:(es.getD k zQ).2.2.1=0
  ·rw[h0];have:∀ b,ux b 0=0:=fun b=>by unfold ux;split<;>simp
   rw[this,this]
  ·have hne:nzT es k≠i:=fun e2=>by
    rcases Nat.lt_or_gt_of_ne e with hlt|hlt
    ·have:=zfq hlt hn;omega
    ·have:=zfq hlt h0;omega
   rw[show decide (nzT es k<i+1)=decide (nzT es k<i) from by
    by_cases h1:nzT es k<i
    ·rw[decide_eq_true h1,decide_eq_true (by omega)]
    ·rw[decide_eq_false h1,decide_eq_false (by omega)]]
theorem zcg.step {n0:Nat} {ss ss':List Snp} {i j:Nat} (h:zcg n0 ss ss' i) (hj:j<ss.length) (hi:n0+nzS ss j=i) (hn:(ss.getD j zL).2≠0):zcg n0 ss (ss'.set j (ss.getD j zL)) (i+1):=by
 refine⟨by rw[length_set];exact h.1,fun k hk=>?_⟩;rw[ve (by rw[h.1];exact hj)]
 by_cases e:j=k
 ·subst e;rw[if_pos rfl,decide_eq_true (by omega)];rfl
 ·rw[if_neg e,h.2 k hk]
  by_cases h0:(ss.getD k zL).2=0
  ·rw[h0];have:∀ b,ux b 0=0:=fun b=>by unfold ux;split<;>simp
   rw[this,this]
  ·have hne:n0+nzS ss k≠i:=fun e2=>by
    rcases Nat.lt_or_gt_of_ne e with hlt|hlt
    ·have:=zio hlt hn;omega
    ·have:=zio hlt h0;omega
   rw[show decide (n0+nzS ss k<i+1)=decide (n0+nzS ss k<i) from by
    by_cases h1:n0+nzS ss k<i
    ·rw[decide_eq_true h1,decide_eq_true (by omega)]
    ·rw[decide_eq_false h1,decide_eq_false (by omega)]]
theorem zcf.more {es es':List Ent} {i:Nat} (h:zcf es es' i) (hi:nzT es es.length<=i):zcf es es' (i+1):=by
 have e:=zir h hi;refine⟨h.1,fun j hj=>?_⟩;rw[e]
 by_cases h0:(es.getD j zQ).2.2.1=0
 ·rw[h0];have:ux (decide (nzT es j<i+1)) 0=0:=by unfold ux;split<;>simp
  rw[this];exact Prod.ext rfl (Prod.ext rfl (Prod.ext h0 rfl))
 ·have:=zfq (k:=es.length) hj h0;rw[decide_eq_true (show nzT es j<i+1 by omega)];rfl
theorem zcg.more {n0:Nat} {ss ss':List Snp} {i:Nat} (h:zcg n0 ss ss' i) (hi:i<n0):zcg n0 ss ss' (i+1):=by
 refine⟨h.1,fun j hj=>?_⟩;rw[h.2 j hj,decide_eq_false (by omega),decide_eq_false (by omega)]
end V
/- Contracts of the package catalog:Get;a root is put in. -/
namespace V
open Go Go.Proofs Go.RowKit Crc
variable {w w':World} {b db:Nat} {S:Spa} {F:Nat->Prop} {R:List Nat}
theorem zis (A:Option Addr) (es:List Ent):∀ i,i<=es.length->(spT A (es.map kj) i).map spP=(spT A es i).map spP
 |0,_=>rfl
 |i+1,h=>by
  rw[jy,jy,map_append,map_append,zis A es i (by omega),getD_map' kj es i zQ zQ (by omega)];congr 1
  by_cases h0:(es.getD i zQ).2.2.1=0
  ·rw[if_pos (show(kj (es.getD i zQ)).2.2.1=0 by show min _ 1=0;omega),if_pos h0]
  ·rw[if_neg (show ¬(kj (es.getD i zQ)).2.2.1=0 by show ¬min _ 1=0;omega),if_neg h0];rfl
theorem zit (A:Option Addr) (ss:List Snp):∀ i,i<=ss.length->(spS A (ss.map kL) i).map spP=(spS A ss i).map spP
 |0,_=>rfl
 |i+1,h=>by
  rw[jY,jY,map_append,map_append,zit A ss i (by omega),getD_map' kL ss i zL zL (by omega)];congr 1
  by_cases h0:(ss.getD i zL).2=0
  ·rw[if_pos (show(kL (ss.getD i zL)).2=0 by show min _ 1=0;omega),if_pos h0]
  ·rw[if_neg (show ¬(kL (ss.getD i zL)).2=0 by show ¬min _ 1=0;omega),if_neg h0];rfl
theorem zk0 (x y:SLC) (c:Cat):(z7 x y (ones c)).map spP=(z7 x y c).map spP:=by
 unfold z7 ones;dsimp only;rw[map_append,map_append,length_map,length_map,zis _ _ _ (Nat.le_refl _),zit _ _ _ (Nat.le_refl _)]
theorem zoo {x y:SLC} {c:Cat} {i:Nat} {p:Spt} (h:(z7 x y c)[i]?=some p):
  (∃ j,j<c.1.length/\nzT c.1 j=i/\(c.1.getD j zQ).2.2.1≠0/\p=(1+j,vx x.1 j,(c.1.getD j zQ).2.2.1)/\i<nzT c.1 c.1.length)\/
  (∃ j,j<c.2.length/\nzT c.1 c.1.length+nzS c.2 j=i/\(c.2.getD j zL).2≠0/\p=(100+j,vy y.1 j,(c.2.getD j zL).2)/\nzT c.1 c.1.length<=i):=by
 unfold z7 at h;have hl:=zce x.1 c.1 c.1.length
 by_cases hi:i<(spT x.1 c.1 c.1.length).length
 ·rw[List.getElem?_append_left hi]at h;obtain⟨j,h1,h2,h3,h4⟩:=zma h;exact .inl ⟨j,h1,h2,h3,h4,by omega⟩
 ·rw[List.getElem?_append_right (by omega)]at h;obtain⟨j,h1,h2,h3,h4⟩:=zmb h;exact .inr ⟨j,h1,by omega,h3,h4,by omega⟩
def zaO (w:World) (B0:Nat) (x y:SLC) (c:Cat) (i:Nat):Prop:=(∃ raws es,yA w B0 x raws es/\zcf c.1 es i)/\∃ ss,Owni zI 64 w B0 y.1 y.2.1 y.2.2 ss/\zcg (nzT c.1 c.1.length) c.2 ss i
theorem zqG {B0:Nat} {x y:SLC} {c:Cat} (h:yx w B0 x y (ones c)):zaO w B0 x y c 0:=by
 obtain⟨⟨raws,h1⟩,h2⟩:=h;exact⟨⟨raws,_,h1,zrf c.1⟩,_,h2,zrg _ c.2⟩
theorem zmc {B0:Nat} {x y:SLC} {c:Cat} {i:Nat} (h:zaO w B0 x y c i) (hi:(z7 x y c).length<=i):yx w B0 x y c:=by
 obtain⟨⟨raws,es,h1,h2⟩,ss,h3,h4⟩:=h;have hl:(z7 x y c).length=nzT c.1 c.1.length+nzS c.2 c.2.length:=by
  unfold z7;rw[length_append,zce,zfp]
 rw[zir h2 (by omega)]at h1;rw[zon h4 (by omega)]at h3;exact⟨⟨raws,h1⟩,h3⟩
theorem zaO.ext {B0:Nat} {x y:SLC} {c:Cat} {i:Nat} (h:zaO w B0 x y c i) (he:Ext w w'):zaO w' B0 x y c i:=by
 obtain⟨⟨raws,es,h1,h2⟩,ss,h3,h4⟩:=h;exact⟨⟨raws,es,h1.ext he,h2⟩,ss,h3.ext he,h4⟩
theorem zrh {B0:Nat} {x y:SLC} {c:Cat} {i:Nat} {p:Spt} {K:WP} (h:zaO w B0 x y c i) (hp:(z7 x y c)[i]?=some p)
  (hK:∀ w',zaO w' B0 x y c (i+1)->Only (fun q=>orow x.1=some q\/orow y.1=some q) w w'->K w'):stW p.2.1 (.int .u32 (p.2.2:Int)) K w:=by
 obtain⟨⟨raws,es,h1,h2⟩,ss,h3,h4⟩:=h;have hl:=h1.len;rcases zoo hp with ⟨j,j1,j2,j3,rfl,j5⟩|⟨j,j1,j2,j3,rfl,j5⟩
 ·have hj:j<raws.length:=by rw[hl,h2.1];exact j1
  have g:raws[j]?=some (raws.getD j yM):=by rw[getD_eq_getElem?_getD,List.getElem?_eq_getElem hj];rfl
  have hE:=h1.at_ j (by rw[h2.1];exact j1);have hm:=h2.2 j j1;refine Owni.stF (x':=((raws.getD j yM).1,(raws.getD j yM).2.1,(c.1.getD j zQ).2.2.1,(raws.getD j yM).2.2.2.1,(raws.getD j yM).2.2.2.2)) h1.row (k:=5) rfl g (by omega) (by rfl) ?_;intro w2 ho2 o2;refine hK w2 ⟨⟨_,_,⟨ho2,by rw[length_set,length_set];exact hl,fun k hk=>?_⟩,h2.step j1 j2 j3⟩,ss,h3.only o2 (fun q hq e=>h3.ne h1.row (by decide) q hq e),h4.more j5⟩ (o2.mono (fun q hq=>.inl hq));rw[length_set]at hk;rw[ve hj,ve (by rw[h2.1];exact j1)];have hc:∀ {r:Raw} {e:Ent},xM w B0 r e->xM w2 B0 r e:=fun hE=>⟨hE.name,hE.rest,hE.cols.only o2 (fun q hq e=>hE.cols.ne h1.row (by decide) q hq e)⟩
  by_cases e:j=k
  ·rw[if_pos e,if_pos e];have hE2:=hc hE;rw[hm]at hE2;refine⟨hE2.name,?_,hE2.cols⟩;have:=hE2.rest;dsimp only at this ⊢;rw[Prod.ext_iff]at this;rw[this.2]
  ·rw[if_neg e,if_neg e];exact hc (h1.at_ k hk)
 ·have hj:j<ss.length:=by rw[h4.1];exact j1
  have g:ss[j]?=some (ss.getD j zL):=by rw[getD_eq_getElem?_getD,List.getElem?_eq_getElem hj];rfl
  have hm:=h4.2 j j1;refine Owni.stF (x':=c.2.getD j zL) h3 (k:=2) rfl g (by omega) (by rw[hm];rfl) ?_;intro w2 ho2 o2;refine hK w2 ⟨⟨_,_,⟨h1.row.only o2 (fun q hq e=>h1.row.ne h3 (by decide) q hq e),hl,fun k hk=>?_⟩,h2.more j5⟩,_,ho2,h4.step j1 j2 j3⟩ (o2.mono (fun q hq=>.inr hq));have hE:=h1.at_ k hk;exact⟨hE.name,hE.rest,hE.cols.only o2 (fun q hq e=>hE.cols.ne h3 (by decide) q hq e)⟩
end V
/- Contracts of the package catalog:Get,whole. -/
namespace V
open Go Go.Proofs Go.RowKit Crc
variable {w w':World} {b db:Nat} {S:Spa} {F:Nat->Prop} {R:List Nat}
theorem z6.same {a c:Nat} (h:z6 w b db S F) (hs:yZ a c w w') (ha:¬F a) (hc:¬F c):z6 w' b db S F:=
 h.only (G:=fun k=>k=a\/k=c) ⟨hs.1,hs.2.1,hs.2.2.1,Nat.le_of_eq hs.2.2.2.1.symm,fun k _ hk=>hs.2.2.2.2 k (fun e=>hk (.inl e)) (fun e=>hk (.inr e))⟩ (fun j hj e=>by rcases e with rfl|rfl;exact ha hj;exact hc hj)
theorem zqH (h:z6 w b db S F) {n:Nat} {bs:ByteArray} {ks:List Nat} (hn:n<4294967296) (hd:zao S) (hB:Blob S n bs ks):Calls prog 88 #[.pointer (some ⟨b,0,none⟩),.int .u32 (n:Int)] w (Ret fun v w'=>v=.tuple #[.string bs,.int .i64 0]/\Ext w w'):=by
 obtain⟨q0,q1,q2,q3⟩:=xK hd;obtain⟨Fd,x,hb,hr,nb,nr,m,h'⟩:=h;have hp:=hB.plen hd;refine(zkY h' hn hp.1 hp.2).mono (Ret.mono ?_);rintro v w' ⟨rfl,he⟩;rw[hB.get (by omega)];exact⟨rfl,he⟩
def zrL (w0:World) (b db:Nat) (S:Spa) (F:Nat->Prop) (r1 r5 r6 z:Nat) (ks vs:List Nat) (V:Nat->Prop) (i:Nat) (w:World):Prop:=
 z6 w b db S F/\∃ A1 A2 c1 c2,Gath w0 w r1 r5 r6 i (ks.take i) (vs.take i) A1 A2 c1 c2/\(∀ k,V k\/k=z\/k=z+1->r6<k/\orow A1≠some k/\orow A2≠some k)/\z<=w.heap.size
theorem ziu {l:List Nat} {i:Nat} (h:i<l.length):l.take (i+1)=l.take i++[l.getD i 0]:=by
 rw[take_succ_eq_append_getElem h,getD_eq_getElem?_getD,List.getElem?_eq_getElem h];rfl
theorem ziv (h:z6 w b db S F) (hg:Good S R) {n:Nat} {c:Cat} (hp:zdE S n c) (hu:zE S.sup.pages S.now n=true):
  Calls prog 43 #[.pointer (some ⟨b,0,none⟩),.int .u32 (n:Int)] w (Ret fun v w'=>(∃ x y,v=.tuple #[.agg (zF x y).toArray,.int .i64 0]/\yx w' w.heap.size x y c)/\Ext w w'):=by
 obtain⟨hIs,bn,bks,hT,hBl⟩:=hp;have hn2:=(zC.1 hu).1;have hdN:=hg.dims.n;have hn32:n<4294967296:=by have:=hg.well.lt hu;omega
 have hkvl:=zfo c;have ht16:=hIs.tabs;have hs16:=hIs.snaps;have hkl:(qV c).length=(kvC c).length:=by unfold qV;rw[length_map]
 have hvl:(z8 c).length=(kvC c).length:=by unfold z8;rw[length_map]
 have hlen:(0::qV c).length=(bn::z8 c).length:=hT.len;have hFlt:=h.lt
 -- what the tree's values are
 have hvu:∀ v∈bn::z8 c,zE S.sup.pages S.now v=true:=by
  cases hT with
  |one hA=>exact fun v hv=>(hg.well.good n hu).2 v (by unfold zR;rw[hA.1];exact hv)
  |two m a c' h1 h2 h3 h4 h5 h6 h7 h8=>
   have hkid:zR S.page n=[a,c']:=by unfold zR;rw[h6]
   have hua:=((hg.well.good n hu).2 a (by rw[hkid];simp));have huc:=((hg.well.good n hu).2 c' (by rw[hkid];simp));intro v hv;rw[<- List.take_append_drop m (bn::z8 c)]at hv;rcases mem_append.1 hv with e|e
   ·exact(hg.well.good a hua).2 v (by unfold zR;rw[h7.1];exact e)
   ·exact(hg.well.good c' huc).2 v (by unfold zR;rw[h8.1];exact e)
 have hv32:∀ v∈bn::z8 c,v<4294967296:=fun v hv=>by have:=hg.well.lt (hvu v hv);omega
 apply zfJ;unfold S43;refine zp fun r1 w1 hb1 he1 hr1 hz1=>?_;have hb1:Blk w1 r1 (zF (none,0,0) (none,0,0)) 30:=hb1;refine zd (beq_eq_false_iff_ne.2 (by omega)) ?_;refine zb (zhZ (h.ext he1) hg hT hu (by rw[length_cons];omega)) ?_;rintro _ w2 ⟨rfl,he2⟩;refine⟨_,rfl,zd (by rfl) ?_⟩;refine zp fun r5 w3 hb5 he3 hr5 hz3=>?_;refine zp fun r6 w4 hb6 he4 hr6 hz4=>?_;have he24:=he3.trans he4;have he04:=(he1.trans he2).trans he24;have hb14:=(hb1.ext he2).ext he24;have hb54:=hb5.ext he4;have hs2:=he2.size;refine zb (zkI (zkH (b:=b) (db:=db) (F:=F) hg hT hu (by rw[length_cons];omega) hv32) (by omega)) ?_;rintro v w5 ⟨Q,R0,hit,hR0,hRx,hQl,hQ,he5⟩;refine⟨v,rfl,?_⟩;have hs5:=he5.size;have hL:(zb3 (0::qV c) (bn::z8 c)).length=(0::qV c).length:=za3 hlen;generalize hKs:(0::qV c)=KS at *;generalize hVs:(bn::z8 c)=VS at *;refine zex (fun i=>((KS.getD i 0:Int),(VS.getD i 0:Int),())) ?_ (zrL w b db S F r1 r5 r6 w5.heap.size KS VS) (fun _ _ _=>False) hit hQl (fun w' w'' hs hS=>hS.same hs (fun hf=>by have:=hFlt _ hf;omega) (fun hf=>by have:=hFlt _ hf;omega)) (fun _ _ _ _=>trivial) (fun V i w' hI=>hI.1) ?_ (fun _ _ _ _ _ hf _ _=>hf.elim) ?_ (fun o=>hRx _ _ hR0 (((Ext.refl w5).alloc _).alloc _)) ?_ ?_ (fun _ _ _ hf _ _=>hf.elim)
 ·intro i hi;exact(List.getElem?_eq_some_iff.1 (zb4 hlen (by rw[<- hL];exact hi))).2.symm
 ·rintro V V' i w' w'' ⟨g1,A1,A2,c1,c2,g2,g3,g4⟩ hO hV hR;have l6:=g2.b6.lt;refine⟨hR,A1,A2,c1,c2,g2.only hO (by omega) ⟨by omega,by omega⟩ g3,fun k hk=>?_,by have:=hO.2.2.2.1;omega⟩;rcases hk with hk|hk
  ·rcases hV k hk with e|e
   ·exact g3 k (.inl e)
   ·exact⟨by omega,fun e2=>by have:=g2.ks.ye _ e2;omega,fun e2=>by have:=g2.vs.ye _ e2;omega⟩
  ·exact g3 k (.inr hk)
 ·intro o;have hx:Ext w5 ((w5.alloc (.deferred (some []))).alloc o):=((Ext.refl w5).alloc _).alloc _;refine⟨(h.ext (he04.trans he5)).ext hx,none,none,0,0,⟨(he04.trans he5).trans hx,(hb14.ext he5).ext hx,(hb54.ext he5).ext hx,(hb6.ext he5).ext hx,Owni.nil _ _ _,Owni.nil _ _ _⟩,fun k hk=>⟨?_,by simp[orow,Value.ownBlock],by simp[orow,Value.ownBlock]⟩,hx.size⟩;rcases hk with hk|hk
  ·have:=hQ k hk;omega
  ·omega
 ·rintro V i hi w' G N jump hI hsz hV hVb hG;have hi':i<KS.length:=by rw[<- hL];exact hi
  refine hG _ w' hI (Nat.le_refl _) (fun _ _=>rfl) ?_;rintro w2' ⟨g1,A1,A2,c1,c2,g2,g3,g4⟩ hs2' hk2 hNC hN' hJ';dsimp only;have hKl:KS.length<=33:=by rw[<- hKs,length_cons];omega
  have hvi:VS.getD i 0<4294967296:=qK hv32 (by omega) i;refine zkZ g2 ⟨by omega,by omega,by omega⟩ (by omega) hvi ?_;intro A1' A2' c1' c2' w3' g5 o5 n1 n2;have hnr:∀ k,V k\/k=w5.heap.size\/k=w5.heap.size+1->¬(k=r5\/k=r6\/orow A1=some k\/orow A2=some k)/\k<w2'.heap.size:=fun k hk=>by
   obtain⟨q1,q2,q3⟩:=g3 k hk;refine⟨fun e=>?_,?_⟩
   ·rcases e with e|e|e|e
    ·omega
    ·omega
    ·exact q2 e
    ·exact q3 e
   ·rcases hk with hk|hk
    ·have:=(hV k hk).1;omega
    ·omega
  have hsp':z6 w3' b db S F:=g1.only o5 (fun j hj e=>by
   have:=hFlt j hj
   rcases e with e|e|e|e
   ·omega
   ·omega
   ·have:=g2.ks.row j e;omega
   ·have:=g2.vs.row j e;omega)
  refine hN' w3' hsp' ⟨hsp',A1',A2',c1',c2',by rw[ziu hi',ziu (by omega)];exact g5,fun k hk=>?_,by have:=o5.2.2.2.1;omega⟩ o5.2.2.2.1 (fun k hk=>?_)
  ·obtain⟨q1,q2,q3⟩:=g3 k hk;obtain⟨_,q4⟩:=hnr k hk;refine⟨q1,fun e=>?_,fun e=>?_⟩
   ·rcases n1 k e with e|e
    ·exact q2 e
    ·omega
   ·rcases n2 k e with e|e
    ·exact q3 e
    ·omega
  ·have hk:V k\/k=w5.heap.size\/k=w5.heap.size+1:=by
    rcases hk with e|e|e
    ·exact .inr (.inl e)
    ·exact .inr (.inr e)
    ·exact .inl e
   obtain⟨q1,q2⟩:=hnr k hk;exact o5.2.2.2.2 k q2 q1
 ·rintro V w' ⟨g1,A1,A2,c1,c2,g2,g3,g4⟩ _ hsz hdf;rw[qN];rw[hL]at g2;rw[take_of_length_le (Nat.le_refl _),take_of_length_le (by omega)]at g2;have htp:=zl9 hg hT hu;refine zb (zic g1 hn32 htp.1 htp.2) ?_;rintro _ w6 ⟨rfl,he6⟩;refine⟨_,rfl,zd (by rfl) ?_⟩;have g6:=g2.ext' he6;have sp6:=g1.ext he6;have hdf6:=he6.heap hdf;have hs6:=he6.size;have hKl:1<=KS.length/\KS.length<=33:=by rw[<- hKs,length_cons];omega
  refine zJ ((A1,KS.length,c1):SLC) g6.b5 (by rfl) (zd (beq_eq_false_iff_ne.2 (by dsimp only;omega)) ?_);refine zJ ((A1,KS.length,c1):SLC) g6.b5 (by rfl) ?_;refine ya g6.ks.sl (by omega) (by dsimp only;omega) ?_;have hK0:KS.getD (Int.toNat 0) 0=0:=by rw[<- hKs];rfl
  have hV0:VS.getD (Int.toNat 0) 0=bn:=by rw[<- hVs];rfl
  rw[hK0];refine zd (by rfl) ?_;refine zJ ((A2,KS.length,c2):SLC) g6.b6 (by rfl) ?_;refine ya g6.vs.sl (by omega) (by dsimp only;omega) ?_;rw[hV0];have hbnm:bn∈VS:=by rw[<- hVs];exact mem_cons_self
  refine zb (zqH sp6 (hv32 bn hbnm) hg.dims (hBl.blob hg (hvu bn hbnm))) ?_;rintro _ w7 ⟨rfl,he7⟩;refine⟨(mkB (xU c),0,()),rfl,zd (by rfl) ?_⟩;have hcl:=hIs.len;refine zb (zgR (s:=mkB (xU c)) (by rw[xF];omega)) ?_;rintro _ w8 ⟨⟨x,y,rfl,hown⟩,he8⟩;rw[xC,zkQ hIs]at hown ⊢;refine⟨(yF x y,0,()),rfl,?_⟩;refine yh (vs:=zF x y) (by rfl) (yw _ _) (fun r41 w9 hb41 he9 hr41=>?_) (by rfl);refine zd (by rfl) ?_;have hown9:=hown.ext he9;have hcat:=hown9.cat;have he68:=he7.trans he8;have he69:=he68.trans he9;have hs7:=he7.size;have hs8:=he8.size;have hs9:=he9.size;have g9:=g6.ext' he69;have hdf9:=he69.heap hdf6;refine zb (zbd hb41 hcat (by show(ones c).1.length<=_;unfold ones;rw[length_map];omega) (by show(ones c).2.length<=_;unfold ones;rw[length_map];omega)) ?_;rintro _ w10 ⟨Asp,ksp,rfl,hsp,he10⟩;refine⟨(Asp,(z7 x y (ones c)).length,ksp),rfl,?_⟩;have hso:=zk0 x y c;have hsl:(z7 x y (ones c)).length=(z7 x y c).length:=by have:=congrArg List.length hso;rwa [length_map,length_map]at this
  rw[hso,hsl]at hsp;rw[hsl];have g10:=g9.ext' he10;have hdf10:=he10.heap hdf9;have hs10:=he10.size;have hspl:=zaN x y c;have hkv:=zcd x y c;have hlx:=hb41.lt
  -- rows
  have rx:(∀ j,orow x.1=some j->w7.heap.size<=j/\j<w8.heap.size)/\(∀ j,orow y.1=some j->w7.heap.size<=j/\j<w8.heap.size):=by
   obtain⟨⟨raws,q1⟩,q2⟩:=hown;exact⟨fun j hj=>⟨q1.row.row j hj,q1.row.ye j hj⟩,fun j hj=>⟨q2.row j hj,q2.ye j hj⟩⟩
  have rA1:=g6.ks.ye;have rA2:=g6.vs.ye;have l6:=g6.b6.lt;refine zJ ((A1,KS.length,c1):SLC) g10.b5 (by rfl) ?_;have hKl2:KS.length=(z7 x y c).length+1:=by rw[<- hKs,length_cons,hkl,hspl]
  refine zd (bne_eq_false_iff_eq.2 (by dsimp only;rw[wrap_i64 (by omega) (by omega)];omega)) ?_;generalize hspd:z7 x y c=sp at *;refine zy (fun t w'=>∃ i:Nat,i<=sp.length/\t=((i:Int),())/\zaO w' w7.heap.size x y c i/\Gath w w' r1 r5 r6 KS.length KS VS A1 A2 c1 c2/\Blk w' r41 (zF x y) 30/\Owni spE 135 w' w9.heap.size Asp sp.length ksp (sp.map spP)/\w'.heap[w5.heap.size]?=some (.deferred (some []))) (fun t=>(sp.length-t.1).toNat)
   ⟨0,by omega,rfl,(zqG hown9).ext he10,g10,hb41.ext he10,hsp,hdf10⟩ ?_
  rintro _ w11 ⟨i,hi,rfl,hmx,g11,hb11,hsp11,hdf11⟩;dsimp only
  by_cases hlt:i<sp.length
  ·refine zf (decide_eq_true (by omega)) ?_;have eg:(sp.map spP)[i]?=some (spP (sp[i]'hlt)):=by rw[List.getElem?_map,List.getElem?_eq_getElem hlt];rfl
   have egs:(z7 x y c)[i]?=some (sp[i]'hlt):=by rw[hspd,List.getElem?_eq_getElem hlt]
   have ekey:KS.getD (i+1) 0=(sp[i]'hlt).1:=by
    rw[<- hKs];show(qV c).getD i 0=_;unfold qV;rw[<- hkv,map_map,getD_eq_getElem?_getD,List.getElem?_map,List.getElem?_eq_getElem hlt];rfl
   have eval:VS.getD (i+1) 0=(sp[i]'hlt).2.2:=by
    rw[<- hVs];show(z8 c).getD i 0=_;unfold z8;rw[<- hkv,map_map,getD_eq_getElem?_getD,List.getElem?_map,List.getElem?_eq_getElem hlt];rfl
   generalize sp[i]'hlt=p at *;refine xQ hsp11.sl (by omega) (x:=spP p) (by rw[Int.toNat_natCast];exact eg) rfl ?_;intro pa hpa hca;refine qn (ls:=[.int .u64,.ptr]) (x:=((p.1:Int),some p.2.1,())) hca ?_;refine yh (vs:=[.int .u64 (p.1:Int),.pointer (some p.2.1)]) (by rfl) (by
    intro v hv
    simp only [mem_cons,not_mem_nil,or_false]at hv
    rcases hv with rfl|rfl<;>rfl) (fun r50 w12 hb50 he12 hr50=>?_) (by rfl)
   refine zN fun w13 he13 hz13 hh13=>?_;have he113:=he12.trans he13;have g13:=g11.ext' he113;have hb50:=hb50.ext he13;have hw:wrap .i64 ((i:Int)+1)=((i+1:Nat):Int):=by rw[wrap_i64 (by omega) (by omega)];rfl
   rw[hw];refine zJ ((A1,KS.length,c1):SLC) g13.b5 (by rfl) ?_;refine ya g13.ks.sl (by omega) (by dsimp only;omega) ?_;rw[Int.toNat_natCast,ekey];refine zJ ((p.1:Nat):Int) hb50 (by rfl) (zd (by simp) ?_);refine zN fun w14 he14 hz14 hh14=>?_;have he114:=he113.trans he14;have g14:=g11.ext' he114;refine zm 1 (some p.2.1) (hb50.ext he14) (by rfl) ?_;refine zJ ((A2,KS.length,c2):SLC) g14.b6 (by rfl) ?_;refine ya g14.vs.sl (by omega) (by dsimp only;omega) ?_;rw[Int.toNat_natCast,eval];refine zu ?_;refine zrh (hmx.ext he114) egs ?_;intro w15 hmx15 o15;have hG:∀ k,(orow x.1=some k\/orow y.1=some k)->w7.heap.size<=k/\k<w8.heap.size:=fun k hk=>by
    rcases hk with e|e
    ·exact rx.1 k e
    ·exact rx.2 k e
   refine⟨⟨i+1,by omega,rfl,hmx15,g14.only o15 (by omega) ⟨by omega,by omega⟩ (fun k hk=>?_),(hb11.ext he114).only o15 (fun e=>by have:=hG _ e;omega),(hsp11.ext he114).only o15 (fun j hj e=>by have:=hG _ e;have:=hsp11.row j hj;omega),?_⟩,by omega⟩
   ·have:=hG k hk;exact⟨by omega,fun e=>by have:=rA1 _ e;omega,fun e=>by have:=rA2 _ e;omega⟩
   ·have hz:w5.heap.size<w14.heap.size:=by have:=(Array.getElem?_eq_some_iff.1 (he114.heap hdf11)).1;omega
    rw[o15.2.2.2.2 _ hz (fun e=>by have:=hG _ e;omega)];exact he114.heap hdf11
  ·obtain rfl:i=sp.length:=by omega
   refine zd (decide_eq_false (by omega)) ?_;have hc:=zmc hmx (by rw[hspd];exact Nat.le_refl _);refine zS (ls:=yH) (yF x y) hb11 (by rfl) ?_;refine refill (vs:=zF x y) g11.b1 (by rfl) (yw _ _) (by rfl) ?_;intro w12 hb12 hx12 hk12 hz12;have he12:=hx12 w g11.ext (by omega);have heo:=g11.ext;refine jn (by rw[hk12 _ (by omega)];exact hdf11) ?_;have hsb:=yb (a:=w5.heap.size) (b:=w5.heap.size+1) (w:=w12) (o:=.deferred none) (.inl rfl);refine zS (ls:=yH) (yF x y) (hsb.blk hb12 (by omega)) (by rfl) ?_;have o1:Only (fun k=>k=r1) w11 w12:=⟨he12.os.trans heo.os.symm,he12.tape.trans heo.tape.symm,he12.output.trans heo.output.symm,Nat.le_of_eq hz12.symm,fun k _ hk=>hk12 k hk⟩;have o2:Only (fun k=>k=w5.heap.size) w12 (yP w12 w5.heap.size (.deferred none)):=Only.yP rfl;refine⟨⟨x,y,rfl,((hc.only o1 (fun k hk=>by omega)).only o2 (fun k hk=>by omega)).lower (by have:=he04.size;omega)⟩,hsb.ext he12 (by omega)⟩
end V
/- Contracts of the package catalog:Find,Copy. -/
namespace V
open Go Go.Proofs Go.RowKit Crc
variable {w w':World}
theorem Owni.neB {α:Type} {E:Enc α} {w:World} {e t:TypeId} {B n c r:Nat} {A:Option Addr} {xs:List α} {cs:List Value} (h:Owni E e w B A n c xs) (hb:Blk w r cs t) (he:e≠t):∀ j,orow A=some j->j≠r:=by
 intro j hj hr;subst hr;rcases h.2 with ⟨hv,_⟩|⟨g,cap,cur,hv,_,hg,_⟩
 ·injection hv with hv;subst hv;cases hj
 ·injection hv with hv
  subst hv;have e1:g=j:=Option.some.inj hj;subst e1;have hb':w.heap[g]?=some _:=hb;rw[hg]at hb';injection hb' with hb'
  injection hb' with _ e2 _
  exact he e2
theorem zmd:qm prog 38 95 (.agg #[.string ByteArray.empty,.int .i64 0,.bool false]) qe.k 32:=⟨by kernel_rfl,by kernel_rfl,by kernel_rfl⟩
theorem zdn {x:SLC} {xs:List Raw} (h:Sli yv w x.1 x.2.1 xs) (hn:x.2.1<=1000000):
  Calls prog 78 #[.slice x.1 x.2.1 x.2.2] w (Ret fun v w'=>∃ A c,v=.slice A x.2.1 c/\Owni yv 42 w' w.heap.size A x.2.1 c xs/\Ext w w'):=by
 apply zpW;unfold S78;exact zfK (K:=fun v w'=>∃ A c,v=.slice A x.2.1 c/\Owni yv 42 w' w.heap.size A x.2.1 c xs/\Ext w w') zeB h (by omega) (by omega) fun A' c' w' ho he=>⟨A',c',rfl,ho,he⟩
theorem zau {x:SLC} {xs:List Snp} (h:Sli zI w x.1 x.2.1 xs) (hn:x.2.1<=1000000):
  Calls prog 79 #[.slice x.1 x.2.1 x.2.2] w (Ret fun v w'=>∃ A c,v=.slice A x.2.1 c/\Owni zI 64 w' w.heap.size A x.2.1 c xs/\Ext w w'):=by
 apply zpX;unfold S79;exact zfK (K:=fun v w'=>∃ A c,v=.slice A x.2.1 c/\Owni zI 64 w' w.heap.size A x.2.1 c xs/\Ext w w') je h (by omega) (by omega) fun A' c' w' ho he=>⟨A',c',rfl,ho,he⟩
theorem ziw {x:SLC} {xs:List Col} (h:Sli qe w x.1 x.2.1 xs) (hn:x.2.1<=1000000):
  Calls prog 80 #[.slice x.1 x.2.1 x.2.2] w (Ret fun v w'=>∃ A c,v=.slice A x.2.1 c/\Owni qe 95 w' w.heap.size A x.2.1 c xs/\Ext w w'):=by
 apply zpY;unfold S80;exact zfK (K:=fun v w'=>∃ A c,v=.slice A x.2.1 c/\Owni qe 95 w' w.heap.size A x.2.1 c xs/\Ext w w') zmd h (by omega) (by omega) fun A' c' w' ho he=>⟨A',c',rfl,ho,he⟩
def zaP (c:Cat):Prop:=c.1.length<=1000/\c.2.length<=1000/\∀ e∈c.1,e.2.1.length<=1000
structure zf2 (w0 w:World) (r2 r7:Nat) (X Y:SLC) (raws:List Raw) (c:Cat) (i:Nat) (raws':List Raw):Prop where
 ext:Ext w0 w
 b2:Blk w r2 (zF (none,0,0) (none,0,0)) 30
 b7:Blk w r7 (zF X Y) 30
 row:Owni yv 42 w w0.heap.size X.1 X.2.1 X.2.2 raws'
 len:raws'.length=raws.length
 done:∀ j,j<i->xM w w0.heap.size (raws'.getD j yM) (c.1.getD j zQ)
 left:∀ j,i<=j->raws'.getD j yM=raws.getD j yM
 snps:Owni zI 64 w w0.heap.size Y.1 Y.2.1 Y.2.2 c.2
theorem zf2.ext' {w0:World} {r2 r7 i:Nat} {X Y:SLC} {raws raws':List Raw} {c:Cat} (h:zf2 w0 w r2 r7 X Y raws c i raws') (he:Ext w w'):zf2 w0 w' r2 r7 X Y raws c i raws':=
 ⟨h.ext.trans he,h.b2.ext he,h.b7.ext he,h.row.ext he,h.len,fun j hj=>(h.done j hj).ext he,h.left,h.snps.ext he⟩
theorem zdo {w0:World} {r2 r7:Nat} {x X Y:SLC} {raws:List Raw} {c:Cat} {K:Value->WP} (hT:zbx w0 x raws c.1) (hX:X.2.1=raws.length) (hlt:zaP c) (h2:w0.heap.size<=r2) (h7:w0.heap.size<=r7) (h27:r2≠r7) (h:zf2 w0 w r2 r7 X Y raws c 0 raws)
  (hK:∀ w',yx w' w0.heap.size X Y c->Ext w0 w'->K (.agg (zF X Y).toArray) w'):
  (ldW .slc (aD r7) fun(u8:SLC)=>
   zG (Int×Unit) ((0:Int),()) fun(y10:Int×Unit) (I9:(Int×Unit)->WP)=>
   za (decide (y10.1<((u8.2.1:Nat):Int))) (zc (0<=y10.1/\y10.1<((u8.2.1:Nat):Int))<|
   zh u8.1 fun(p11:Addr)=>
   zl [.str,.slc,(.int .u32),(.int .u64),(.int .i64)] (p11.add (Int.toNat y10.1*5)) fun(u12:(ByteArray×SLC×Int×Int×Int×Unit))=>
   zi (.cells #[(.string ByteArray.empty),(.slice none 0 0),(.int .u32 (0:Int)),(.int .u64 (0:Int)),(.int .i64 (0:Int))] 42) fun(r13:Nat)=>
   zc ((#[(.string u12.1),(.slice u12.2.1.1 u12.2.1.2.1 u12.2.1.2.2),(.int .u32 u12.2.2.1),(.int .u64 u12.2.2.2.1),(.int .i64 u12.2.2.2.2.1)]:Array Value).size=5)<|
   zq (aD r13) [(.string u12.1),(.slice u12.2.1.1 u12.2.1.2.1 u12.2.1.2.2),(.int .u32 u12.2.2.1),(.int .u64 u12.2.2.2.1),(.int .i64 u12.2.2.2.2.1)]<|
   zB<|
   ldW .slc (aD r7) fun(u14:SLC)=>
   ldW .slc ((aD r13).add 1) fun(u15:SLC)=>
   ze prog 80 [(.slice u15.1 u15.2.1 u15.2.2)] (.one (.one .slc)) fun(u16:SLC)=>
   zt [[((aD r7),(.slice u14.1 u14.2.1 u14.2.2))]]<|
   zc (0<=y10.1/\y10.1<((u14.2.1:Nat):Int))<|
   zh u14.1 fun(p17:Addr)=>
   stW ((p17.add (Int.toNat y10.1*5)).add 1) (.slice u16.1 u16.2.1 u16.2.2)<|I9 ((wrap .i64 (y10.1+(1:Int))),()))<|
   zl [.slc,.slc] (aD r7) fun(u18:(SLC×SLC×Unit))=>
   zc ((#[(.slice u18.1.1 u18.1.2.1 u18.1.2.2),(.slice u18.2.1.1 u18.2.1.2.1 u18.2.1.2.2)]:Array Value).size=2)<|
   zq (aD r2) [(.slice u18.1.1 u18.1.2.1 u18.1.2.2),(.slice u18.2.1.1 u18.2.1.2.1 u18.2.1.2.2)]<|
   zl [.slc,.slc] (aD r2) fun(u19:(SLC×SLC×Unit))=>K (.agg #[(.slice u19.1.1 u19.1.2.1 u19.1.2.2),(.slice u19.2.1.1 u19.2.1.2.1 u19.2.1.2.2)])) w:=by
 have hl:=hT.len;obtain⟨hl1,hl2,hl3⟩:=hlt;refine zJ X h.b7 (by rfl) ?_;refine zy (fun q w'=>∃ (i:Nat) (raws':List Raw),i<=raws.length/\q=((i:Int),())/\zf2 w0 w' r2 r7 X Y raws c i raws') (fun q=>(raws.length-q.1).toNat) ⟨0,raws,by omega,rfl,h⟩ ?_;rintro _ w1 ⟨i,raws',hi,rfl,g⟩;dsimp only;have hl':=g.len
 by_cases hlt:i<raws.length
 ·refine zf (decide_eq_true (by omega)) ?_;have eg:raws'[i]?=some (raws'.getD i yM):=by rw[getD_eq_getElem?_getD,List.getElem?_eq_getElem (by omega)];rfl
  have eL:=g.left i (Nat.le_refl _);have hE:=(hT.at_ i (by omega)).ext g.ext;rw[<- eL]at hE;have hmem:c.1.getD i zQ∈c.1:=by rw[getD_eq_getElem?_getD,List.getElem?_eq_getElem (by omega)];exact getElem_mem _
  have hcl:=hl3 _ hmem;generalize hp:raws'.getD i yM=p at *;refine xQ g.row.sl (by omega) (x:=p) (by rw[Int.toNat_natCast];exact eg) rfl ?_;intro pa hpa hca;refine qn (ls:=zb6) (x:=zas p) hca ?_;refine yh (vs:=yv.f p) (by rfl) (yv.one _) (fun r13 w2 hb2 he2 hr2=>?_) (by rfl);refine zN fun w3 he3 hz3 hh3=>?_;have he13:=he2.trans he3;have g3:=g.ext' he13;have hb3:=hb2.ext he3;refine zJ X g3.b7 (by rfl) (zm 1 p.2.1 hb3 (by rfl) ?_);have hcs:=hE.cols.ext he13;have hcsl:=hcs.len;refine zb (ziw (x:=p.2.1) hcs (by omega)) ?_;rintro _ w4 ⟨A4,k4,rfl,ho4,he4⟩;refine⟨(A4,p.2.1.2.1,k4),rfl,?_⟩;have g4:=g3.ext' he4;refine xz (ym g4.b7 rfl) ?_;refine zH ⟨by omega,by omega⟩ ?_;obtain⟨a,hA⟩:∃ a,X.1=some a:=by
   obtain⟨a,ha,_⟩:=g4.row.sl.2.2 (by omega);exact⟨a,ha⟩
  refine⟨a,hA,?_⟩;have hadr:(a.add (Int.toNat (i:Int)*5)).add 1=((adr X.1).add (i*5)).add 1:=by rw[hA,Int.toNat_natCast];rfl
  have hw:wrap .i64 ((i:Int)+1)=((i+1:Nat):Int):=by rw[wrap_i64 (by omega) (by omega)];rfl
  show stW ((a.add (Int.toNat (i:Int)*5)).add 1) (.slice A4 p.2.1.2.1 k4) _ w4;rw[hadr,hw];refine Owni.stF (x':=(p.1,(A4,p.2.1.2.1,k4),p.2.2)) g4.row (k:=5) rfl eg (by omega) (by rfl) ?_;intro w5 ho5 o5;have hrow:=g4.row.row;have hsz:=g.ext.size;have hsz3:=he13.size;refine⟨⟨i+1,_,by omega,rfl,Only.ext g4.ext o5 (fun j hj=>hrow j hj),g4.b2.only o5 (fun e=>?_),g4.b7.only o5 (fun e=>?_),ho5,by rw[length_set];exact hl',fun j hj=>?_,fun j hj=>?_,g4.snps.only o5 (fun q hq e=>g4.snps.ne g4.row (by decide) q hq e)⟩,by omega⟩
  ·exact Owni.neB g4.row g4.b2 (by decide) _ e rfl
  ·exact Owni.neB g4.row g4.b7 (by decide) _ e rfl
  ·rw[ve (by omega)]
   by_cases e:i=j
   ·subst e;rw[if_pos rfl];exact⟨hE.name,hE.rest,(ho4.lower (by omega)).only o5 (fun q hq e=>ho4.ne g4.row (by decide) q hq e)⟩
   ·rw[if_neg e];have hd:=g4.done j (by omega);exact⟨hd.name,hd.rest,hd.cols.only o5 (fun q hq e=>hd.cols.ne g4.row (by decide) q hq e)⟩
  ·rw[ve (by omega),if_neg (by omega)];exact g4.left j (by omega)
 ·obtain rfl:i=raws.length:=by omega
  refine zd (decide_eq_false (by omega)) ?_;refine zS (ls:=yH) (yF X Y) g.b7 (by rfl) ?_;refine refill (vs:=zF X Y) g.b2 (by rfl) (yw _ _) (by rfl) ?_;intro w2 hb2 hx2 hk2 hz2;have he2:=hx2 w0 g.ext h2;refine zS (ls:=yH) (yF X Y) hb2 (by rfl) ?_;have o:Only (fun k=>k=r2) w1 w2:=⟨he2.os.trans g.ext.os.symm,he2.tape.trans g.ext.tape.symm,he2.output.trans g.ext.output.symm,Nat.le_of_eq hz2.symm,fun k _ hk=>hk2 k hk⟩;have nB:∀ {α:Type} {E:Enc α} {e:TypeId} {A:Option Addr} {n k:Nat} {xs:List α},e≠30->Owni E e w1 w0.heap.size A n k xs->Owni E e w2 w0.heap.size A n k xs:=fun hne ho=>ho.only o (fun j hj e=>Owni.neB ho g.b2 hne j hj e);refine hK w2 ⟨⟨raws',nB (by decide) g.row,by omega,fun j hj=>?_⟩,nB (by decide) g.snps⟩ he2;have hd:=g.done j (by omega);exact⟨hd.name,hd.rest,nB (by decide) hd.cols⟩
theorem zcA {x y:SLC} {c:Cat} (h:yK w x y c) (hlt:zaP c):
  Calls prog 37 #[.agg (zF x y).toArray] w (Ret fun v w'=>(∃ X Y,v=.agg (zF X Y).toArray/\yx w' w.heap.size X Y c)/\Ext w w'):=by
 obtain⟨⟨raws,hT⟩,hs,hcx,hcy⟩:=h;have hl:=hT.len;have hxl:=hT.sl.len;have hyl:=hs.len;obtain⟨hl1,hl2,hl3⟩:=id hlt;apply zpm;unfold S37;refine zp fun r1 w1 hb1 he1 hr1 hz1=>?_;have hb1:Blk w1 r1 (zF x y) 30:=hb1;refine zp fun r2 w2 hb2 he2 hr2 hz2=>?_;have hb2:Blk w2 r2 (zF (none,0,0) (none,0,0)) 30:=hb2;refine zN fun w3 he3 hz3 hh3=>?_;have hb13:=(hb1.ext he2).ext he3;have hb23:=hb2.ext he3;have he03:=(he1.trans he2).trans he3;have hs03:=he03.size;refine zJ x hb13 (by rfl) (zm 1 y hb13 (by rfl) ?_);have fin:∀ {w6:World} {r7:Nat} {A1 A2:Option Addr} {k1 k2:Nat} {B1 B2:Nat},Ext w3 w6->Owni yv 42 w6 B1 A1 x.2.1 k1 raws->Owni zI 64 w6 B2 A2 y.2.1 k2 c.2->w.heap.size<=B1->w.heap.size<=B2->Blk w6 r7 (zF (A1,x.2.1,k1) (A2,y.2.1,k2)) 30->zf2 w w6 r2 r7 (A1,x.2.1,k1) (A2,y.2.1,k2) raws c 0 raws:=fun he ho1 ho2 hB1 hB2 hb=>
  ⟨he03.trans he,hb23.ext he,hb,ho1.lower hB1,rfl,fun j hj=>absurd hj (by omega),fun j _=>rfl,ho2.lower hB2⟩
 refine⟨?_,?_⟩
 ·refine zb (zdn (hT.sl.ext he03) (by omega)) ?_;rintro _ w4 ⟨A1,k1,rfl,ho1,he4⟩;refine⟨(A1,x.2.1,k1),rfl,?_⟩;refine xz (xd (hb13.ext he4) rfl) ?_;refine⟨?_,?_⟩
  ·refine zb (zau (hs.ext (he03.trans he4)) (by omega)) ?_;rintro _ w5 ⟨A2,k2,rfl,ho2,he5⟩;refine⟨(A2,y.2.1,k2),rfl,?_⟩;refine zp fun r7 w6 hb7 he6 hr7 hz7=>?_;have he36:=(he4.trans he5).trans he6;have hz36:=he36.size;have:=he4.size;have:=he5.size;refine jG (xd (hb13.ext he36) rfl) (ym (hb13.ext he36) rfl) ?_;refine refill (vs:=zF (A1,x.2.1,k1) (A2,y.2.1,k2)) hb7 (by rfl) (yw _ _) (by rfl) ?_;intro w7 hb77 hx7 hk7 hz77;have he7:=hx7 w3 he36 (by omega);have e7:=hx7 w5 he6 (by omega);exact zdo (K:=fun v w'=>(∃ X Y,v=.agg (zF X Y).toArray/\yx w' w.heap.size X Y c)/\Ext w w') (X:=(A1,x.2.1,k1)) (Y:=(A2,y.2.1,k2)) hT hxl.symm hlt (by omega) (by omega) (by omega) (fin he7 ((ho1.ext he5).ext e7) (ho2.ext e7) (by omega) (by omega) hb77) (fun w' hc he=>⟨⟨_,_,rfl,hc⟩,he⟩)
  ·refine zp fun r7 w6 hb7 he6 hr7 hz7=>?_;have he36:=he4.trans he6;have:=he4.size;refine jG (xd (hb13.ext he36) rfl) (ym (hb13.ext he36) rfl) ?_;refine zb (zau (hs.ext (he03.trans he36)) (by omega)) ?_;rintro _ w5 ⟨A2,k2,rfl,ho2,he5⟩;refine⟨(A2,y.2.1,k2),rfl,?_⟩;have he35:=he36.trans he5;have:=he6.size;refine refill (vs:=zF (A1,x.2.1,k1) (A2,y.2.1,k2)) (hb7.ext he5) (by rfl) (yw _ _) (by rfl) ?_;intro w7 hb77 hx7 hk7 hz77;have he7:=hx7 w3 he35 (by omega);have e47:=hx7 w4 (he6.trans he5) (by omega);have o7:Only (fun k=>k=r7) w5 w7:=⟨he7.os.trans he35.os.symm,he7.tape.trans he35.tape.symm,he7.output.trans he35.output.symm,Nat.le_of_eq hz77.symm,fun k _ hk=>hk7 k hk⟩;exact zdo (K:=fun v w'=>(∃ X Y,v=.agg (zF X Y).toArray/\yx w' w.heap.size X Y c)/\Ext w w') (X:=(A1,x.2.1,k1)) (Y:=(A2,y.2.1,k2)) hT hxl.symm hlt (by omega) (by omega) (by omega) (fin he7 (ho1.ext e47) (ho2.only o7 (fun j hj e=>by have:=ho2.row j hj;have:j=r7:=e;omega)) (by omega) (by omega) hb77) (fun w' hc he=>⟨⟨_,_,rfl,hc⟩,he⟩)
 ·refine zp fun r7 w6 hb7 he6 hr7 hz7=>?_;refine jG (xd (hb13.ext he6) rfl) (ym (hb13.ext he6) rfl) ?_;refine zb (zdn (hT.sl.ext (he03.trans he6)) (by omega)) ?_;rintro _ w4 ⟨A1,k1,rfl,ho1,he4⟩;refine⟨(A1,x.2.1,k1),rfl,?_⟩;refine xz (xd ((hb13.ext he6).ext he4) rfl) ?_;have:=he6.size;have:=he4.size;refine zb (zau (hs.ext ((he03.trans he6).trans he4)) (by omega)) ?_;rintro _ w5 ⟨A2,k2,rfl,ho2,he5⟩;refine⟨(A2,y.2.1,k2),rfl,?_⟩;have he65:=he4.trans he5;have he35:=he6.trans he65;refine refill (vs:=zF (A1,x.2.1,k1) (A2,y.2.1,k2)) (hb7.ext he65) (by rfl) (yw _ _) (by rfl) ?_;intro w7 hb77 hx7 hk7 hz77;have he7:=hx7 w3 he35 (by omega);have o7:Only (fun k=>k=r7) w5 w7:=⟨he7.os.trans he35.os.symm,he7.tape.trans he35.tape.symm,he7.output.trans he35.output.symm,Nat.le_of_eq hz77.symm,fun k _ hk=>hk7 k hk⟩;have hlt7:=hb7.lt;exact zdo (K:=fun v w'=>(∃ X Y,v=.agg (zF X Y).toArray/\yx w' w.heap.size X Y c)/\Ext w w') (X:=(A1,x.2.1,k1)) (Y:=(A2,y.2.1,k2)) hT hxl.symm hlt (by omega) (by omega) (by omega) (fin he7 ((ho1.ext he5).only o7 (fun j hj e=>by have:=ho1.row j hj;have:j=r7:=e;omega)) (ho2.only o7 (fun j hj e=>by have:=ho2.row j hj;have:j=r7:=e;omega)) (by omega) (by omega) hb77) (fun w' hc he=>⟨⟨_,_,rfl,hc⟩,he⟩)
end V
/- slices.Insert,slices.Delete:rows of elements of several cells. -/
namespace V
open Go Go.Proofs Go.RowKit Crc
section
variable {P:Program} {t e:TypeId} {z:Value} {k bytes:Nat}
theorem zjh {w:World} {b o n c m d:Nat} {ty t2:TypeId} {a:Addr} {cs ys:List Value} {K:SLC->WP} (hE:qm P t e z k bytes) (hb:Blk w b cs t2) (ho:o+c*k<=cs.length) (hn:n+m<=c)
  (hyl:ys.length=m*k) (hx:∀ j u,ys[j]?=some u->w.cell? (a.add j)=some u) (hys:∀ y∈ys,y.oneCell'=true)
  (hK:∀ w',Blk w' b (cs.take (o+n*k)++ys++cs.drop (o+n*k+m*k)) t2->w.grownBy w' (some b)->K (some ⟨b,o,none⟩,n+m,c) w'):
  zv P (Builtin.append_ #[t,t] ty #[.slice (some ⟨b,o,none⟩) n c,.slice (some a) m d]) .slc K w:=by
 obtain⟨ht,hi,hz⟩:=hE;obtain⟨i,hi,hii⟩:=Option.map_eq_some_iff.1 hi;simp only [Prod.mk.injEq]at hii;obtain⟨hz0,hz1,hz2⟩:=hii;have hmul:=Nat.mul_le_mul_right k hn;rw[Nat.add_mul]at hmul;obtain⟨hst,hbl,hg⟩:=uQ hb (o:=o+n*k) (vs:=ys) (by omega) hys;rw[hyl]at hbl;have hload:=run_loadCells_list (P:=P) w a ys hx;have hstore:=qz (P:=P) hst;refine⟨(some ⟨b,o,none⟩,n+m,c),_,?_,hK _ hbl hg⟩;rw[hyl]at hload;simp[Builtin.append_,run_underlying ht,sizeOf,typeInfo,hi,hz1,Builtin.lenOf,Builtin.firstCells,hn,hload,zx,hstore];rfl
theorem zg5 {w:World} {b o n c m d:Nat} {ty u t2:TypeId} {a:Addr} {cs ys:List Value} {K:Int->WP} (hE:qm P t e z k bytes) (hb:Blk w b cs t2) (ho:o+min m n*k<=cs.length)
  (hyl:ys.length=min m n*k) (hx:∀ j u,ys[j]?=some u->w.cell? (a.add j)=some u) (hys:∀ y∈ys,y.oneCell'=true)
  (hK:∀ x w',Blk w' b (cs.take o++ys++cs.drop (o+min m n*k)) t2->w.grownBy w' (some b)->K x w'):
  zv P (Builtin.copy_ #[t,u] ty #[.slice (some ⟨b,o,none⟩) n c,.slice (some a) m d]) (.int .i64) K w:=by
 obtain⟨ht,hi,hz⟩:=hE;obtain⟨i,hi,hii⟩:=Option.map_eq_some_iff.1 hi;simp only [Prod.mk.injEq]at hii;obtain⟨hz0,hz1,hz2⟩:=hii;obtain⟨hst,hbl,hg⟩:=uQ hb (o:=o) (vs:=ys) (by omega) hys;rw[hyl]at hbl;have hload:=run_loadCells_list (P:=P) w a ys hx;have hstore:=qz (P:=P) hst;refine⟨((min m n:Nat):Int),_,?_,hK _ _ hbl hg⟩;rw[hyl]at hload;simp only [Nat.min_def]at hload;simp[Builtin.copy_,run_underlying ht,sizeOf,typeInfo,hi,hz1,Builtin.lenOf,Builtin.firstCells,hload,hstore,goInt,Nat.min_def,Lf.val]
theorem zri {w:World} {b o n c:Nat} {ty t2:TypeId} {cs:List Value} {K:Value->WP} (hE:qm P t e z k bytes) (hb:Blk w b cs t2) (ho:o+n*k<=cs.length) (hys:∀ y∈(Builtin.zeroCells z.cells n).toList,y.oneCell'=true)
  (hK:∀ v w' zs,zs.length=n*k->Blk w' b (cs.take o++zs++cs.drop (o+n*k)) t2->w.grownBy w' (some b)->K v w'):
  zv P (Builtin.clear_ #[t] ty #[.slice (some ⟨b,o,none⟩) n c]) .any K w:=by
 obtain⟨ht,hi,hz⟩:=hE;obtain⟨i,hi,hii⟩:=Option.map_eq_some_iff.1 hi;simp only [Prod.mk.injEq]at hii;obtain⟨hz0,hz1,hz2⟩:=hii;cases n with
 |zero=>
  refine⟨.tuple #[],w,?_,hK _ w [] (by simp) (by simpa using hb) (xx _ _)⟩;simp[Builtin.clear_,run_underlying ht,Lf.val]
 |succ n=>
  have hl:((Builtin.zeroCells z.cells (n+1)).toList).length=(n+1)*k:=by simp[Builtin.zeroCells,hz]
  obtain⟨hst,hbl,hg⟩:=uQ hb (o:=o) (vs:=(Builtin.zeroCells z.cells (n+1)).toList) (by omega) hys;have hstore:=qz (P:=P) hst;rw[hl]at hbl;refine⟨.tuple #[],_,?_,hK _ _ _ hl hbl hg⟩;simp[Builtin.clear_,run_underlying ht,zeroValue,typeInfo,hi,hz0,hstore,Lf.val]
end
section
variable {α:Type} {E:Enc α} {e:TypeId} {w w':World} {B g n c:Nat} {xs:List α}
theorem zix (h:Owni E e w B (some ⟨g,0,none⟩) n c xs):∃ cs,Blk w g cs e/\cs.length=c*E.k/\cs.take (n*E.k)=E.flat xs/\B<=g:=by
 rcases h.2 with ⟨hv,_⟩|⟨g',cap,cur,hv,hb,hh,h1,h2,h3,h4⟩
 ·cases hv
 ·injection hv with hv1 hv2 hv3
  injection hv1 with hv1
  injection hv1 with hv1
  subst hv1 hv3;exact⟨cur.toList,by show w.heap[g]?=_;rw[hh],by rw[Array.length_toList];exact h3,h4,hb⟩
theorem zf3 {cs:List Value} (h:Blk w g cs e) (hl:cs.length=c*E.k) (hx:cs.take (n*E.k)=E.flat xs) (hn:xs.length=n) (hnc:n<=c) (hc:c<=9223372036854775807) (hB:B<=g):Owni E e w B (some ⟨g,0,none⟩) n c xs:=by
 refine⟨by rw[E.yB,hn],.inr ⟨g,c,cs.toArray,rfl,hB,h,hnc,by simpa [maxLen] using hc,by simpa using hl,by simpa using hx⟩⟩
theorem Owni.addr {A:Option Addr} (h:Owni E e w B A n c xs) (hn:0<n):∃ g,A=some ⟨g,0,none⟩:=by
 rcases h.2 with ⟨hv,h2⟩|⟨g,cap,cur,hv,_⟩
 ·omega
 ·injection hv with hv
  exact⟨g,hv⟩
end
variable {w w':World}
theorem zop (n:Nat):∀ y∈(Builtin.zeroCells (Value.agg #[.string ByteArray.empty,.int .u32 0]).cells n).toList,y.oneCell'=true:=by
 intro y hy;simp only [Builtin.zeroCells,Array.toList_map,mem_map]at hy;obtain⟨i,_,rfl⟩:=hy;have:i % 2=0\/i % 2=1:=by omega
 show((#[Value.string ByteArray.empty,Value.int .u32 0]:Array Value)[i % 2]!).oneCell'=true;rcases this with h|h<;>rw[h]<;>rfl
theorem zeI {b o i c z:Nat}:∃ off,zk (some ⟨b,o,none⟩) i c z=some ⟨b,off,none⟩/\(i≠c->off=o+i*z):=by
 unfold zk;split
 ·rename_i hh;exact⟨o,rfl,fun h=>absurd hh.symm h⟩
 ·exact⟨o+i*z,by simp[zx],fun _=>rfl⟩
theorem ziy {α:Type} {l:List α} {i:Nat}:l.eraseIdx i=l.take i++l.drop (i+1):=List.eraseIdx_eq_take_drop_succ l i
theorem zgS {A:Option Addr} {n c i:Nat} {B0:Nat} {xs:List Snp} (h:Owni zI 64 w B0 A n c xs) (hi:i<n) (hn:n<=1000000):
  Calls prog 46 #[.slice A n c,.int .i64 (i:Int),.int .i64 ((i+1:Nat):Int)] w (Ret fun v w'=>v=.slice A (n-1) c/\Owni zI 64 w' B0 A (n-1) c (xs.eraseIdx i)/\Only (fun k=>orow A=some k) w w'):=by
 obtain⟨g,rfl⟩:=h.addr (by omega);have hl:=h.len;have hle:=h.le;obtain⟨cs,hb,hcl,hct,hB⟩:=zix h;have hk2:zI.k=2:=rfl;rw[hk2]at hcl hct;apply zpt;unfold S46;refine zH ⟨by omega,by omega,by omega,by omega⟩ ?_;refine zd (beq_eq_false_iff_ne.2 (by omega)) ?_;refine zN fun w1 he1 hz1 hh1=>?_;have hb1:=hb.ext he1;refine zH ⟨by omega,by omega⟩ (zH ⟨by omega,by omega⟩ ?_);rw[Int.toNat_natCast,Int.toNat_natCast];have e0:zk (some (aD g)) 0 c 2=some ⟨g,0,none⟩:=by
  unfold zk;rw[if_neg (by omega)];simp[zx]
 rw[e0];obtain⟨off,ec,ho⟩:=zeI (b:=g) (o:=0) (i:=i+1) (c:=c) (z:=2);rw[ec];have hflat:=zI.yB xs;rw[hk2]at hflat;have hxd:zI.flat (xs.drop (i+1))=(zI.flat xs).drop ((i+1)*2):=by rw[<- hk2,zI.zaC]
 have hxt:zI.flat (xs.take i)=(zI.flat xs).take (i*2):=by rw[<- hk2,zI.zaD]
 have hyl:(zI.flat (xs.drop (i+1))).length=(n-(i+1))*2:=by rw[zI.yB,length_drop,hl];rfl
 refine zjh (k:=2) je hb1 (by omega) (by omega) hyl (fun j u hj=>?_) (zI.vL _) ?_
 ·have hjl:=(List.getElem?_eq_some_iff.1 hj).1;rw[hyl]at hjl;rw[ho (by omega),zx,hb1.cell];rw[hxd,List.getElem?_drop,<- hct,List.getElem?_take,if_pos (by omega)]at hj;rw[show 0+(i+1)*2+j=(i+1)*2+j by omega];exact hj
 ·intro w2 hb2 hg2;have en:i+(n-(i+1))=n-1:=by omega
  rw[en];dsimp only;refine zH ⟨by omega,by omega,by omega⟩ ?_;rw[Int.toNat_natCast,Int.toNat_natCast];have ec2:zk (some (aD g)) (n-1) c 2=some ⟨g,(n-1)*2,none⟩:=by
   unfold zk;rw[if_neg (by omega)];simp[zx]
  rw[ec2,show n-(n-1)=1 by omega];have hl2:(cs.take (0+i*2)++zI.flat (xs.drop (i+1))++cs.drop (0+i*2+(n-(i+1))*2)).length=c*2:=by
   rw[length_append,length_append,length_take,length_drop,hyl];omega
  refine zri (k:=2) je hb2 (by rw[hl2];omega) (zop 1) ?_;intro v w3 zs hzl hb3 hg3;have hfl:(cs.take (0+i*2)++zI.flat (xs.drop (i+1))++cs.drop (0+i*2+(n-(i+1))*2)).take ((n-1)*2)=zI.flat (xs.eraseIdx i):=by
   rw[take_left' (by rw[length_append,length_take,hyl];omega),ziy,zI.kA,hxt,<- hct,List.take_take];congr 2;omega
  have hg12:w1.grownBy w3 (some g):=xb hg2 hg3 (fun j hj=>.inl hj);refine⟨rfl,zf3 hb3 ?_ ?_ ?_ (by omega) (by omega) hB,Only.trans (Only.zz he1) (Only.zV (F:=fun k=>orow (some (aD g))=some k) hg12 (fun j hj=>.inl hj)) (fun j hj=>.inl hj)⟩
  ·rw[length_append,length_append,length_take,length_drop,hl2,hzl,hk2];omega
  ·rw[hk2,append_assoc,List.take_append_of_le_length (by rw[length_take,hl2];omega),List.take_take,Nat.min_self,hfl]
  ·rw[ziy,length_append,length_take,length_drop,hl];omega
theorem ziz {P:Program} {t tn e:TypeId} {z:Value} {k bytes:Nat} {kn:IntKind} {w:World} {g n c q:Nat} {ty t2:TypeId} {cs:List Value} {K:SLC->WP} (hE:qm P t e z k bytes) (hu:P.underlying tn=some (.int kn)) (hk:0<k) (hb:Blk w g cs t2) (ho:n*k<=cs.length) (hq0:0<q) (hq:c<n+q)
  (hlen:(n+q)*bytes<=140737488355328) (hlen2:n+q<=140737488355328)
  (hK:∀ r w' c' zs,w.heap.size=r->zs.length+n*k=c'*k->n+q<=c'->c'<=9223372036854775807->Blk w' r (cs.take (n*k)++zs) e->Ext w w'->w'.heap.size=r+1->K (some ⟨r,0,none⟩,n+q,c') w'):
  zv P (Builtin.append_ #[t,tn] ty #[.slice (some ⟨g,0,none⟩) n c,.int .i64 (q:Int)]) .slc K w:=by
 obtain⟨ht,hi,hz⟩:=hE;obtain⟨i,hi,hii⟩:=Option.map_eq_some_iff.1 hi;simp only [Prod.mk.injEq]at hii;obtain⟨hz0,hz1,hz2⟩:=hii;have hb':Blk w.drew g cs t2:=hb;have hold:(Builtin.firstCells i.size n (.slice (some ⟨g,0,none⟩) n c)).run P w.drew=.ok (cs.take (n*k)).toArray w.drew:=by
  have hload:=run_loadCells_list (P:=P) w.drew ⟨g,0,none⟩ (cs.take (n*k)) (fun j v hj=>by
   rw[zx,hb'.cell,Nat.zero_add]
   rw[List.getElem?_take]at hj
   split at hj
   ·exact hj
   ·cases hj)
  rw[length_take,Nat.min_eq_left ho]at hload;simp[Builtin.firstCells,hz1,hload]
 have hqb:q*i.bytes<=281474976710656:=by
  have:=Nat.mul_le_mul_right bytes (show q<=n+q by omega);rw[hz2];omega
 have hr:=Go.Lib.run_append_grow_zeros (P:=P) w t tn ty e i z .i64 kn ht hu hi hz0 (some ⟨g,0,none⟩) n c (cs.take (n*k)) hold q hq0 (by omega) hq (by omega) hqb (growslice_fits hq (by rw[hz2];exact hlen));have hge:=grownCap_ge w (n+q) c e;have hcm2:=grownCap_le_maxLen w (n+q) c e (by simp only [maxLen];omega);have hmul:grownCap w (n+q) c e*k=(n+q)*k+(grownCap w (n+q) c e-(n+q))*k:=by rw[<- Nat.add_mul];congr 1;omega
 refine⟨(some ⟨w.heap.size,0,none⟩,n+q,grownCap w (n+q) c e),_,hr,hK w.heap.size _ _ ((Builtin.zeroCells z.cells q).toList++(Builtin.zeroCells z.cells (grownCap w (n+q) c e-(n+q))).toList) rfl ?_ hge hcm2 ?_ ((Ext.refl w).drew.alloc _) (by simp)⟩
 ·rw[length_append,Array.length_toList,Array.length_toList,size_zeroCells,size_zeroCells,hz,hmul,Nat.add_mul];omega
 ·show(w.drew.alloc _).heap[w.heap.size]?=_;rw[show w.heap.size=w.drew.heap.size from rfl,heap_alloc_new];congr 2;apply Array.toList_inj.1;simp
theorem zgD {w:World} {b:Nat} {cs:List Value} {t:TypeId} (h:Blk w b cs t):w.shape? b=some (t,cs.length):=by
 unfold World.shape?;have:w.heap[b]?=some (.cells cs.toArray t (0,0)):=h;rw[this];simp
theorem ziA {w:World} {r g o1 n c1 c2:Nat} {vs cs:List Value} {t1 t2:TypeId} (hr:Blk w r vs t1) (hg:Blk w g cs t2) (hne:r≠g) (hcs:cs.length≠0):
  (zfu 81 #[.slice (some ⟨r,0,none⟩) 1 c1,.slice (some ⟨g,o1,none⟩) n c2]).run prog w=.ok (.bool false) w:=by
 unfold zfu;rw[Sem.run_bind];rw[run_callFunc_extern (fn:=Tryz.f81) (by kernel_rfl) (by kernel_rfl) (by kernel_rfl) (by kernel_rfl) (e:=Extern.SlicesOverlaps.overlaps #[28,28] #[4]) (by kernel_rfl),
  Lib.run_overlaps_apart w 28 4 64 (by kernel_rfl) 2 (fun w=>uX (t:=64) (n:=2) (by kernel_rfl) w) ⟨r,0,none⟩ ⟨g,o1,none⟩ 1 c1 n c2 hne t1 t2 vs.length cs.length (zgD hr) (zgD hg) hcs (hr.frozen _) (hr.frozen _)]
 rfl
theorem kP {α:Type} {x:α}:∀ {l:List α} {i:Nat},i<=l.length->l.insertIdx i x=l.take i++[x]++l.drop i
 |l,0,_=>by simp
 |[],i+1,h=>by simp at h
 |a::l,i+1,h=>by
  rw[List.insertIdx_succ_cons,kP (l:=l) (i:=i) (by simpa using h)];simp
theorem zgT {A:Option Addr} {n c i r rc:Nat} {B0:Nat} {xs:List Snp} {x:Snp} (h:Owni zI 64 w B0 A n c xs) (hB:B0<=w.heap.size) (hi:i<=n) (hn:n<=1000000) (hr:Blk w r (zI.f x) 64) (hrA:orow A≠some r):
  Calls prog 38 #[.slice A n c,.int .i64 (i:Int),.slice (some ⟨r,0,none⟩) 1 rc] w (Ret fun v w'=>∃ A' c',v=.slice A' (n+1) c'/\Owni zI 64 w' B0 A' (n+1) c' (xs.insertIdx i x)/\Only (fun k=>orow A=some k) w w'):=by
 have hl:=h.len;have hle:=h.le;have hk2:zI.k=2:=rfl;have hflat:=zI.yB xs;rw[hk2]at hflat;have hfx:(zI.f x).length=2:=zI.len x;apply zpn;unfold S38;refine zH ⟨by omega,by omega⟩ (zd (by rfl) ?_);refine zg (fun hq=>?_) (fun hq=>?_)
 ·-- at the end
  have hin:i=n:=by have:=beq_iff_eq.1 hq;omega
  subst hin;refine xp je h hB (Sli.xw (E:=zI) (xs:=[x]) (by simpa [Enc.flat] using hr) rfl (by omega)) (by omega) (by omega) ?_;intro A' c' w' ho hg _;refine⟨A',c',rfl,?_,Only.zV hg.grown (fun j hj=>.inl hj)⟩;rw[kP (by omega),take_of_length_le (by omega),List.drop_eq_nil_of_le (by omega),append_nil];exact ho
 have hin:i<n:=by have:=beq_eq_false_iff_ne.1 hq;omega
 obtain⟨g,rfl⟩:=h.addr (by omega);obtain⟨cs,hb,hcl,hct,hBg⟩:=zix h;rw[hk2]at hcl hct;have hrg:r≠g:=fun e=>hrA (by rw[e];rfl);have hwn:wrap .i64 (((n:Nat):Int)+((1:Nat):Int))=((n+1:Nat):Int):=by rw[wrap_i64 (by omega) (by omega)];omega
 have hwi:wrap .i64 ((i:Int)+((1:Nat):Int))=((i+1:Nat):Int):=by rw[wrap_i64 (by omega) (by omega)];omega
 have e0:zk (some (aD g)) 0 c 2=some ⟨g,0,none⟩:=by
  unfold zk;split<;>simp[zx]
 have hxd:zI.flat (xs.drop i)=(zI.flat xs).drop (i*2):=by rw[<- hk2,zI.zaC]
 have hxt:zI.flat (xs.take i)=(zI.flat xs).take (i*2):=by rw[<- hk2,zI.zaD]
 have hdl:(zI.flat (xs.drop i)).length=(n-i)*2:=by rw[zI.yB,length_drop,hl];rfl
 have htl:(zI.flat (xs.take i)).length=i*2:=by rw[zI.yB,length_take,Nat.min_eq_left (by omega)];rfl
 have hins:zI.flat (xs.insertIdx i x)=zI.flat (xs.take i)++zI.f x++zI.flat (xs.drop i):=by
  rw[kP (by omega),zI.kA,zI.kA];simp[Enc.flat]
 have hinsl:(xs.insertIdx i x).length=n+1:=by rw[kP (by omega),length_append,length_append,length_take,length_drop];simp;omega
 rw[hwn,hwi];simp only [Int.toNat_natCast];rw[e0];have srcD:∀ {w1:World} {cs1:List Value} {t1:TypeId},Blk w1 g cs1 t1->cs1.take (n*2)=zI.flat xs->∀ j u,(zI.flat (xs.drop i))[j]?=some u->w1.cell? ((⟨g,i*2,none⟩:Addr).add j)=some u:=by
  intro w1 cs1 t1 hb1 ht1 j u hj;have hjl:=(List.getElem?_eq_some_iff.1 hj).1;rw[hdl]at hjl;rw[zx,hb1.cell];rw[hxd,List.getElem?_drop,<- ht1,List.getElem?_take,if_pos (by omega)]at hj;exact hj
 have srcX:∀ {w1:World},Blk w1 r (zI.f x) 64->∀ j u,(zI.f x)[j]?=some u->w1.cell? ((aD r).add j)=some u:=by
  intro w1 hb1 j u hj;rw[zx,hb1.cell,Nat.zero_add];exact hj
 have ci:zk (some (aD g)) i c 2=some ⟨g,i*2,none⟩:=by
  unfold zk;rw[if_neg (by omega)];simp[zx]
 rw[ci];refine zg (fun hgr=>?_) (fun hgr=>?_)
 ·-- no room
  have hgr:=of_decide_eq_true hgr;have hcn:c=n:=by omega
  refine zH ⟨by omega,by omega⟩ ?_;have hq1:wrap .i64 (((n+1:Nat):Int)-(i:Int))=((n+1-i:Nat):Int):=by rw[wrap_i64 (by omega) (by omega)];omega
  rw[hq1];refine ziz (k:=2) je (kn:=.i64) (by kernel_rfl) (by omega) hb (by omega) (by omega) (by omega) (by omega) (by omega) ?_;intro s w1 c1 zs hs1 hzl hc1 hc2 hb1 he1 hz1;have en:i+(n+1-i)=n+1:=by omega
  rw[en]at hc1 ⊢;dsimp only;refine zH ⟨by omega,by omega⟩ ?_;have ci1:zk (some (aD s)) i c1 2=some ⟨s,i*2,none⟩:=by
   unfold zk;rw[if_neg (by omega)];simp[zx]
  rw[ci1];have hr1:=hr.ext he1;have hbl1:(cs.take (i*2)++zs).length=c1*2:=by rw[length_append,length_take];omega
  have hm1:min 1 (n+1-i)=1:=by omega
  refine zg5 (k:=2) je hb1 (by rw[hm1,hbl1];omega) (by rw[hm1,hfx]) (srcX hr1) (zI.one x) ?_;intro _ w2 hb2 hg2;rw[hm1]at hb2;refine zN fun w3 he3 hz3 hh3=>?_;have hb3:=hb2.ext he3;refine zH ⟨by omega,by omega⟩ (zH ⟨by omega,by omega⟩ ?_);obtain⟨off,ec,ho⟩:=zeI (b:=s) (o:=0) (i:=i+1) (c:=c1) (z:=2);rw[ec];have hoff:off=(i+1)*2:=by have:=ho (by omega);omega
  rw[hoff];have hgs:g≠s:=fun e=>by have:=hb.lt;omega
  have hbg3:Blk w3 g cs 64:=((hb.ext he1).grown hg2 (fun e=>hgs (by injection e))).ext he3;have hm2:min (n-i) (n+1-(i+1))=n-i:=by omega
  have hl3:((cs.take (i*2)++zs).take (i*2)++zI.f x++(cs.take (i*2)++zs).drop (i*2+1*2)).length=c1*2:=by
   rw[length_append,length_append,length_take,length_drop,hbl1,hfx];omega
  refine zg5 (k:=2) je hb3 (by rw[hm2,hl3];omega) (by rw[hm2,hdl]) (srcD hbg3 hct) (zI.vL _) ?_;intro _ w4 hb4 hg4;rw[hm2]at hb4;refine⟨_,c1,rfl,zf3 hb4 ?_ ?_ hinsl (by omega) (by omega) (by omega),?_⟩
  ·rw[length_append,length_append,length_take,length_drop,hl3,hdl,hk2];omega
  ·have e1:(cs.take (i*2)++zs).take (i*2)=zI.flat (xs.take i):=by
    rw[take_left' (by rw[length_take];omega),hxt,<- hct,List.take_take,Nat.min_eq_left (by omega)]
   have e2:((cs.take (i*2)++zs).take (i*2)++zI.f x++(cs.take (i*2)++zs).drop (i*2+1*2)).take ((i+1)*2)=zI.flat (xs.take i)++zI.f x:=by
    rw[e1];exact take_left' (by rw[length_append,htl,hfx];omega)
   rw[e2,hins,hk2];exact take_left' (by rw[length_append,length_append,htl,hfx,hdl];omega)
  ·refine Only.trans (Only.trans (Only.trans (Only.zz he1) (Only.zV (F:=fun k=>orow (some (aD g))=some k\/k=s) hg2 (fun j hj=>.inl (.inr (by injection hj with hj;exact hj.symm)))) (fun j hj=>?_)) (Only.zz (F:=fun k=>orow (some (aD g))=some k\/k=s) he3) (fun j hj=>?_)) (Only.zV (F:=fun k=>orow (some (aD g))=some k\/k=s) hg4 (fun j hj=>.inl (.inr (by injection hj with hj;exact hj.symm)))) (fun j hj=>?_)
   all_goals
    rcases hj with e|e
    ·exact .inl e
    ·exact .inr (by omega)
 ·-- there is room
  have hgr:=of_decide_eq_false hgr;have hroom:n+1<=c:=by omega
  refine zH ⟨by omega,by omega⟩ (zH ⟨by omega,by omega⟩ ?_);obtain⟨off,ec,ho⟩:=zeI (b:=g) (o:=0) (i:=i+1) (c:=c) (z:=2);have hoff:off=(i+1)*2:=by have:=ho (by omega);omega
  rw[hoff]at ec;rw[ec];refine⟨false,w,ziA hr hb hrg (by omega),?_⟩;refine zf (by rfl) ?_;refine zN fun w1 he1 hz1 hh1=>?_;have hb1:=hb.ext he1;have hr1:=hr.ext he1;refine zH ⟨by omega,by omega⟩ (zH ⟨by omega,by omega⟩ ?_);have hm2:min (n+1-i) (n+1-(i+1))=n-i:=by omega
  refine zg5 (k:=2) je hb1 (by rw[hm2];omega) (by rw[hm2,hdl]) (srcD hb1 hct) (zI.vL _) ?_;intro _ w2 hb2 hg2;rw[hm2]at hb2;have hr2:Blk w2 r (zI.f x) 64:=hr1.grown hg2 (fun e=>hrg (by injection e));refine zH ⟨by omega,by omega⟩ ?_;have hm1:min 1 (n+1-i)=1:=by omega
  have hl2:(cs.take ((i+1)*2)++zI.flat (xs.drop i)++cs.drop ((i+1)*2+(n-i)*2)).length=c*2:=by
   rw[length_append,length_append,length_take,length_drop,hdl];omega
  refine zg5 (k:=2) je hb2 (by rw[hm1,hl2];omega) (by rw[hm1,hfx]) (srcX hr2) (zI.one x) ?_;intro _ w3 hb3 hg3;rw[hm1]at hb3;refine⟨_,c,rfl,zf3 hb3 ?_ ?_ hinsl (by omega) (by omega) hBg,?_⟩
  ·rw[length_append,length_append,length_take,length_drop,hl2,hfx,hk2];omega
  ·have e1:(cs.take ((i+1)*2)++zI.flat (xs.drop i)++cs.drop ((i+1)*2+(n-i)*2)).take (i*2)=zI.flat (xs.take i):=by
    rw[append_assoc,List.take_append_of_le_length (by rw[length_take];omega),List.take_take,hxt,<- hct,List.take_take];congr 1;omega
   have e2:(cs.take ((i+1)*2)++zI.flat (xs.drop i)++cs.drop ((i+1)*2+(n-i)*2)).drop (i*2+1*2)=zI.flat (xs.drop i)++cs.drop ((i+1)*2+(n-i)*2):=by
    rw[append_assoc,drop_left' (by rw[length_take];omega)]
   rw[e1,e2,hins,hk2,<- append_assoc];exact take_left' (by rw[length_append,length_append,htl,hfx,hdl];omega)
  ·have hgg:w1.grownBy w3 (some g):=xb hg2 hg3 (fun j hj=>.inl hj);exact Only.trans (Only.zz he1) (Only.zV (F:=fun k=>orow (some (aD g))=some k) hgg (fun j hj=>.inl hj)) (fun j hj=>.inl hj)
end V
/- Spaces of which nothing is owned:plain. Leaves that are dropped. -/
namespace V
open Go Go.Proofs Go.RowKit Crc
theorem zch {U:Nat->Bool} (r:Nat->Nat):∀ N:Nat,(∃ n,n<N/\U n=true)->∃ n,n<N/\U n=true/\∀ m,m<N->U m=true->r m<=r n
 |0,⟨n,h,_⟩=>by omega
 |N+1,h=>by
  by_cases hN:∃ n,n<N/\U n=true
  ·obtain⟨n,h1,h2,h3⟩:=zch r N hN
   by_cases hu:U N=true
   ·by_cases hr:r N<=r n
    ·refine⟨n,by omega,h2,fun m hm hum=>?_⟩
     by_cases e:m=N
     ·subst e;exact hr
     ·exact h3 m (by omega) hum
    ·refine⟨N,by omega,hu,fun m hm hum=>?_⟩
     by_cases e:m=N
     ·subst e;exact Nat.le_refl _
     ·have:=h3 m (by omega) hum;omega
   ·refine⟨n,by omega,h2,fun m hm hum=>?_⟩
    by_cases e:m=N
    ·subst e;exact absurd hum hu
    ·exact h3 m (by omega) hum
  ·obtain⟨n,h1,h2⟩:=h;have e:n=N:=by
    by_cases e:n<N
    ·exact absurd ⟨n,e,h2⟩ hN
    ·omega
   subst e;refine⟨n,by omega,h2,fun m hm hum=>?_⟩
   by_cases e:m=n
   ·subst e;exact Nat.le_refl _
   ·exact absurd ⟨m,by omega,hum⟩ hN
theorem zme {N:Nat} {ps:List Nat} {pg:PgF} {c:List Nat} (h:yg N ps pg c []) (n:Nat):zE ps c n=false:=by
 cases hq:zE ps c n with
 |false=>rfl
 |true=>
  exfalso
  obtain⟨r,hr⟩:=h.rank;obtain⟨m,m1,m2,m3⟩:=zch (U:=zE ps c) r N ⟨n,h.lt hq,hq⟩;obtain⟨a1,a2,a3⟩:=zC.1 m2;have hs:=h.sum m a1 a2;rw[List.count_nil,Nat.zero_add]at hs;have:∃ k,k<N/\xr ps pg c m k≠0:=by
   apply Classical.byContradiction;intro hno;have:qo N ps pg c m=0:=by
    unfold qo;rw[qw (g:=fun _=>0) (fun k hk=>by
     apply Classical.byContradiction
     intro hk0
     exact hno ⟨k,hk,hk0⟩)]
    exact qx N
   omega
  obtain⟨k,hk,hk0⟩:=this;unfold xr at hk0;split at hk0
  ·rename_i huk;have hm:m∈zR pg k:=List.count_pos_iff.1 (by omega);have:=hr k huk m hm;have:=m3 k hk huk;omega
  ·exact hk0 rfl
theorem zgE {N:Nat} {ps:List Nat} {pg:PgF} {c:List Nat} (h:yg N ps pg c []) {n:Nat} (h2:2<=n) (hp:n∉ps):c.getD n 0=0:=by
 have:=zme h n;cases hq:c.getD n 0 with
 |zero=>rfl
 |succ k=>
  rw[zC.2 ⟨h2,hp,by omega⟩]at this;cases this
theorem zfr {S:Spa} (h:Great S [] [] none) (hm:S.mark=none):S.zY+S.sup.pages.length+2=S.N:=by
 have hP:=h.heldOK.zoG h.good;have hN:=h.good.dims.n;have hmem:∀ n,n∈S.yk↔2<=n/\n<S.N/\n∉S.sup.pages:=by
  intro n;rw[uj];constructor
  ·rintro⟨a1,a2,a3⟩;refine⟨a2,a1,fun e=>?_⟩;have:=(hP.at_ n e).2.2;have:=(zU.1 a3).1;omega
  ·rintro⟨a1,a2,a3⟩;refine⟨a2,a1,zU.2 ⟨zgE h.good.well a1 a3,zgE h.hwell a1 a3,by rw[hm];rfl⟩⟩
 have hnd:(0::1::(S.sup.pages++S.yk)).Nodup:=by
  rw[nodup_cons,nodup_cons,List.nodup_append];refine⟨?_,?_,hP.nodup,zn6 S,?_⟩
  ·simp only [mem_cons,mem_append,not_or];exact⟨by omega,fun e=>by have:=(hP.at_ 0 e).1;omega,fun e=>by have:=((hmem 0).1 e).1;omega⟩
  ·simp only [mem_append,not_or];exact⟨fun e=>by have:=(hP.at_ 1 e).1;omega,fun e=>by have:=((hmem 1).1 e).1;omega⟩
  ·intro a ha b hb e;subst e;exact((hmem a).1 hb).2.2 ha
 have h1:=zaI hnd (b:=List.range S.N) (fun x hx=>by
  rw[mem_range]
  simp only [mem_cons,mem_append]at hx
  rcases hx with e|e|e|e
  ·omega
  ·omega
  ·exact(hP.at_ x e).2.1
  ·exact((hmem x).1 e).2.1)
 have h2:=zaI (List.nodup_range (n:=S.N)) (b:=0::1::(S.sup.pages++S.yk)) (fun x hx=>by
  have hx:=mem_range.1 hx
  simp only [mem_cons,mem_append]
  by_cases e:x<2
  ·omega
  ·by_cases e2:x∈S.sup.pages
   ·exact .inr (.inr (.inl e2))
   ·exact .inr (.inr (.inr ((hmem x).2 ⟨by omega,hx,e2⟩))))
 rw[length_range]at h1 h2;simp only [length_cons,length_append]at h1 h2;unfold Spa.zY;omega
end V
/- The space that laws on catalogs begin with;what stays,whatever a space does. -/
namespace V
open Go Go.Proofs Go.RowKit Crc
def S0:Spa:=qB (zep 256 256)
theorem zf4:yd 256 256=true:=by decide
theorem zoJ:zP 256 256=3:=by decide
theorem zoq:chk (xn 256 256)=0:=by
 have h:=zqn (size:=256) (N:=256) zf4;rw[h,zoJ]
 decide
theorem zav:Great S0 [] [] none:=(zaq (zg3 zf4) zoq).2.1
theorem zrB:(yR (zep 256 256)).2=0:=(zaq (zg3 zf4) zoq).1
theorem ziB:S0.dev.pen=[]:=(zaq (zg3 zf4) zoq).2.2
theorem zmf:S0.sup=xn 256 256:=rfl
theorem zqI:S0.mark=none:=rfl
theorem zci:S0.sup.pages.length=3:=by rw[zmf];show(xO (zP 256 256)).length=3;rw[kE,zoJ]
theorem zg6:S0.r0=238:=by unfold Spa.r0 Spa.room;rw[zmf];decide
theorem zk1:qF 238=13804:=by decide
theorem zrM:S0.N=256:=rfl
theorem zbA:S0.zY=251:=by
 have:=zfr zav zqI;rw[zci,zrM]at this;omega
structure St (w0 w:World) (b db:Nat) (S:Spa) (F:Nat->Prop):Prop where
 sp:z6 w b db S F
 low:∀ k,F k->w0.heap.size<=k
 ext:Ext w0 w
def Safe (F:Nat->Prop) (w:World) (P:World->Prop):Prop:=∀ w',Only F w w'->P w'
variable {w0 w w':World} {b db:Nat} {S S':Spa} {F F':Nat->Prop} {P:World->Prop}
theorem Safe.now (h:Safe F w P):P w:=h w (Only.refl F w)
theorem Safe.ext (h:Safe F w P) (he:Ext w w'):Safe F w' P:=fun w'' o=>h w'' (Only.trans (Only.zz he) o (fun j hj=>.inl hj))
theorem Safe.step (h:Safe F w P) (o:Only F w w') (hF:∀ k,F' k->F k\/w.heap.size<=k):Safe F' w' P:=fun w'' o2=>h w'' (Only.trans o o2 hF)
theorem Safe.mono {Q:World->Prop} (h:Safe F w P) (hQ:∀ w,P w->Q w):Safe F w Q:=fun w' o=>hQ _ (h w' o)
theorem St.ext' (h:St w0 w b db S F) (he:Ext w w'):St w0 w' b db S F:=⟨h.sp.ext he,h.low,h.ext.trans he⟩
theorem St.step (h:St w0 w b db S F) (hst:yO w b db F S' w'):∃ F',St w0 w' b db S' F'/\∀ P:World->Prop,Safe F w P->Safe F' w' P:=by
 obtain⟨F',h1,h2,h3⟩:=hst;refine⟨F',⟨h1,fun k hk=>?_,Only.ext h.ext h3 h.low⟩,fun P hP=>hP.step h3 h2⟩;rcases h2 k hk with e|e
 ·exact h.low k e
 ·exact Nat.le_trans h.ext.size e
theorem St.pre {w1:World} (he:Ext w0 w1) (h:St w1 w b db S F):St w0 w b db S F:=⟨h.sp,fun k hk=>Nat.le_trans he.size (h.low k hk),he.trans h.ext⟩
theorem St.zc2 (h:St w0 w b db S F):At w0 w b db S:=⟨F,h.sp,h.low,h.ext⟩
theorem At.zrN (h:At w0 w b db S):∃ F,St w0 w b db S F:=by
 obtain⟨F,h1,h2,h3⟩:=h;exact⟨F,h1,h2,h3⟩
theorem zmg {w1:World} {db:Nat} (h:zhD w0 (zep 256 256) db w1):
  Calls prog 27 #[.pointer (some ⟨db,0,none⟩)] w1 (Ret fun v w'=>∃ b,v=.tuple #[.pointer (some ⟨b,0,none⟩),.int .i64 0]/\∃ F,St w0 w' b db S0 F):=by
 refine(zlS h (zg3 zf4) (by show([]:List (Int×ByteArray)).length<=_;simp)).mono (Ret.mono ?_);rintro _ w3 (⟨hne,_⟩|⟨_,b,rfl,hat⟩)
 ·exact absurd zrB hne
 ·exact⟨b,rfl,hat.zrN⟩
def strk:ByteArray:=ByteArray.mk #[107]
def strv:ByteArray:=ByteArray.mk #[118]
def pk:Col:=(strk,3,false)
def pv:Col:=(strv,1,true)
def kq:List Col:=[pk,pv]
theorem zeJ (w:World):Calls prog 29 #[] w (Ret fun v w'=>∃ r,v=.slice (some ⟨r,0,none⟩) 2 2/\Owni qe 95 w' w.heap.size (some ⟨r,0,none⟩) 2 2 kq/\Ext w w'):=by
 apply zpe;unfold S29;refine zp fun r w1 hb he hr hz=>⟨r,rfl,vZ (E:=qe) (xs:=kq) (by exact hb) rfl (by omega) (by omega),he⟩
theorem zqJ:xo kq=0:=by kernel_rfl
end V
end Go.Proofs.YtpagephahcnijaaGreat
