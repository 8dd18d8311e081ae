/- Texts of mine, merged (wip/tool/mergep.py): CatP, HM, HB, KRef02, KKit2, HD, Shelf, KRead, KDev, HR2, KDev2, KDev3, KDev4, KFrame2, KSup, Spa, KCounts, KCounts2, HW, KCounts3, KSuper1, KSuper2, KSuper3, KSuper4, KSpa, KCat1, DecCat, KSpa2, KSpa3, KSpa4, KSpa5, KSpa6, Graph. -/
import Derived.Test.YtplgodmmmppmeaaGreatM3
import Derived.Test.YtplgodmmmppmeaaGreatM1
import Derived.MapKept
import Derived.Shelf.Strings.Builder1
import Derived.Shelf.Strings.Builder2
import Derived.Shelf.Strings.OnBuilder
import Derived.Shelf.Strings.BuilderF
import Derived.Shelf.Strings.BuilderK
import Derived.Shelf.Strings.Builder2Cap
import Derived.Shelf.Strings.Prefix
import Derived.Shelf.Bits.Mul64
import Derived.Shelf.Strings.Repeat
import Derived.Shelf.Strings.BuilderCap
import Derived.Shelf.Slices.Equal
import Derived.Shelf.Slices.Empties2
import Derived.Ground.SlgnProg
import Derived.Shelf.SlicesE.Reverse
import Derived.Shelf.SlicesE.Clone
import Derived.Test.YtplgodmmmppmeaaGreatProg
open Go.IntKind (wrap)
open Go.Proofs.Tryz (prog)
open List (mem_cons_self mem_cons_of_mem mem_cons length_cons map_map mem_append mem_append_left drop_drop mem_range mem_of_getElem? getElem_mem mem_iff_getElem map_cons mem_map append_assoc nodup_cons foldl_cons length_nil append_nil length_map length_set eq_nil_of_length_eq_zero range_succ map_congr_left length_append drop_of_length_le take_of_length_le getD_eq_getElem?_getD drop_eq_getElem_cons mem_singleton not_mem_nil take_succ_eq_append_getElem all_eq_true flatMap_cons length_take length_drop take_add_one length_replicate take_left' drop_left' length_singleton map_append length_range getElem_range flatMap_append count_cons count_eq_zero)
set_option linter.unusedVariables false
set_option linter.unusedSimpArgs false
namespace Go.Proofs.YtplgodmmmppmeaaGreat
/- Catalogs:plain. -/
namespace V
open Go Go.Proofs Go.RowKit Crc
abbrev Ent:=ByteArray×List Col×Nat×Nat×Int
abbrev Snp:=ByteArray×Nat
abbrev Cat:=List Ent×List Snp
def uZ:Cat:=([],[])
def zd4 (s:ByteArray):Bool:=decide (yC (B s)=0)
def ltB (a b:List UInt8):Bool:=match a,b with
 |_,[]=>false
 |[],_::_=>true
 |x::a,y::b=>decide (x.toNat<y.toNat)||(decide (x=y)&&ltB a b)
def yL {α:Type} (f:α->ByteArray):List α->Bool
 |[]=>true
 |[_]=>true
 |x::y::r=>ltB (B (f x)) (B (f y))&&yL f (y::r)
def jr (e:Ent):Bool:=decide (xd e.2.1=0)&&(decide (0<=e.2.2.2.2/\e.2.2.2.2<=4096)&&(decide (e.2.2.1=0↔e.2.2.2.2=0)&&decide (e.2.2.2.1<1099511627776)))
def yA {α:Type} (f:α->ByteArray) (l:List α):Bool:=(l.all fun x=>zd4 (f x))&&yL f l
def qc (c:Cat):Bool:=decide (c.1.length<=16/\c.2.length<=16)&&(yA (fun e:Ent=>e.1) c.1&&(yA (fun s:Snp=>s.1) c.2&&c.1.all jr))
def vH (n:Nat):UInt8:=UInt8.ofNat (min n 1)
def nmB (s:ByteArray):List UInt8:=UInt8.ofNat s.size::B s
def jh (e:Ent):List UInt8:=nmB e.1++(xo e.2.1++(le 8 e.2.2.2.1++(le 4 e.2.2.2.2.toNat++[vH e.2.2.1])))
def jE (s:Snp):List UInt8:=nmB s.1++[vH s.2]
def qk (c:Cat):List UInt8:=UInt8.ofNat c.1.length::(c.1.flatMap jh++UInt8.ofNat c.2.length::c.2.flatMap jE)
def j9 (e:Ent):Ent:=(e.1,e.2.1,min e.2.2.1 1,e.2.2.2.1,e.2.2.2.2)
def kF (s:Snp):Snp:=(s.1,min s.2 1)
def ones (c:Cat):Cat:=(c.1.map j9,c.2.map kF)
def yj (n:Nat) (s:List UInt8):Option (List UInt8×List UInt8):=if s.length<n then none else some (s.take n,s.drop n)
def nmR (s:List UInt8):Option (ByteArray×List UInt8):=match yj 1 s with
 |none=>none
 |some (b,r)=>match yj (lev b) r with
  |none=>none
  |some (t,r')=>some (mkB t,r')
def jF (s:List UInt8):Option (Nat×List UInt8):=match yj 1 s with
 |none=>none
 |some (b,r)=>if lev b<=1 then some (lev b,r) else none
def kj (s:List UInt8):Option (Ent×List UInt8):=match nmR s with
 |none=>none
 |some (n,r1)=>match xU r1 with
  |none=>none
  |some (cs,r2)=>match yj 8 r2 with
   |none=>none
   |some (x,r3)=>match yj 4 r3 with
    |none=>none
    |some (y,r4)=>match jF r4 with
     |none=>none
     |some (o,r5)=>some ((n,cs,o,lev x,(lev y:Int)),r5)
def kK (s:List UInt8):Option (Snp×List UInt8):=match nmR s with
 |none=>none
 |some (n,r1)=>match jF r1 with
  |none=>none
  |some (o,r2)=>some ((n,o),r2)
def qK {α:Type} (f:List UInt8->Option (α×List UInt8)):Nat->List UInt8->Option (List α×List UInt8)
 |0,s=>some ([],s)
 |n+1,s=>match f s with
  |none=>none
  |some (x,r)=>match qK f n r with
   |none=>none
   |some (l,r')=>some (x::l,r')
def zfs (s:List UInt8):Option Cat:=match yj 1 s with
 |none=>none
 |some (b,r)=>match qK kj (lev b) r with
  |none=>none
  |some (ts,r2)=>match yj 1 r2 with
   |none=>none
   |some (b2,r3)=>match qK kK (lev b2) r3 with
    |none=>none
    |some (ss,r4)=>if r4=[] then some (ts,ss) else none
def kG (s:List UInt8):Cat×Int:=match zfs s with
 |none=>(uZ,240)
 |some c=>if qc c then (c,0) else (uZ,240)
def zcC (c:Cat):ByteArray×Int:=if qc c then (mkB (qk c),0) else (ByteArray.empty,240)
theorem kL {n:Nat} {a:List UInt8} (h:a.length=n) (t:List UInt8):yj n (a++t)=some (a,t):=by
 unfold yj;rw[if_neg (by rw[length_append];omega),take_left' h,drop_left' h]
theorem qf {n:Nat} {s a t:List UInt8} (h:yj n s=some (a,t)):a.length=n/\a++t=s:=by
 unfold yj at h;split at h
 ·cases h
 ·injection h with h
  injection h with h1 h2
  subst h1 h2;exact⟨by rw[length_take];omega,List.take_append_drop n s⟩
theorem zft (b:UInt8):lev [b]=b.toNat:=by simp[lev]
theorem zba {n:Nat} (h:n<256):(UInt8.ofNat n).toNat=n:=by rw[UInt8.toNat_ofNat'];omega
theorem zjb {s:ByteArray} (h:s.size<256) (t:List UInt8):nmR (nmB s++t)=some (s,t):=by
 have e:nmB s++t=[UInt8.ofNat s.size]++(B s++t):=rfl;unfold nmR;rw[e,kL (n:=1) rfl];dsimp only;rw[zft,zba h,kL (n:=s.size) (yi s).symm];dsimp only;rw[zjO]
theorem zfu {s r:List UInt8} {n:ByteArray} (h:nmR s=some (n,r)):nmB n++r=s:=by
 unfold nmR at h;split at h
 ·cases h
 rename_i b q hb;split at h
 ·cases h
 rename_i t r' ht;injection h with h
 injection h with h1 h2
 subst h1 h2;obtain⟨h1,h2⟩:=qf hb;obtain⟨h3,h4⟩:=qf ht
 match b,h1 with
 |[x],_=>
  rw[zft]at h3;unfold nmB;rw[xv,xz,h3,<- h2,<- h4];have:UInt8.ofNat x.toNat=x:=by apply UInt8.toNat_inj.1;exact zba x.toNat_lt
  rw[this];rfl
theorem zhj (n:Nat) (t:List UInt8):jF ([vH n]++t)=some (min n 1,t):=by
 unfold jF;rw[kL (n:=1) rfl];dsimp only;have e:lev [vH n]=min n 1:=by rw[zft];unfold vH;exact zba (by omega)
 rw[e,if_pos (by omega)]
theorem zhk {s r:List UInt8} {n:Nat} (h:jF s=some (n,r)):n<=1/\[vH n]++r=s:=by
 unfold jF at h;split at h
 ·cases h
 rename_i b q hb;split at h
 ·rename_i hl;injection h with h
  injection h with h1 h2
  subst h1 h2;obtain⟨h1,h2⟩:=qf hb
  match b,h1 with
  |[x],_=>
   rw[zft]at hl ⊢;refine⟨hl,?_⟩;rw[<- h2];have:vH x.toNat=x:=by
    unfold vH;apply UInt8.toNat_inj.1;rw[zba (by omega)];omega
   rw[this]
 ·cases h
def zk3 (e:Ent):Prop:=e.1.size<256/\xd e.2.1=0/\e.2.2.2.1<18446744073709551616/\0<=e.2.2.2.2/\e.2.2.2.2<4294967296
theorem zpE {n:Nat} (h:n<4294967296):lev (le 4 n)=n:=by rw[uR];omega
theorem znu {e:Ent} (h:zk3 e) (t:List UInt8):kj (jh e++t)=some (j9 e,t):=by
 obtain⟨h1,h2,h3,h4,h5⟩:=h;unfold kj jh;simp only [append_assoc];rw[zjb h1];dsimp only;rw[zit h2];dsimp only;rw[kL (n:=8) (zx _ _)];dsimp only;rw[kL (n:=4) (zx _ _)];dsimp only;rw[zhj];dsimp only;rw[zi9 h3,zpE (by omega)];unfold j9;rw[show((e.2.2.2.2.toNat:Nat):Int)=e.2.2.2.2 by omega]
theorem zjc {n:Nat} {a:List UInt8} (h:a.length=n):le n (lev a)=a:=by rw[<- h];exact zkR a
theorem znv {s r:List UInt8} {e:Ent} (h:kj s=some (e,r)):jh e++r=s/\j9 e=e/\xd e.2.1=0/\0<=e.2.2.2.2:=by
 unfold kj at h;split at h
 ·cases h
 rename_i n r1 g1;split at h
 ·cases h
 rename_i cs r2 g2;split at h
 ·cases h
 rename_i x r3 g3;split at h
 ·cases h
 rename_i y r4 g4;split at h
 ·cases h
 rename_i o r5 g5;injection h with h
 injection h with h1 h2
 subst h1 h2;have k1:=zfu g1;obtain⟨k2,k3⟩:=zkY g2;obtain⟨k4,k5⟩:=qf g3;obtain⟨k6,k7⟩:=qf g4;obtain⟨k8,k9⟩:=zhk g5;refine⟨?_,?_,k2,by show(0:Int)<=((lev y:Nat):Int);omega⟩
 ·unfold jh;dsimp only;rw[Int.toNat_natCast,zjc k4,zjc k6];simp only [append_assoc];rw[k9,k7,k5,k3,k1]
 ·unfold j9;dsimp only;rw[show min o 1=o by omega]
theorem znw {s:Snp} (h:s.1.size<256) (t:List UInt8):kK (jE s++t)=some (kF s,t):=by
 unfold kK jE;rw[append_assoc,zjb h];dsimp only;rw[zhj];rfl
theorem znx {s r:List UInt8} {x:Snp} (h:kK s=some (x,r)):jE x++r=s/\kF x=x:=by
 unfold kK at h;split at h
 ·cases h
 rename_i n r1 g1;split at h
 ·cases h
 rename_i o r2 g2;injection h with h
 injection h with h1 h2
 subst h1 h2;have k1:=zfu g1;obtain⟨k8,k9⟩:=zhk g2;refine⟨?_,?_⟩
 ·unfold jE;dsimp only;rw[append_assoc,k9,k1]
 ·unfold kF;dsimp only;rw[show min o 1=o by omega]
theorem zcD {α:Type} {f:List UInt8->Option (α×List UInt8)} {g:α->List UInt8} {u:α->α}:∀ {l:List α},(∀ x∈l,∀ t,f (g x++t)=some (u x,t))->∀ t,qK f l.length (l.flatMap g++t)=some (l.map u,t)
 |[],_,t=>rfl
 |x::r,h,t=>by
  rw[length_cons,flatMap_cons,append_assoc,qK,h x mem_cons_self];dsimp only;rw[zcD (fun y hy=>h y (mem_cons_of_mem _ hy))];rfl
structure jJ (c:Cat):Prop where
 tabs:c.1.length<=16
 snaps:c.2.length<=16
 ents:∀ e∈c.1,yC (B e.1)=0/\xd e.2.1=0/\(0<=e.2.2.2.2/\e.2.2.2.2<=4096)/\(e.2.2.1=0↔e.2.2.2.2=0)/\e.2.2.2.1<1099511627776
 snps:∀ s∈c.2,yC (B s.1)=0
 rt:yL (fun e:Ent=>e.1) c.1=true
 rs:yL (fun s:Snp=>s.1) c.2=true
theorem vX {c:Cat}:qc c=true↔jJ c:=by
 unfold qc yA jr zd4;simp only [Bool.and_eq_true,decide_eq_true_iff,all_eq_true];constructor
 ·rintro⟨⟨h1,h2⟩,⟨h3,h4⟩,⟨h5,h6⟩,h7⟩;exact⟨h1,h2,fun e he=>⟨h3 e he,(h7 e he).1,(h7 e he).2.1,(h7 e he).2.2.1,(h7 e he).2.2.2⟩,h5,h4,h6⟩
 ·rintro⟨h1,h2,h3,h4,h5,h6⟩;exact⟨⟨h1,h2⟩,⟨fun e he=>(h3 e he).1,h5⟩,⟨h4,h6⟩,fun e he=>⟨(h3 e he).2.1,(h3 e he).2.2.1,(h3 e he).2.2.2.1,(h3 e he).2.2.2.2⟩⟩
theorem jJ.fit {c:Cat} (h:jJ c):∀ e∈c.1,zk3 e:=fun e he=>by
 obtain⟨h1,h2,h3,h4,h5⟩:=h.ents e he;have:=qJ h1;have hs:=yi e.1;exact⟨by omega,h2,by omega,h3.1,by omega⟩
theorem zk4 {c:Cat} (h:jJ c):zfs (qk c)=some (ones c):=by
 have l1:lev [UInt8.ofNat c.1.length]=c.1.length:=by rw[zft];exact zba (by have:=h.tabs;omega)
 have l2:lev [UInt8.ofNat c.2.length]=c.2.length:=by rw[zft];exact zba (by have:=h.snaps;omega)
 have e:qk c=[UInt8.ofNat c.1.length]++(c.1.flatMap jh++([UInt8.ofNat c.2.length]++(c.2.flatMap jE++[]))):=by unfold qk;simp
 rw[e];unfold zfs;rw[kL (n:=1) rfl];dsimp only;rw[l1,zcD (u:=j9) (fun x hx t=>znu (h.fit x hx) t)];dsimp only;rw[kL (n:=1) rfl];dsimp only;rw[l2,zcD (u:=kF) (fun x hx t=>znw (by have:=qJ (h.snps x hx);have:=yi x.1;omega) t)];rfl
theorem zcE {α:Type} {f:α->ByteArray} {u:α->α} (hu:∀ x,f (u x)=f x):∀ l:List α,yL f (l.map u)=yL f l
 |[]=>rfl
 |[_]=>rfl
 |x::y::r=>by
  have ih:=zcE hu (y::r);simp only [map_cons,yL,hu]at ih ⊢;rw[ih]
theorem jJ.ones {c:Cat} (h:jJ c):jJ (ones c):=by
 refine⟨by simp[V.ones,h.tabs],by simp[V.ones,h.snaps],fun e he=>?_,fun s hs=>?_,?_,?_⟩
 ·obtain⟨x,hx,rfl⟩:=mem_map.1 he;obtain⟨h1,h2,h3,h4,h5⟩:=h.ents x hx;exact⟨h1,h2,h3,by show min x.2.2.1 1=0↔x.2.2.2.2=0;omega,h5⟩
 ·obtain⟨x,hx,rfl⟩:=mem_map.1 hs;exact h.snps x hx
 ·exact(zcE (u:=j9) (fun _=>rfl) c.1).trans h.rt
 ·exact(zcE (u:=kF) (fun _=>rfl) c.2).trans h.rs
theorem zjP {c:Cat} (h:jJ c):kG (qk c)=(ones c,0):=by
 unfold kG;rw[zk4 h];dsimp only;rw[if_pos (vX.2 h.ones)]
theorem uG (s:ByteArray):(nmB s).length=s.size+1:=by unfold nmB;rw[length_cons,yi]
theorem jJ.len {c:Cat} (h:jJ c):(qk c).length<=11000:=by
 have h1:(c.1.flatMap jh).length<=c.1.length*646:=by
  have:∀ l:List Ent,(∀ e∈l,e∈c.1)->(l.flatMap jh).length<=l.length*646:=by
   intro l
   induction l with
   |nil=>intro _;simp
   |cons e r ih=>
    intro hl;have he:=h.ents e (hl e mem_cons_self);have n1:=qJ he.1;have n2:=zcb he.2.1;have hs:=yi e.1;have:=ih (fun x hx=>hl x (mem_cons_of_mem _ hx));rw[flatMap_cons,length_append,length_cons];have:(jh e).length<=646:=by
     unfold jh;simp only [length_append,uG,zx,length_singleton];omega
    omega
  exact this c.1 (fun _ hx=>hx)
 have h2:(c.2.flatMap jE).length<=c.2.length*34:=by
  have:∀ l:List Snp,(∀ e∈l,e∈c.2)->(l.flatMap jE).length<=l.length*34:=by
   intro l
   induction l with
   |nil=>intro _;simp
   |cons e r ih=>
    intro hl;have n1:=qJ (h.snps e (hl e mem_cons_self));have hs:=yi e.1;have:=ih (fun x hx=>hl x (mem_cons_of_mem _ hx));rw[flatMap_cons,length_append,length_cons];have:(jE e).length<=34:=by
     unfold jE;simp only [length_append,uG,length_singleton];omega
    omega
  exact this c.2 (fun _ hx=>hx)
 have:=h.tabs;have:=h.snaps;have e:=Nat.mul_le_mul_right 646 h.tabs;have e2:=Nat.mul_le_mul_right 34 h.snaps;unfold qk;rw[length_cons,length_append,length_cons];omega
end V
/- Maps from ints to empty structs:sets of ints. -/
namespace V
open Go Go.Proofs Go.RowKit Go.MapKept
section
variable {P:Program} {t kt et:TypeId}
end
end V
/- []byte(s) of a string,written into:the row bears the mark of a conversion behind its cells. -/
namespace V
open Go Go.Proofs Go.RowKit
variable {w w':World} {b:Nat} {cs:List Value} {t:TypeId}
section
variable {P:Program} {e:TypeId} {z:Value} {bytes:Nat} {src dst:TypeId}
end
end V
/- Contracts of the document's answer,chapter 2. -/
namespace V
open Go Go.Proofs Crc
end V
/- Contracts of the kit:Times,Str,Num,Row,Pair. -/
namespace V
open Go Go.Proofs Go.RowKit
end V
/- Devices:plain,and in memory. -/
namespace V
open Go Go.Proofs Go.RowKit Crc
def Only (F:Nat->Prop) (w w':World):Prop:=w'.os=w.os/\w'.tape=w.tape/\w'.output=w.output/\w.heap.size<=w'.heap.size/\∀ k:Nat,k<w.heap.size->¬F k->w'.heap[k]?=w.heap[k]?
theorem Only.zG {F:Nat->Prop} {w w':World} (h:Ext w w'):Only F w w':=⟨h.os,h.tape,h.output,h.size,fun k hk _=>h.block k hk⟩
theorem Only.refl (F:Nat->Prop) (w:World):Only F w w:=Only.zG (Ext.refl w)
theorem Only.z7 {F:Nat->Prop} {w w':World} {row:Option Nat} (h:w.grownBy w' row) (hr:∀ j,row=some j->F j\/w.heap.size<=j):Only F w w':=by
 refine⟨h.os,h.tape,h.output,h.size,fun k hk hF=>h.block k hk (fun e=>?_)⟩;rcases hr k e.symm with h1|h1
 ·exact hF h1
 ·omega
theorem Only.trans {F G:Nat->Prop} {a b c:World} (h:Only F a b) (k:Only G b c) (hG:∀ j,G j->F j\/a.heap.size<=j):Only F a c:=by
 obtain⟨h1,h2,h3,h4,h5⟩:=h;obtain⟨k1,k2,k3,k4,k5⟩:=k;refine⟨k1.trans h1,k2.trans h2,k3.trans h3,Nat.le_trans h4 k4,fun j hj hF=>?_⟩;rw[k5 j (by omega) (fun hg=>by rcases hG j hg with x|x;exact hF x;omega),h5 j hj hF]
theorem Only.ext {F:Nat->Prop} {a w w':World} (h:Ext a w) (k:Only F w w') (hF:∀ j,F j->a.heap.size<=j):Ext a w':=by
 obtain⟨k1,k2,k3,k4,k5⟩:=k;refine⟨k1.trans h.os,k2.trans h.tape,k3.trans h.output,Nat.le_trans h.size k4,fun j hj=>?_⟩;rw[k5 j (by have:=h.size;omega) (fun hg=>by have:=hF j hg;omega)];exact h.block j hj
theorem Blk.only {F:Nat->Prop} {w w':World} {b:Nat} {cs:List Value} {t:TypeId} (h:Blk w b cs t) (k:Only F w w') (hb:¬F b):Blk w' b cs t:=(k.2.2.2.2 b h.lt hb).trans h
theorem Owni.only {α:Type} {E:Enc α} {e:TypeId} {F:Nat->Prop} {w w':World} {B:Nat} {A:Option Addr} {n c:Nat} {xs:List α} (h:Owni E e w B A n c xs) (k:Only F w w') (hr:∀ j,orow A=some j->¬F j):Owni E e w' B A n c xs:=by
 refine⟨h.1,?_⟩;rcases h.2 with hn|⟨g,cap,cur,hv,hb,hgg,rest⟩
 ·exact .inl hn
 ·refine .inr ⟨g,cap,cur,hv,hb,?_,rest⟩;have ha:orow A=some g:=by
   injection hv with hv
   rw[hv];rfl
  rw[k.2.2.2.2 g (Array.getElem?_eq_some_iff.1 hgg).1 (hr g ha)];exact hgg
structure Dev where
 size:Int
 blocks:Int
 dur:List ByteArray
 pen:List (Int×ByteArray)
 ops:Int
 fuse:Int
def vh:Enc (Int×ByteArray) where
 k:=2
 f x:=[.int .i64 x.1,.string x.2]
 len _:=rfl
 one _:=by
  intro v hv
  simp only [mem_cons,not_mem_nil,or_false]at hv
  rcases hv with rfl|rfl<;>rfl
 pos:=by decide
structure Dev.Ok (d:Dev):Prop where
 geo:yc d.size d.blocks=true
 len:(d.dur.length:Int)=d.blocks
 each:∀ s∈d.dur,(s.size:Int)=d.size
 pend:∀ p∈d.pen,0<=p.1/\p.1<d.blocks/\(p.2.size:Int)=d.size
 fuse:-1<=d.fuse/\d.fuse<9223372036854775808
def Dev.there (d:Dev) (k:Int):Bool:=decide (0<=k/\k<d.blocks)
def Dev.burnt (d:Dev):Dev:={ d with fuse:=max (-1) (d.fuse-1),ops:=wrap .i64 (d.ops+1) }
def Dev.write (d:Dev) (k:Int) (s:ByteArray):Dev×Int:=
 if ¬(0<=k/\k<d.blocks)\/(s.size:Int)≠d.size then (d,2)
 else if d.fuse=0 then (d,8)
 else ({ d.burnt with pen:=d.pen++[(k,s)] },0)
def put (l:List ByteArray) (p:Int×ByteArray):List ByteArray:=l.set p.1.toNat p.2
def Dev.flush (d:Dev):Dev×Int:=if d.fuse=0 then (d,8) else ({ d.burnt with dur:=d.pen.foldl put d.dur,pen:=[] },0)
def Dev.read (d:Dev) (k:Int):ByteArray×Int:=
 if ¬(0<=k/\k<d.blocks) then (ByteArray.empty,2)
 else ((d.pen.foldl put d.dur).getD k.toNat ByteArray.empty,0)
structure xh (w:World) (b:Nat) (d:Dev) (F:Nat->Prop):Prop where
 mem:∃ (Ad Ap:Option Addr) (nd cd np cp:Nat) (t:TypeId),Blk w b [.int .i64 d.size,.int .i64 d.blocks,.slice Ad nd cd,.slice Ap np cp,.int .i64 d.ops,.int .i64 d.fuse] t
  /\ Owni xL 9 w 0 Ad nd cd d.dur/\Owni vh 230 w 0 Ap np cp d.pen/\(∀ k,F k↔k=b\/orow Ad=some k\/orow Ap=some k)/\orow Ad≠some b/\orow Ap≠some b/\(∀ j,orow Ad=some j->orow Ap≠some j)
 ok:d.Ok
theorem xh.lt {w:World} {b:Nat} {d:Dev} {F:Nat->Prop} (h:xh w b d F):∀ k,F k->k<w.heap.size:=by
 obtain⟨Ad,Ap,nd,cd,np,cp,t,hb,hd,hp,hF,_⟩:=h.mem;intro k hk;rcases (hF k).1 hk with rfl|h|h
 ·exact hb.lt
 ·exact hd.ye k h
 ·exact hp.ye k h
theorem xh.apart {w w':World} {b:Nat} {d:Dev} {F G:Nat->Prop} (h:xh w b d F) (k:Only G w w') (hFG:∀ j,F j->¬G j):xh w' b d F:=by
 refine⟨?_,h.ok⟩;obtain⟨Ad,Ap,nd,cd,np,cp,t,hb,hd,hp,hF,h1,h2,h3⟩:=h.mem;exact⟨Ad,Ap,nd,cd,np,cp,t,hb.only k (hFG b ((hF b).2 (.inl rfl))),hd.only k (fun j hj=>hFG j ((hF j).2 (.inr (.inl hj)))),hp.only k (fun j hj=>hFG j ((hF j).2 (.inr (.inr hj)))),hF,h1,h2,h3⟩
end V
/- Contracts of the library at this dump:written by the kit's own tools (lay-shelf,lay-plain),pruned to what is used. -/
namespace Go.Proofs
open Go.Shelf
def Tryz.lays169_ren:Go.Shelf.Ren:=⟨fun|169=>129|n=>n,fun|70=>202|9=>9|0=>0|72=>204|37=>85|127=>259|3=>3|5=>5|n=>n,fun|n=>n⟩
theorem Tryz.lays169:Go.Proofs.Lays.n169 prog Tryz.lays169_ren:={
 mixed:=by kernel_rfl
 f169:=Tryz.func129.trans (congrArg some (by kernel_rfl))
 t0:=Tryz.underlying0
 a0:=Tryz.isAgg0
 z0:=Tryz.sizeOf0
 v0:=Tryz.zeroValue0
 t3:=Tryz.underlying3
 a3:=Tryz.isAgg3
 z3:=Tryz.sizeOf3
 v3:=Tryz.zeroValue3
 t9:=Tryz.underlying9
 a9:=Tryz.isAgg9
 z9:=Tryz.sizeOf9
 v9:=Tryz.zeroValue9
 t37:=Tryz.underlying85
 a37:=Tryz.isAgg85
 z37:=Tryz.sizeOf85
 v37:=Tryz.zeroValue85
 t70:=Tryz.underlying202
 a70:=Tryz.isAgg202
 z70:=Tryz.sizeOf202
 v70:=Tryz.zeroValue202
 t72:=Tryz.underlying204
 a72:=Tryz.isAgg204
 z72:=Tryz.sizeOf204
 v72:=Tryz.zeroValue204
 t127:=Tryz.underlying259
 a127:=Tryz.isAgg259
 z127:=Tryz.sizeOf259
 v127:=Tryz.zeroValue259 }
theorem Tryz.Builder_Extra_169:Builder.Extra prog Tryz.lays169_ren:={
 sizeBuilder:=by kernel_rfl
 liesBuilder:=by kernel_rfl
 t5:=Tryz.underlying5
 a5:=Tryz.isAgg5
 z5:=Tryz.sizeOf5
 v5:=Tryz.zeroValue5
 infoByte:=by kernel_rfl
 cellsByte:=by kernel_rfl
 sizeByte:=by kernel_rfl
 neB5:=by decide }
open Go.RowKit in
open Go.RowKit in
theorem Tryz.Builder_String_any_k (B b:Nat) (l:List UInt8) (w:World) (h:Lib.IsBuilderF 204 5 B b (Lib.byteCells l) w) (hBw:B<=w.heap.size):
  Calls prog 129 #[.pointer (some ⟨b,0,none⟩)] w fun e w'=>e=.returned (.string ⟨l.toArray⟩)/\(Lib.IsBuilderF 204 5 B b (Lib.byteCells l) w'/\Below B w w'/\Lib.OthersKept 5 (some b) w w'):=Any.Builder_String_any_k Tryz.lays169 Tryz.Builder_Extra_169 B b l w h hBw
def Tryz.lays212_ren:Go.Shelf.Ren:=⟨fun|212=>158|263=>197|264=>198|n=>n,fun|46=>180|51=>41|146=>282|53=>42|148=>284|n=>n,fun|n=>n⟩
theorem Tryz.lays212:Go.Proofs.Lays.n212 prog Tryz.lays212_ren:={
 mixed:=by kernel_rfl
 f212:=Tryz.func158.trans (congrArg some (by kernel_rfl))
 f263:=Tryz.func197.trans (congrArg some (by kernel_rfl))
 f264:=Tryz.func198.trans (congrArg some (by kernel_rfl))
 t46:=Tryz.underlying180
 a46:=Tryz.isAgg180
 z46:=Tryz.sizeOf180
 v46:=Tryz.zeroValue180
 t51:=Tryz.underlying41
 a51:=Tryz.isAgg41
 z51:=Tryz.sizeOf41
 v51:=Tryz.zeroValue41
 t53:=Tryz.underlying42
 a53:=Tryz.isAgg42
 z53:=Tryz.sizeOf42
 v53:=Tryz.zeroValue42
 t146:=Tryz.underlying282
 a146:=Tryz.isAgg282
 z146:=Tryz.sizeOf282
 v146:=Tryz.zeroValue282
 t148:=Tryz.underlying284
 a148:=Tryz.isAgg284
 z148:=Tryz.sizeOf284
 v148:=Tryz.zeroValue284 }
open Go.RowKit Go.Lib in
theorem Tryz.bits_Mul (x y:Nat) (hx:x<18446744073709551616) (hy:y<18446744073709551616) (w:World):
  Calls prog 158 #[.int .u64 x,.int .u64 y] w fun e w'=>e=.returned (.tuple #[.int .u64 ((x*y / 18446744073709551616:Nat):Int),.int .u64 ((x*y % 18446744073709551616:Nat):Int)])/\w'=w:=Any.bits_Mul Tryz.lays212 x y hx hy w
def Tryz.lays105_ren:Go.Shelf.Ren:=⟨fun|105=>113|212=>158|99=>159|165=>145|166=>128|170=>160|169=>129|263=>197|264=>198|206=>199|240=>171|241=>182|276=>204|277=>212|n=>n,fun|9=>9|3=>3|4=>4|20=>20|0=>0|46=>180|109=>248|5=>5|72=>204|76=>210|51=>41|146=>282|53=>42|148=>284|70=>202|37=>85|75=>209|127=>259|164=>290|80=>74|n=>n,fun|n=>n⟩
theorem Tryz.lays105:Go.Proofs.Lays.n105 prog Tryz.lays105_ren:={
 mixed:=by kernel_rfl
 f99:=Tryz.func159.trans (congrArg some (by kernel_rfl))
 f105:=Tryz.func113.trans (congrArg some (by kernel_rfl))
 f165:=Tryz.func145.trans (congrArg some (by kernel_rfl))
 f166:=Tryz.func128.trans (congrArg some (by kernel_rfl))
 f169:=Tryz.func129.trans (congrArg some (by kernel_rfl))
 f170:=Tryz.func160.trans (congrArg some (by kernel_rfl))
 f206:=Tryz.func199.trans (congrArg some (by kernel_rfl))
 f212:=Tryz.func158.trans (congrArg some (by kernel_rfl))
 f240:=Tryz.func171.trans (congrArg some (by kernel_rfl))
 f241:=Tryz.func182.trans (congrArg some (by kernel_rfl))
 f263:=Tryz.func197.trans (congrArg some (by kernel_rfl))
 f264:=Tryz.func198.trans (congrArg some (by kernel_rfl))
 f276:=Tryz.func204.trans (congrArg some (by kernel_rfl))
 f277:=Tryz.func212.trans (congrArg some (by kernel_rfl))
 t0:=Tryz.underlying0
 a0:=Tryz.isAgg0
 z0:=Tryz.sizeOf0
 v0:=Tryz.zeroValue0
 t3:=Tryz.underlying3
 a3:=Tryz.isAgg3
 z3:=Tryz.sizeOf3
 v3:=Tryz.zeroValue3
 t4:=Tryz.underlying4
 a4:=Tryz.isAgg4
 z4:=Tryz.sizeOf4
 v4:=Tryz.zeroValue4
 t5:=Tryz.underlying5
 a5:=Tryz.isAgg5
 z5:=Tryz.sizeOf5
 v5:=Tryz.zeroValue5
 t9:=Tryz.underlying9
 a9:=Tryz.isAgg9
 z9:=Tryz.sizeOf9
 v9:=Tryz.zeroValue9
 t20:=Tryz.underlying20
 a20:=Tryz.isAgg20
 z20:=Tryz.sizeOf20
 v20:=Tryz.zeroValue20
 t37:=Tryz.underlying85
 a37:=Tryz.isAgg85
 z37:=Tryz.sizeOf85
 v37:=Tryz.zeroValue85
 t46:=Tryz.underlying180
 a46:=Tryz.isAgg180
 z46:=Tryz.sizeOf180
 v46:=Tryz.zeroValue180
 t51:=Tryz.underlying41
 a51:=Tryz.isAgg41
 z51:=Tryz.sizeOf41
 v51:=Tryz.zeroValue41
 t53:=Tryz.underlying42
 a53:=Tryz.isAgg42
 z53:=Tryz.sizeOf42
 v53:=Tryz.zeroValue42
 t70:=Tryz.underlying202
 a70:=Tryz.isAgg202
 z70:=Tryz.sizeOf202
 v70:=Tryz.zeroValue202
 t72:=Tryz.underlying204
 a72:=Tryz.isAgg204
 z72:=Tryz.sizeOf204
 v72:=Tryz.zeroValue204
 t75:=Tryz.underlying209
 a75:=Tryz.isAgg209
 z75:=Tryz.sizeOf209
 v75:=Tryz.zeroValue209
 t76:=Tryz.underlying210
 a76:=Tryz.isAgg210
 z76:=Tryz.sizeOf210
 v76:=Tryz.zeroValue210
 t109:=Tryz.underlying248
 a109:=Tryz.isAgg248
 z109:=Tryz.sizeOf248
 v109:=Tryz.zeroValue248
 t127:=Tryz.underlying259
 a127:=Tryz.isAgg259
 z127:=Tryz.sizeOf259
 v127:=Tryz.zeroValue259
 t146:=Tryz.underlying282
 a146:=Tryz.isAgg282
 z146:=Tryz.sizeOf282
 v146:=Tryz.zeroValue282
 t148:=Tryz.underlying284
 a148:=Tryz.isAgg284
 z148:=Tryz.sizeOf284
 v148:=Tryz.zeroValue284
 t164:=Tryz.underlying290
 a164:=Tryz.isAgg290
 z164:=Tryz.sizeOf290
 v164:=Tryz.zeroValue290 }
theorem Tryz.Builder_Extra_105:Builder.Extra prog Tryz.lays105_ren:={
 sizeBuilder:=by kernel_rfl
 liesBuilder:=by kernel_rfl
 t5:=Tryz.underlying5
 a5:=Tryz.isAgg5
 z5:=Tryz.sizeOf5
 v5:=Tryz.zeroValue5
 infoByte:=by kernel_rfl
 cellsByte:=by kernel_rfl
 sizeByte:=by kernel_rfl
 neB5:=by decide }
open Go.RowKit Go.Lib in
theorem Tryz.strings_Repeat (s:ByteArray) (c:Nat) (w:World) (hc:c<=9223372036854775807) (hlen:s.size*c<=140737488355328):
  Calls prog 113 #[.string s,.int .i64 c] w fun e w'=>e=.returned (.string ⟨(Lib.repeatL s.data.toList c).toArray⟩)/\Below w.heap.size w w':=Any.strings_Repeat Tryz.lays105 Tryz.Builder_Extra_105 s c w hc hlen
def Tryz.lays166_ren:Go.Shelf.Ren:=⟨fun|166=>128|240=>171|276=>204|n=>n,fun|0=>0|3=>3|4=>4|5=>5|9=>9|20=>20|37=>85|70=>202|72=>204|75=>209|80=>74|164=>290|n=>n,fun|n=>n⟩
theorem Tryz.lays166:Go.Proofs.Lays.n166 prog Tryz.lays166_ren:={
 mixed:=by kernel_rfl
 f166:=Tryz.func128.trans (congrArg some (by kernel_rfl))
 f240:=Tryz.func171.trans (congrArg some (by kernel_rfl))
 f276:=Tryz.func204.trans (congrArg some (by kernel_rfl))
 t0:=by kernel_rfl
 a0:=fun w=>by kernel_rfl
 z0:=fun w=>by kernel_rfl
 v0:=fun w=>by kernel_rfl
 t3:=by kernel_rfl
 a3:=fun w=>by kernel_rfl
 z3:=fun w=>by kernel_rfl
 v3:=fun w=>by kernel_rfl
 t4:=by kernel_rfl
 a4:=fun w=>by kernel_rfl
 z4:=fun w=>by kernel_rfl
 v4:=fun w=>by kernel_rfl
 t9:=by kernel_rfl
 a9:=fun w=>by kernel_rfl
 z9:=fun w=>by kernel_rfl
 v9:=fun w=>by kernel_rfl
 t20:=by kernel_rfl
 a20:=fun w=>by kernel_rfl
 z20:=fun w=>by kernel_rfl
 v20:=fun w=>by kernel_rfl
 t37:=by kernel_rfl
 a37:=fun w=>by kernel_rfl
 z37:=fun w=>by kernel_rfl
 v37:=fun w=>by kernel_rfl
 t70:=by kernel_rfl
 a70:=fun w=>by kernel_rfl
 z70:=fun w=>by kernel_rfl
 v70:=fun w=>by kernel_rfl
 t72:=by kernel_rfl
 a72:=fun w=>by kernel_rfl
 z72:=fun w=>by kernel_rfl
 v72:=fun w=>by kernel_rfl
 t75:=by kernel_rfl
 a75:=fun w=>by kernel_rfl
 z75:=fun w=>by kernel_rfl
 v75:=fun w=>by kernel_rfl
 t164:=by kernel_rfl
 a164:=fun w=>by kernel_rfl
 z164:=fun w=>by kernel_rfl
 v164:=fun w=>by kernel_rfl }
theorem Tryz.Builder_X72_166:Builder.X72 prog Tryz.lays166_ren where
 sizeBuilder:=by kernel_rfl
 liesBuilder:=by kernel_rfl
theorem Tryz.Builder_Extra_166b:Builder.Extra prog Tryz.lays166_ren where
 toX72:=Tryz.Builder_X72_166
 t5:=by kernel_rfl
 a5:=fun w=>by kernel_rfl
 z5:=fun w=>by kernel_rfl
 v5:=fun w=>by kernel_rfl
 infoByte:=by kernel_rfl
 cellsByte:=by kernel_rfl
 sizeByte:=by kernel_rfl
 neB5:=by decide
open Go.RowKit in
theorem Tryz.Builder_WriteString_k (B b:Nat) (bs:List Value) (s:ByteArray) (w:World) (h:Lib.IsBuilderF 204 5 B b bs w) (hlen:bs.length+s.size<=140737488355328) (hBw:B<=w.heap.size):
  Calls prog 128 #[.pointer (some ⟨b,0,none⟩),.string s] w fun e w'=>e=.returned (.tuple #[.int .i64 s.size,.nilIface])/\(Lib.BuilderAtF 204 5 B b (.pointer (some ⟨b,0,none⟩)) (bs++Lib.strCells s) w'/\Below B w w'/\Lib.OthersKept 5 (some b) w w'):=Any.Builder_WriteString_k Tryz.lays166 Tryz.Builder_Extra_166b B b bs s w h hlen hBw
end Go.Proofs
/- Contracts of octet.Reader. -/
namespace V
open Go Go.Proofs Go.RowKit
theorem yH (w:World) (b o:Nat) (v:Value):w.grownBy (w.setCell ⟨b,o,none⟩ v) (some b):=by
 refine⟨rfl,rfl,rfl,by simp,fun k hk hne=>Below.heap_setCell _ _ _ _ ?_⟩;intro e;exact hne (by rw[e])
def Rdr (w:World) (lo b:Nat) (bs:List UInt8):Prop:=∃ (A:Option Addr) (n c:Nat) (t:TypeId),Blk w b [.slice A n c] t/\Sl w A n (bV bs)/\n<=c/\(∀ a,A=some a->lo<=a.block/\a.block<b)/\lo<=b
theorem Rdr.lt {w:World} {lo b:Nat} {bs:List UInt8} (h:Rdr w lo b bs):b<w.heap.size:=by
 obtain⟨A,n,c,t,hb,_⟩:=h;exact hb.lt
theorem Rdr.ext {w w':World} {lo b:Nat} {bs:List UInt8} (h:Rdr w lo b bs) (he:Ext w w'):Rdr w' lo b bs:=by
 obtain⟨A,n,c,t,hb,hs,hc,ha,hlo⟩:=h;exact⟨A,n,c,t,hb.ext he,hs.ext he,hc,ha,hlo⟩
theorem Rdr.grown {w w':World} {lo b:Nat} {bs:List UInt8} {row:Option Nat} (h:Rdr w lo b bs) (hg:w.grownBy w' row) (hr:∀ j,row=some j->j<lo\/b<j):Rdr w' lo b bs:=by
 obtain⟨A,n,c,t,hb,hs,hc,ha,hlo⟩:=h;refine⟨A,n,c,t,hb.grown hg ?_,hs.grown hg ?_,hc,ha,hlo⟩
 ·intro e;have:=hr b e.symm;omega
 ·intro a e e2;have:=hr a.block e2.symm;have:=ha a e;omega
def rd (bs:List UInt8) (k:Nat):Nat×Int×List UInt8:=if bs.length<k then (0,7,bs) else (lev (bs.take k),0,bs.drop k)
theorem zjQ {w:World} {A:Option Addr} {n c:Nat} {bs:List UInt8} (h:Sl w A n (bV bs)) (hn:n<=140737488355328):
  Calls prog 175 #[.slice A n c] w (Ret fun v w'=>∃ b,v=.pointer (some ⟨b,0,none⟩)/\w.heap.size<=b/\Rdr w' w.heap.size b bs/\Ext w w'):=by
 apply zmW;unfold S175;refine zb (zdw h hn) ?_;rintro _ w1 ⟨⟨A1,n1,c1⟩,rfl,ho1,he1⟩;refine⟨(A1,n1,c1),rfl,?_⟩;refine zq fun r2 w2 hb2 he2 hr2 _=>?_;have hsz:=he1.size;refine⟨r2,rfl,by omega,⟨A1,n1,c1,_,hb2,(ho1.ext he2).sl,ho1.le.1,fun a ha=>?_,by omega⟩,he1.trans he2⟩;have hge:=ho1.row a.block (by rw[xn];dsimp only;subst ha;rfl);have hlt:=(zl7 ho1 (k:=a.block) (by rw[xn];dsimp only;subst ha;rfl)).2;omega
theorem zdy {w:World} {lo b k:Nat} {bs:List UInt8} (h:Rdr w lo b bs) (hk:k<=1000000):
  Calls prog 210 #[.pointer (some ⟨b,0,none⟩),.int .i64 (k:Int)] w (Ret fun v w'=>∃ A n c,v=.tuple #[.slice A n c,.int .i64 (rd bs k).2.1]/\Sl w' A n (bV (if bs.length<k then [] else bs.take k))/\Rdr w' lo b (rd bs k).2.2/\w.grownBy w' (some b)):=by
 obtain⟨A,n,c,t,hb,hs,hc,ha,hlo⟩:=h;have hl:=hs.blen;apply zne;unfold S210 rd;refine zr (zF (A,n,c) hb (by rfl) ?_);refine zg (fun hq=>?_) (fun hq=>?_)
 ·have hq:(n:Int)<(k:Int):=of_decide_eq_true hq;rw[if_pos (by omega),if_pos (by omega)];exact⟨none,0,0,rfl,Sl.nil w none,⟨A,n,c,t,hb,hs,hc,ha,hlo⟩,xJ _ _⟩
 have hq:¬(n:Int)<(k:Int):=of_decide_eq_false hq;rw[if_neg (by omega),if_neg (by omega)];refine zr (zF (A,n,c) hb (by rfl) (zL ⟨by omega,by omega,by dsimp only;omega⟩ ?_));refine zr (zF (A,n,c) hb (by rfl) (zL ⟨by omega,by dsimp only;omega⟩ ?_));dsimp only;rw[Int.toNat_natCast];refine zr (zQ hb (by simp) ?_);have hg:=yH w b 0 (.slice (zo A k c 1) (n-k) (c-k));have hb':=hb.set 0 (.slice (zo A k c 1) (n-k) (c-k));have keep:∀ {A':Option Addr} {n':Nat} {bs':List UInt8},Sl w A' n' (bV bs')->(∀ a,A'=some a->lo<=a.block/\a.block<b)->Sl (w.setCell ⟨b,0,none⟩ (.slice (zo A k c 1) (n-k) (c-k))) A' n' (bV bs'):=fun hs ha=>hs.grown hg (fun a e e2=>by injection e2 with e2;have:=ha a e;omega);have cut:∀ (l m:Nat) (a:Addr),zo A l m 1=some a->lo<=a.block/\a.block<b:=by
  intro l m a e;unfold zo at e;cases A with
  |none=>revert e;split<;>simp
  |some a0=>
   have:=ha a0 rfl
   revert e
   split
   ·intro e;first|(injection e with e;subst e;exact this)|cases e
   ·intro e;simp only [Option.map_some,Option.some.injEq]at e;subst e;unfold Addr.add;split<;>exact this
 refine⟨zo A 0 k 1,k,k,rfl,?_,⟨zo A k c 1,n-k,c-k,t,hb',?_,by omega,cut k c,hlo⟩,hg⟩
 ·refine keep ?_ (cut 0 k);have:=hs.zfl (k:=k) (m:=k) (by omega) (by omega);rw[jf]at this;exact this
 ·refine keep ?_ (cut k c);have:=hs.cut (l:=k) (k:=n-k) (m:=c) (by omega) (by omega);rw[vF,jf,take_of_length_le (by rw[length_drop];omega)]at this;exact this
theorem zcF {w:World} {lo b k:Nat} {bs:List UInt8} (h:Rdr w lo b bs) (hk1:1<=k) (hk:k<=8):
  Calls prog 176 #[.pointer (some ⟨b,0,none⟩),.int .i64 (k:Int)] w (Ret fun v w'=>v=.tuple #[.int .u64 ((rd bs k).1:Int),.int .i64 (rd bs k).2.1]/\Rdr w' lo b (rd bs k).2.2/\w.grownBy w' (some b)):=by
 apply zmX;unfold S176;refine zd (by rfl) (zd (decide_eq_false (by omega)) (zd (decide_eq_false (by omega)) ?_));refine zb (zdy h (by omega)) ?_;rintro _ w1 ⟨A,n,c,rfl,hs,hr,hg⟩;refine⟨((A,n,c),(rd bs k).2.1,()),rfl,?_⟩;have hl:=hs.blen;have hn:n<=8:=by
  split at hl
  ·simp only [length_nil]at hl;omega
  ·rw[length_take]at hl;omega
 refine zb (qT hs hn) ?_;rintro _ w2 ⟨rfl,he2⟩;refine⟨_,rfl,⟨?_,hr.ext he2,xg hg (xX he2 none) (fun j hj=>by cases hj)⟩⟩;dsimp only;unfold rd;split<;>rfl
end V
/- Contracts of the package device. -/
namespace V
open Go Go.Proofs Go.RowKit Crc
def Step (w:World) (b:Nat) (F:Nat->Prop) (d':Dev) (w':World):Prop:=∃ F':Nat->Prop,xh w' b d' F'/\(∀ k,F' k->F k\/w.heap.size<=k)/\Only F w w'
theorem zdz {w:World} {b:Nat} {d:Dev} {F:Nat->Prop} (h:xh w b d F) (k:Int):
  Calls prog 162 #[.pointer (some ⟨b,0,none⟩),.int .i64 k] w (Ret fun v w'=>v=.bool (d.there k)/\w'=w):=by
 obtain⟨Ad,Ap,nd,cd,np,cp,t,hb,hd,hp,hF,h1,h2,h3⟩:=h.mem;apply zmK;unfold S162 Dev.there;refine zg (fun hz=>?_) (fun hz=>?_)
 ·have hz:=of_decide_eq_true hz;refine zr (zm 1 d.blocks hb (by rfl) ⟨?_,rfl⟩);congr 1;exact decide_eq_decide.2 (by omega)
 ·have hz:=of_decide_eq_false hz;refine⟨?_,rfl⟩;congr 1;exact(decide_eq_false (by omega)).symm
theorem xh.put {w:World} {b o:Nat} {d d':Dev} {F:Nat->Prop} {v:Value} (h:xh w b d F) (ho:∀ Ad nd cd Ap np cp,([.int .i64 d.size,.int .i64 d.blocks,.slice Ad nd cd,.slice Ap np cp,.int .i64 d.ops,.int .i64 d.fuse]:List Value).set o v=[.int .i64 d'.size,.int .i64 d'.blocks,.slice Ad nd cd,.slice Ap np cp,.int .i64 d'.ops,.int .i64 d'.fuse])
  (hd':d'.dur=d.dur) (hp':d'.pen=d.pen) (hok:d'.Ok):xh (w.setCell ⟨b,o,none⟩ v) b d' F:=by
 obtain⟨Ad,Ap,nd,cd,np,cp,t,hb,hd,hp,hF,h1,h2,h3⟩:=h.mem;have hg:=yH w b o v;refine⟨⟨Ad,Ap,nd,cd,np,cp,t,?_,?_,?_,hF,h1,h2,h3⟩,hok⟩
 ·rw[<- ho Ad nd cd Ap np cp];exact hb.set o v
 ·rw[hd'];exact hd.grown hg (fun j hj e=>by injection hj with hj;subst hj;exact h1 e)
 ·rw[hp'];exact hp.grown hg (fun j hj e=>by injection hj with hj;subst hj;exact h2 e)
theorem Dev.Ok.burnt {d:Dev} (h:d.Ok):d.burnt.Ok:=by
 refine⟨h.geo,h.len,h.each,h.pend,?_⟩;have:=h.fuse;show -1<=max (-1) (d.fuse-1)/\max (-1) (d.fuse-1)<9223372036854775808;omega
theorem zeP {w:World} {b:Nat} {d:Dev} {F:Nat->Prop} (h:xh w b d F):
  Calls prog 163 #[.pointer (some ⟨b,0,none⟩)] w (Ret fun v w'=>(d.fuse=0/\v=.bool false/\w'=w)\/(d.fuse≠0/\v=.bool true/\xh w' b d.burnt F/\w.grownBy w' (some b))):=by
 obtain⟨Ad,Ap,nd,cd,np,cp,t,hb,hd,hp,hF,h1,h2,h3⟩:=h.mem;have hf:=h.ok.fuse;apply zmL;unfold S163;refine zr (zm 5 d.fuse hb (by rfl) (zg (fun hz=>.inl ⟨beq_iff_eq.1 hz,rfl,rfl⟩) (fun hz=>?_)));have hz:=beq_eq_false_iff_ne.1 hz;have ef:(if wrap .i64 (d.fuse-1) > -1 then wrap .i64 (d.fuse-1) else -1)=max (-1) (d.fuse-1):=by
  rw[wrap_i64 (by omega) (by omega)];split<;>omega
 refine zr (zm 5 d.fuse hb (by rfl) ?_);rw[ef];refine zr ?_;rw[zC];refine zQ hb (by show 0+5<6;omega) ?_;have hg1:=yH w b (0+5) (.int .i64 (max (-1) (d.fuse-1)));have hD:=h.put (d':={ d with fuse:=max (-1) (d.fuse-1) }) (o:=0+5) (v:=.int .i64 (max (-1) (d.fuse-1))) (fun _ _ _ _ _ _=>rfl) rfl rfl ⟨h.ok.geo,h.ok.len,h.ok.each,h.ok.pend,by dsimp only;omega⟩;have hb1:=hb.set (0+5) (.int .i64 (max (-1) (d.fuse-1)));generalize w.setCell ⟨b,0+5,none⟩ (.int .i64 (max (-1) (d.fuse-1)))=w1 at hg1 hD hb1 ⊢;refine zr (zm 4 d.ops hb1 (by rfl) (zr ?_));rw[zC];refine zQ hb1 (by show 0+4<6;omega) ?_;have hg2:=yH w1 b (0+4) (.int .i64 (wrap .i64 (d.ops+1)));have hD2:=hD.put (d':=d.burnt) (o:=0+4) (v:=.int .i64 (wrap .i64 (d.ops+1))) (fun _ _ _ _ _ _=>rfl) rfl rfl h.ok.burnt;exact .inr ⟨hz,rfl,hD2,xg hg1 hg2 (fun j hj=>.inl hj)⟩
theorem zjR:jI prog 159 230 (.agg #[.int .i64 0,.string ByteArray.empty]) 2 24:=⟨by kernel_rfl,by kernel_rfl,by kernel_rfl⟩
theorem zaG {w:World} {b:Nat} {d:Dev} {F:Nat->Prop} (h:xh w b d F) (k:Int) (s:ByteArray) (hn:d.pen.length<=1000000):
  Calls prog 118 #[.pointer (some ⟨b,0,none⟩),.int .i64 k,.string s] w (Ret fun v w'=>v=.int .i64 (d.write k s).2/\Step w b F (d.write k s).1 w'):=by
 have stay:∀ {w':World},w'=w->Step w b F d w':=fun e=>by subst e;exact⟨F,h,fun k hk=>.inl hk,Only.refl F _⟩
 apply zml;unfold S118 Dev.write;refine zd (by rfl) ?_;refine zb (zdz h k) ?_;rintro _ w1 ⟨rfl,hw⟩;refine⟨_,rfl,?_⟩;subst hw;obtain⟨Ad,Ap,nd,cd,np,cp,t,hb,hd,hp,hF,h1,h2,h3⟩:=h.mem;refine zg (fun hz=>?_) (fun hz=>?_)
 ·have hz:¬(0<=k/\k<d.blocks):=of_decide_eq_false (show d.there k=false by simpa using hz);rw[if_pos (.inl hz)];exact⟨rfl,stay rfl⟩
 have hth:0<=k/\k<d.blocks:=of_decide_eq_true (show d.there k=true by simpa using hz);refine zr (zF d.size hb (by rfl) (zg (fun hz=>?_) (fun hz=>?_)))
 ·rw[if_pos (.inr (bne_iff_ne.1 hz))];exact⟨rfl,stay rfl⟩
 have hsz:=bne_eq_false_iff_eq.1 hz;rw[if_neg (by rintro(x|x);exact x hth;exact x hsz)];refine zb (zeP h) ?_;rintro _ w2 (⟨hz,rfl,hw⟩|⟨hz,rfl,hD,hg⟩)
 ·refine⟨_,rfl,zf (by rfl) ?_⟩;rw[if_pos hz];exact⟨rfl,stay hw⟩
 refine⟨_,rfl,zd (by rfl) ?_⟩;rw[if_neg hz];obtain⟨Ad,Ap,nd,cd,np,cp,t,hb,hd,hp,hF,h1,h2,h3⟩:=hD.mem;have hlp:=hp.len;have hlp2:d.burnt.pen=d.pen:=rfl;refine zr (zm 3 (Ap,np,cp) hb (by rfl) ?_);refine yW (E:=vh) (ys:=[(k,s)]) (by rfl) rfl zjR hp (Nat.zero_le _) (by dsimp only;rw[hlp2]at hlp;omega) (by omega) ?_;intro A' c' w3 hp3 hg3;have hb3:=hb.grown hg3.grown (fun e=>h2 e.symm);have hd3:=hd.grown hg3.grown (fun j hj e=>h3 j e hj);refine zr ?_;rw[zC];refine zQ hb3 (by show 0+3<6;omega) ?_;have hg4:=yH w3 b (0+3) (.slice A' (np+1) c');have hb4:=hb3.set (0+3) (.slice A' (np+1) c');have hb5:=(hF b).2 (.inl rfl);have hnew:∀ j,orow A'=some j->orow Ap=some j\/w2.heap.size<=j:=hg3.2;have hbl:=hb.lt;have n1:orow A'≠some b:=fun e=>by rcases hnew b e with x|x;exact h2 x;omega
 have n2:∀ j,orow Ad=some j->orow A'≠some j:=fun j hj e=>by
  rcases hnew j e with x|x
  ·exact h3 j hj x
  ·have:=hd.ye j hj;omega
 refine⟨rfl,fun j=>j=b\/orow Ad=some j\/orow A'=some j,⟨⟨Ad,A',nd,cd,np+1,c',t,hb4,hd3.grown hg4 (fun j hj e=>by injection hj with hj;subst hj;exact h1 e),hp3.grown hg4 (fun j hj e=>by injection hj with hj;subst hj;exact n1 e),fun _=>Iff.rfl,h1,n1,n2⟩,?_⟩,?_,?_⟩
 ·refine⟨hD.ok.geo,hD.ok.len,hD.ok.each,fun p hp=>?_,hD.ok.fuse⟩;rcases mem_append.1 hp with hp|hp
  ·exact hD.ok.pend p hp
  ·rw[mem_singleton.1 hp];exact⟨hth.1,hth.2,hsz⟩
 ·rintro j (rfl|hj|hj)
  ·exact .inl hb5
  ·exact .inl ((hF j).2 (.inr (.inl hj)))
  ·rcases hnew j hj with x|x
   ·exact .inl ((hF j).2 (.inr (.inr x)))
   ·exact .inr (Nat.le_trans hg.size x)
 ·refine Only.trans (Only.trans (Only.z7 hg (fun j hj=>by injection hj with hj;subst hj;exact .inl hb5)) (Only.z7 (F:=F) hg3.grown (fun j hj=>.inl ((hF j).2 (.inr (.inr hj))))) (fun j hj=>.inl hj)) (Only.z7 (F:=F) hg4 (fun j hj=>by injection hj with hj;subst hj;exact .inl hb5)) (fun j hj=>.inl hj)
theorem qs (l:List ByteArray):xL.flat l=l.map Value.string:=by
 induction l with
 |nil=>rfl
 |cons a r ih=>rw[map_cons,<- ih];rfl
theorem zny {w:World} {e:TypeId} {B:Nat} {A:Option Addr} {n c:Nat} {xs:List ByteArray} {i:Int} {s:ByteArray} {K:WP} (h:Owni xL e w B A n c xs) (h0:0<=i) (h1:i<(n:Int))
  (hK:∀ w',Owni xL e w' B A n c (xs.set i.toNat s)->w.grownBy w' (orow A)->K w'):
  (zc (0<=i/\i<((n:Nat):Int))<|zh A fun p=>stW (p.add (Int.toNat i*1)) (.string s) K) w:=by
 refine zfm (e:=e) (B:=B) (c:=c) (vs:=xL.flat xs) h h0 h1 fun w' ho hg=>hK w' ?_ (by rw[xn]at hg;exact hg);have e1:(xL.flat xs).set i.toNat (.string s)=xL.flat (xs.set i.toNat s):=by rw[qs,qs,List.map_set]
 rw[e1]at ho;exact ho
theorem zaa (l:List (Int×ByteArray)):∀ dur:List ByteArray,(l.foldl Go.Proofs.YtplgodmmmppmeaaGreat.V.put dur).length=dur.length:=by
 induction l with
 |nil=>intro dur;rfl
 |cons p r ih=>intro dur;rw[foldl_cons,ih];simp[Go.Proofs.YtplgodmmmppmeaaGreat.V.put]
theorem zcG {n:Int} (l:List (Int×ByteArray)):∀ dur:List ByteArray,(∀ s∈dur,(s.size:Int)=n)->(∀ p∈l,(p.2.size:Int)=n)->∀ s∈l.foldl Go.Proofs.YtplgodmmmppmeaaGreat.V.put dur,(s.size:Int)=n:=by
 induction l with
 |nil=>intro dur h _;exact h
 |cons p r ih=>
  intro dur h hl;rw[foldl_cons];refine ih _ (fun s hs=>?_) (fun q hq=>hl q (mem_cons_of_mem _ hq));rcases List.mem_or_eq_of_mem_set hs with hs|rfl
  ·exact h s hs
  ·exact hl p mem_cons_self
theorem zdA {w:World} {b:Nat} {d:Dev} {F:Nat->Prop} (h:xh w b d F):
  Calls prog 142 #[.pointer (some ⟨b,0,none⟩)] w (Ret fun v w'=>v=.int .i64 d.flush.2/\Step w b F d.flush.1 w'):=by
 have stay:∀ {w':World},w'=w->Step w b F d w':=fun e=>by subst e;exact⟨F,h,fun k hk=>.inl hk,Only.refl F _⟩
 apply zmC;unfold S142 Dev.flush;refine zd (by rfl) ?_;refine zb (zeP h) ?_;rintro _ w2 (⟨hz,rfl,hw⟩|⟨hz,rfl,hD,hg⟩)
 ·refine⟨_,rfl,zf (by rfl) ?_⟩;rw[if_pos hz];exact⟨rfl,stay hw⟩
 refine⟨_,rfl,zd (by rfl) ?_⟩;rw[if_neg hz];obtain⟨Ad,Ap,nd,cd,np,cp,t,hb,hd,hp,hF,h1,h2,h3⟩:=hD.mem;have hlp:d.pen.length=np:=hp.len;have hld:d.dur.length=nd:=hd.len;have hpl:=hp.sl.le;have hok:=h.ok;refine zr (zm 3 (Ap,np,cp) hb (by rfl) ?_);refine zw (fun y w'=>∃ i:Nat,i<=np/\y=((i:Int),())/\Only F w2 w'/\Blk w' b [.int .i64 d.size,.int .i64 d.blocks,.slice Ad nd cd,.slice Ap np cp,.int .i64 d.burnt.ops,.int .i64 d.burnt.fuse] t
   /\ Owni xL 9 w' 0 Ad nd cd ((d.pen.take i).foldl Go.Proofs.YtplgodmmmppmeaaGreat.V.put d.dur)/\Owni vh 230 w' 0 Ap np cp d.pen) (fun y=>(np-y.1).toNat) ⟨0,by omega,rfl,Only.refl F w2,hb,hd,hp⟩ ?_
 rintro _ w3 ⟨i,hi,rfl,hO,hb,hd,hp⟩;dsimp only
 by_cases hlt:i<np
 ·refine zf (decide_eq_true (by omega)) ?_;refine uo (ls:=[.int .i64,.str]) (fun x:Int×ByteArray=>(x.1,x.2,())) (0,ByteArray.empty) hp.sl (fun _=>rfl) rfl (by omega) (by omega) ?_;rw[Int.toNat_natCast];have e:d.pen[i]?=some (d.pen.getD i (0,ByteArray.empty)):=by rw[getD_eq_getElem?_getD,List.getElem?_eq_getElem (by omega)];rfl
  have hq:=hok.pend _ (mem_of_getElem? e);generalize d.pen.getD i (0,ByteArray.empty)=q at e hq ⊢;have hlen:=hok.len;refine yz (vs:=vh.f q) (by rfl) (vh.one q) ?_ (by rfl);intro r8 w4 hb8 he4 hr8;refine zK fun w5 he5 _ _=>?_;have he35:=he4.trans he5;have hb8:=hb8.ext he5;have hb5:=hb.ext he35;have hd5:=hd.ext he35;refine zr (zm 2 (Ad,nd,cd) hb5 (by rfl) (zF q.1 hb8 (by rfl) (zm 1 q.2 hb8 (by rfl) ?_)));dsimp only;refine zny hd5 hq.1 (by have:=hq.2.1;omega) ?_;intro w6 hd6 hg6;have hb6:=hb5.grown hg6 (fun e=>h1 e.symm);have hp6:=(hp.ext he35).grown hg6 (fun j hj e=>h3 j hj e);have efold:(d.pen.take (i+1)).foldl Go.Proofs.YtplgodmmmppmeaaGreat.V.put d.dur=Go.Proofs.YtplgodmmmppmeaaGreat.V.put ((d.pen.take i).foldl Go.Proofs.YtplgodmmmppmeaaGreat.V.put d.dur) q:=by
   rw[take_add_one,e,List.foldl_append];rfl
  refine⟨⟨i+1,by omega,by rw[wrap_i64 (by omega) (by omega)];rfl,?_,hb6,by rw[efold];exact hd6,hp6⟩,by rw[wrap_i64 (by omega) (by omega)];omega⟩;exact Only.trans (Only.trans hO (Only.zG (F:=F) he35) (fun j hj=>.inl hj)) (Only.z7 (F:=F) hg6 (fun j hj=>.inl ((hF j).2 (.inr (.inl hj))))) (fun j hj=>.inl hj)
 ·obtain rfl:i=np:=by omega
  refine zd (decide_eq_false (by omega)) (zr ?_);rw[zC];refine zQ hb (by show 0+3<6;omega) ?_;have hg7:=yH w3 b (0+3) (.slice none 0 0);have hb7:=hb.set (0+3) (.slice none 0 0);rw[take_of_length_le (by omega)]at hd;have hbF:=(hF b).2 (.inl rfl);refine⟨rfl,fun j=>j=b\/orow Ad=some j\/orow none=some j,⟨⟨Ad,none,nd,cd,0,0,t,hb7,hd.grown hg7 (fun j hj e=>by injection hj with hj;subst hj;exact h1 e),Owni.nil _ _ _,fun _=>Iff.rfl,h1,(fun e=>by cases e),(fun j hj e=>by cases e)⟩,?_⟩,?_,?_⟩
  ·exact⟨hok.geo,by show(((d.pen.foldl Go.Proofs.YtplgodmmmppmeaaGreat.V.put d.dur).length:Nat):Int)=d.blocks;rw[zaa];exact hok.len,zcG _ _ hok.each (fun p hp=>(hok.pend p hp).2.2),(fun p hp=>by cases hp),hD.ok.fuse⟩
  ·rintro j (rfl|hj|hj)
   ·exact .inl hbF
   ·exact .inl ((hF j).2 (.inr (.inl hj)))
   ·cases hj
  ·exact Only.trans (Only.trans (Only.z7 (F:=F) hg (fun j hj=>by injection hj with hj;subst hj;exact .inl hbF)) hO (fun j hj=>.inl hj)) (Only.z7 (F:=F) hg7 (fun j hj=>by injection hj with hj;subst hj;exact .inl hbF)) (fun j hj=>.inl hj)
end V
/- Ranges over functions that may be left early;iterators with a state of their own;what loops over functions leave as it was. -/
namespace V
open Go
def zoe (P:Program) (v:Value) (L:List (List Value)) (R:Nat->WP) (T:Nat->World->World):Prop:=
 ∃ f cap,v=.func (.func f) #[] cap/\enterable P f=true/\∀ (l:Nat) (J:Nat->WP) (E:WP) (w:World),J 0 w->(∀ i w',J i w'->R i w')->(∀ i w',J i w'->J i w'.drew)->
  (∀ i w' (h:i<L.length),J i w'->ja P l L[i] w' fun v w''=>(v=.bool true/\R i w''/\J (i+1) (T i w''))\/(v=.bool false/\E w''))->
  Calls P f (.func (.yield l) #[] #[]::cap.toList).toArray w (Ret fun _ w'=>J L.length w'\/E w')
theorem znz {P:Program} {v:Value} {T:Type} {vals:T->List Value} {Body:T->(WP->WP)->WP->(Code->WP)->WP} {done:Nat->Option Code->WP} {w:World} {L:List (List Value)} {R:Nat->WP} {Tr:Nat->World->World} (I:Nat->WP) (D:Code->WP) (tv:Nat->T) (htv:∀ i (hi:i<L.length),vals (tv i)=L[i])
  (hit:zoe P v L R Tr) (hR:∀ i w',I i w'->R i w') (hdr:∀ i w',I i w'->I i w'.drew)
  (hst:∀ i w' w'',yN w.heap.size (w.heap.size+1) w' w''->I i w'->I i w'')
  (hRst:∀ i w' w'',yN w.heap.size (w.heap.size+1) w' w''->R i w'->R i w'')
  (hDst:∀ c w' w'',yN w.heap.size (w.heap.size+1) w' w''->D c w'->D c w'')
  (hT:∀ i w' w'',yN w.heap.size (w.heap.size+1) w' w''->yN w.heap.size (w.heap.size+1) (Tr i w') (Tr i w''))
  (hTk:∀ i w' (k:Nat),w.heap.size<=k->(Tr i w').heap[k]?=w'.heap[k]?)
  (h0:∀ o,I 0 ((w.alloc (.deferred (some []))).alloc o))
  (hbody:∀ (i:Nat) (hi:i<L.length) (w':World) (G:WP->WP) (N:WP) (jump:Code->WP),I i w'->w.heap.size+2<=w'.heap.size->
   (∀ (K:WP) w1,I i w1->w'.heap.size<=w1.heap.size->(∀ k,k=w.heap.size\/k=w.heap.size+1->w1.heap[k]?=w'.heap[k]?)->(∀ w2,I i w2->w1.heap.size=w2.heap.size->(∀ k:Nat,k≠w.heap.size->k≠w.heap.size+1->w2.heap[k]?=w1.heap[k]?)->
    (∀ w'',R i w''/\I (i+1) (Tr i w'')->w2.heap.size<=w''.heap.size->(∀ k,k=w.heap.size\/k=w.heap.size+1->w''.heap[k]?=w2.heap[k]?)->N w'')->
    (∀ c w'',D c w''->w2.heap.size<=w''.heap.size->(∀ k,k=w.heap.size\/k=w.heap.size+1->w''.heap[k]?=w2.heap[k]?)->jump c w'')->K w2)->G K w1)->
   Body (tv i) G N jump w')
  (hdone:∀ w',I L.length w'->w.heap.size+2<=w'.heap.size->w'.heap[w.heap.size]?=some (.deferred (some []))->done w.heap.size none w')
  (hjump:∀ c w',D c w'->w.heap.size+2<=w'.heap.size->w'.heap[w.heap.size]?=some (.deferred (some []))->done w.heap.size (some c) w'):
  jc P v T vals Body done w:=by
 obtain⟨f,cap,rfl,hen,hcalls⟩:=hit;refine⟨f,cap,rfl,hen,fun rec hrec hY=>?_⟩;have hlt:∀ {w':World} {o:Obj},w'.heap[w.heap.size+1]?=some o->w.heap.size+1<w'.heap.size:=fun h=>(Array.getElem?_eq_some_iff.1 h).1;refine Calls.mono (hcalls (w.heap.size+1) (fun i w'=>I i w'/\w'.heap[w.heap.size+1]?=some (rec .ready none)/\w'.heap[w.heap.size]?=some (.deferred (some [])))
  (fun w'=>∃ c,D c w'/\w'.heap[w.heap.size+1]?=some (rec .done (some c))/\w'.heap[w.heap.size]?=some (.deferred (some []))) _ ⟨h0 _,?_,?_⟩ (fun i w' h=>hR i w' h.1) (fun i w' h=>⟨hdr i w' h.1,h.2.1,h.2.2⟩) ?_) ?_
 ·show((w.heap.push _).push _)[w.heap.size+1]?=_;rw[Array.getElem?_push];simp
 ·show((w.heap.push _).push _)[w.heap.size]?=_;rw[Array.getElem?_push,Array.getElem?_push];simp
 ·rintro i w' hi ⟨hI,hl,hd⟩
  let Q:Bool->WP:=fun b w''=>(b=true/\R i w''/\I (i+1) (Tr i w'')/\w''.heap[w.heap.size+1]?=some (rec .ready none)/\w''.heap[w.heap.size]?=some (.deferred (some [])))
   \/ (b=false/\∃ c,D c w''/\w''.heap[w.heap.size+1]?=some (rec .done (some c))/\w''.heap[w.heap.size]?=some (.deferred (some [])))
  have hb:=hbody i hi w' (fun K w1=>w1.heap[w.heap.size+1]?=some (rec .ready none)/\K (yE w1 (w.heap.size+1) (rec .busy none)))
   (fun w2=>w2.heap[w.heap.size+1]?=some (rec .busy none)/\Q true (yE w2 (w.heap.size+1) (rec .ready none)))
   (fun c w2=>w2.heap[w.heap.size+1]?=some (rec .busy none)/\Q false (yE w2 (w.heap.size+1) (rec .done (some c)))) hI (by have:=hlt hl;omega)
   (fun K w1 hI1 hs1 hk1 hG=>by
    have hl1:=hk1 (w.heap.size+1) (.inr rfl)
    rw[hl]at hl1
    have hd1:=hk1 w.heap.size (.inl rfl)
    rw[hd]at hd1
    refine⟨hl1,hG _ (hst i w1 _ (z8 (o:=rec .busy none) (.inr rfl)) hI1) (by rw[xE]) (fun k h1 h2=>zR (fun e=>h2 e.symm)) ?_ ?_⟩
    ·intro w'' hI3 hs hk
     have h1:=hk (w.heap.size+1) (.inr rfl)
     rw[xR (hlt hl1)]at h1
     have h2:=hk w.heap.size (.inl rfl)
     rw[zR (by omega),hd1]at h2
     refine⟨h1,.inl ⟨rfl,hRst _ _ _ (z8 (.inr rfl)) hI3.1,hst _ _ _ (hT i _ _ (z8 (.inr rfl))) hI3.2,xR (hlt h1),?_⟩⟩
     rw[zR (by omega)];exact h2
    ·intro c w'' hD hs hk
     have h1:=hk (w.heap.size+1) (.inr rfl)
     rw[xR (hlt hl1)]at h1
     have h2:=hk w.heap.size (.inl rfl)
     rw[zR (by omega),hd1]at h2
     refine⟨h1,.inr ⟨rfl,c,hDst _ _ _ (z8 (.inr rfl)) hD,xR (hlt h1),?_⟩⟩
     rw[zR (by omega)];exact h2)
  have:=hY (tv i) w' Q hl hb;rw[htv i hi]at this;obtain⟨fn,tmps,asg,bd,h1,h2⟩:=this;refine⟨fn,tmps,asg,bd,h1,RoundIn.mono h2 ?_⟩;rintro(v|c|_) w2 he
  ·obtain⟨b,rfl,⟨rfl,hh1,hh2,hh3,hh4⟩|⟨rfl,hh⟩⟩:=he
   ·exact .inl ⟨rfl,hh1,hh2,by rw[hTk i _ _ (by omega)];exact hh3,by rw[hTk i _ _ (by omega)];exact hh4⟩
   ·exact .inr ⟨rfl,hh⟩
  ·exact he
  ·exact he
 ·rintro(v|c|_) w3 he
  ·rcases he with ⟨hI,hl,hd⟩|⟨c,hD,hl,hd⟩
   ·refine⟨.ready,none,by simp,hl,hdone _ (hst _ _ _ (z8 (.inr rfl)) hI) (by rw[xE];have:=hlt hl;omega) ?_⟩;rw[zR (by omega)];exact hd
   ·refine⟨.done,some c,by simp,hl,hjump c _ (hDst _ _ _ (z8 (.inr rfl)) hD) (by rw[xE];have:=hlt hl;omega) ?_⟩;rw[zR (by omega)];exact hd
  ·exact he
  ·exact he
def zof (P:Program) (v:Value) (L:List (List Value)) (R:WP):Prop:=zoe P v L (fun _=>R) (fun _ w=>w)
theorem yN.ext {a:Nat} {w0 w w':World} (h:yN a (a+1) w w') (he:Ext w0 w) (ha:w0.heap.size<=a):Ext w0 w':=by
 obtain⟨h1,h2,h3,h4,h5⟩:=h;exact⟨h1.trans he.os,h2.trans he.tape,h3.trans he.output,by have:=he.size;omega,fun k hk=>(h5 k (by omega) (by omega)).trans (he.block k hk)⟩
theorem yN.blk {a r:Nat} {w w':World} {cs:List Value} {t:TypeId} (h:yN a (a+1) w w') (hb:Blk w r cs t) (hr:r<a):Blk w' r cs t:=
 (h.2.2.2.2 r (by omega) (by omega)).trans hb
theorem yN.size {a b:Nat} {w w':World} (h:yN a b w w'):w'.heap.size=w.heap.size:=h.2.2.2.1
theorem Blk.at_ {w w':World} {r:Nat} {cs:List Value} {t:TypeId} (hb:Blk w r cs t) (h:w'.heap[r]?=w.heap[r]?):Blk w' r cs t:=h.trans hb
end V
/- Contracts of the package device:Read,Image,Pending,Geo. -/
namespace V
open Go Go.Proofs Go.RowKit Crc
theorem xh.ext {w w':World} {b:Nat} {d:Dev} {F:Nat->Prop} (h:xh w b d F) (k:Ext w w'):xh w' b d F:=
 h.apart (G:=fun _=>False) (Only.zG k) (fun _ _ h=>h)
abbrev w00:Int×ByteArray:=(0,ByteArray.empty)
def zhl (r1:Nat) (A:Option Addr) (n c:Nat) (ps:List (Int×ByteArray)):WP:=fun w=>Blk w r1 [.slice A n c] 159/\Sli vh w A n ps
def zcH (ps:List (Int×ByteArray)):List (List Value):=(List.range ps.length).map fun i=>[.int .i64 ((ps.length-1-i:Nat):Int),.agg #[.int .i64 (ps.getD (ps.length-1-i) w00).1,.string (ps.getD (ps.length-1-i) w00).2]]
theorem vS (ps:List (Int×ByteArray)):(zcH ps).length=ps.length:=by simp[zcH]
theorem zhm {w:World} {A:Option Addr} {n c:Nat} {ps:List (Int×ByteArray)} (h:Sli vh w A n ps):
  Calls prog 208 #[.slice A n c] w (Ret fun v w'=>zof prog v (zcH ps) (zhl w.heap.size A n c ps)/\zhl w.heap.size A n c ps w'/\w'.heap.size=w.heap.size+1/\Ext w w'):=by
 apply znc;unfold S208;apply yJ;have he:=(Ext.refl w).alloc (.cells #[.slice A n c] 159);refine⟨⟨_,_,rfl,by kernel_rfl,fun l J E w' hJ hR hd hY=>?_⟩,⟨Blk.new w #[.slice A n c] 159,h.ext he⟩,by simp,he⟩;apply znj;unfold S219;rw[vS];obtain⟨h1,h2⟩:=hR 0 w' hJ;have hl:=h2.len;have hle:=h2.le;refine zl (x:=(A,n,c)) h1 (by rfl) ?_;dsimp only;rw[wrap_i64 (by omega) (by omega)];refine zw (fun y w'=>∃ i:Nat,i<=n/\y=((n:Int)-1-i,())/\J i w') (fun y=>(y.1+1).toNat) ⟨0,by omega,by simp,hJ⟩ ?_;rintro _ w1 ⟨i,hi,rfl,hJ⟩;dsimp only
 by_cases hlt:i<n
 ·refine zf (decide_eq_true (by omega)) ?_;obtain⟨h1,h2⟩:=hR i w1 hJ;refine zl (x:=(A,n,c)) h1 (by rfl) ?_;dsimp only;refine uo (ls:=[.int .i64,.str]) (fun x:Int×ByteArray=>(x.1,x.2,())) w00 h2 (fun _=>rfl) rfl (by omega) (by omega) ?_;have hlt':i<(zcH ps).length:=by rw[vS];omega
  refine .inr ⟨l,rfl,?_⟩;have hy:=hY i w1 hlt' hJ;have el:(zcH ps)[i]=[.int .i64 ((n:Int)-1-i),.agg #[.int .i64 (ps.getD (Int.toNat ((n:Int)-1-i)) w00).1,.string (ps.getD (Int.toNat ((n:Int)-1-i)) w00).2]]:=by
   have e1:((ps.length-1-i:Nat):Int)=(n:Int)-1-i:=by omega
   have e2:Int.toNat ((n:Int)-1-i)=ps.length-1-i:=by omega
   rw[e2,<- e1];simp[zcH]
  rw[el]at hy;obtain⟨fn,tmps,asg,bd,hy1,hy2⟩:=hy;refine⟨fn,tmps,asg,bd,hy1,RoundIn.mono hy2 ?_⟩;rintro(v|x|_) w2 hv
  ·rcases hv with ⟨rfl,_,hJ2⟩|⟨rfl,hE⟩
   ·refine⟨true,rfl,zd (by rfl) ?_⟩;rw[wrap_i64 (by omega) (by omega)];exact⟨⟨i+1,by omega,by congr 1;omega,hJ2⟩,by omega⟩
   ·exact⟨false,rfl,zf (by rfl) (.inr hE)⟩
  ·exact hv
  ·exact hv
 ·refine zd (decide_eq_false (by omega)) ?_;obtain rfl:i=n:=by omega
  rw[hl];exact .inl hJ
theorem zhn {w:World} {b:Nat} {d:Dev} {F:Nat->Prop} (h:xh w b d F):
  Calls prog 173 #[.pointer (some ⟨b,0,none⟩)] w (Ret fun v w'=>∃ A n c,zof prog v (zcH d.pen) (zhl w.heap.size A n c d.pen)/\zhl w.heap.size A n c d.pen w'/\w'.heap.size=w.heap.size+1/\Ext w w'):=by
 obtain⟨Ad,Ap,nd,cd,np,cp,t,hb,hd,hp,hF,h1,h2,h3⟩:=h.mem;apply zmU;unfold S173;refine zr (zm 3 (Ap,np,cp) hb (by rfl) ?_);refine zb (zhm hp.sl) ?_;rintro v w1 hw;exact⟨v,rfl,Ap,np,cp,hw⟩
theorem getD_set (l:List ByteArray) (i k:Nat) (x e:ByteArray):(l.set i x).getD k e=if i=k/\k<l.length then x else l.getD k e:=by
 rw[getD_eq_getElem?_getD,getD_eq_getElem?_getD,List.getElem?_set]
 by_cases hik:i=k
 ·subst hik
  by_cases hk:i<l.length
  ·simp[hk]
  ·simp[hk]
 ·rw[if_neg hik,if_neg (fun h=>hik h.1)]
theorem zcI {k:Int} (hk:0<=k) {e:ByteArray}:∀ (l:List (Int×ByteArray)) (dur:List ByteArray),(∀ p∈l,0<=p.1)->(∀ p∈l,p.1≠k)->(l.foldl Go.Proofs.YtplgodmmmppmeaaGreat.V.put dur).getD k.toNat e=dur.getD k.toNat e
 |[],_,_,_=>rfl
 |p::r,dur,h0,h=>by
  rw[foldl_cons,zcI hk r _ (fun q hq=>h0 q (mem_cons_of_mem _ hq)) (fun q hq=>h q (mem_cons_of_mem _ hq))];have h1:=h0 p mem_cons_self;have h2:=h p mem_cons_self;unfold Go.Proofs.YtplgodmmmppmeaaGreat.V.put;rw[getD_set,if_neg (by omega)]
theorem zk5 {k:Int} (hk:0<=k) {e:ByteArray} {l:List (Int×ByteArray)} {dur:List ByteArray} {j:Nat} (h0:∀ p∈l,0<=p.1) (hj:j<l.length) (hkl:k.toNat<dur.length) (he:(l.getD j w00).1=k) (hno:∀ i,j<i->i<l.length->(l.getD i w00).1≠k):
  (l.foldl Go.Proofs.YtplgodmmmppmeaaGreat.V.put dur).getD k.toNat e=(l.getD j w00).2:=by
 have e1:l=l.take j++l.getD j w00::l.drop (j+1):=by
  rw[getD_eq_getElem?_getD,List.getElem?_eq_getElem hj,Option.getD_some,<- drop_eq_getElem_cons hj,List.take_append_drop]
 generalize hq:l.getD j w00=q at e1 he ⊢;have hd:∀ p∈l.drop (j+1),p.1≠k:=by
  intro p hp;obtain⟨i,hi,rfl⟩:=mem_iff_getElem.1 hp;rw[length_drop]at hi;have:=hno (j+1+i) (by omega) (by omega);rw[getD_eq_getElem?_getD,List.getElem?_eq_getElem (by omega),Option.getD_some]at this
  simpa using this
 rw[e1,List.foldl_append,foldl_cons,zcI hk _ _ (fun p hp=>h0 p (List.mem_of_mem_drop hp)) hd];unfold Go.Proofs.YtplgodmmmppmeaaGreat.V.put;have hl:=zaa (l.take j) dur;unfold Go.Proofs.YtplgodmmmppmeaaGreat.V.put at hl;rw[getD_set,he,if_pos ⟨rfl,by rw[hl];exact hkl⟩]
theorem zjS {w:World} {b:Nat} {d:Dev} {F:Nat->Prop} (h:xh w b d F) (k:Int):
  Calls prog 137 #[.pointer (some ⟨b,0,none⟩),.int .i64 k] w (Ret fun v w'=>v=.tuple #[.string (d.read k).1,.int .i64 (d.read k).2]/\Ext w w'):=by
 apply zmx;unfold S137 Dev.read;refine zq fun r1 w1 hb1 he1 hr1 hz1=>?_;refine zq fun r2 w2 hb2 he2 hr2 hz2=>?_;refine zq fun r3 w3 hb3 he3 hr3 hz3=>?_;have hb1:=(hb1.ext he2).ext he3;have hb2:=hb2.ext he3;have he:=(he1.trans he2).trans he3;refine zd (by rfl) ?_;refine zl (x:=k) hb1 (by rfl) ?_;have hD:=h.ext he;refine zb (zdz hD k) ?_;rintro _ w4 ⟨rfl,hw⟩;refine⟨_,rfl,?_⟩;obtain rfl:w3=w4:=hw.symm;refine zg (fun hz=>?_) (fun hz=>?_)
 ·have hz:¬(0<=k/\k<d.blocks):=of_decide_eq_false (show d.there k=false by simpa using hz);rw[if_pos hz];refine zQ hb2 (by show 0<1;omega) ?_;have hb3':=hb3.other (p:=⟨r2,0,none⟩) (by show r2≠r3;omega) (.string (ByteArray.mk #[]));refine zQ hb3' (by show 0<1;omega) ?_;have hb2':=(hb2.set 0 (.string (ByteArray.mk #[]))).other (p:=⟨r3,0,none⟩) (by show r3≠r2;omega) (.int .i64 2);have hb3'':=hb3'.set 0 (.int .i64 2);refine zl (x:=ByteArray.mk #[]) hb2' (by rfl) (zl (x:=(2:Int)) hb3'' (by rfl) ?_);exact⟨rfl,(he.set (by show w.heap.size<=r2;omega) _).set (by show w.heap.size<=r3;omega) _⟩
 have hth:0<=k/\k<d.blocks:=of_decide_eq_true (show d.there k=true by simpa using hz);rw[if_neg (fun x=>x hth)];have hok:=h.ok;have hlen:=hok.len;have h0:∀ p∈d.pen,0<=p.1:=fun p hp=>(hok.pend p hp).1;refine zb (zhn hD) ?_;rintro v w4 ⟨A,n,c,hit,hRL,hs4,he4⟩;refine⟨v,rfl,?_⟩;have hr4:=hRL.1.lt
 let G:World->Prop:=fun w'=>Ext w w'/\Blk w' r1 [.int .i64 k] 3/\zhl w3.heap.size A n c d.pen w'/\w4.heap.size<=w'.heap.size
 have hG4:G w4:=⟨he.trans he4,hb1.ext he4,hRL,Nat.le_refl _⟩;have hGext:∀ {w' w'':World},G w'->Ext w' w''->G w'':=fun hg hx=>⟨hg.1.trans hx,hg.2.1.ext hx,⟨hg.2.2.1.1.ext hx,hg.2.2.1.2.ext hx⟩,Nat.le_trans hg.2.2.2 hx.size⟩;have hsame:∀ {w' w'':World},yN w4.heap.size (w4.heap.size+1) w' w''->G w'->G w'':=fun hs hg=>by
  have hx:=hs.ext hg.1 (by have:=he4.size;omega);obtain⟨g1,g2,g3,g4⟩:=hg;refine⟨hx,hs.blk g2 (by omega),⟨hs.blk g3.1 (by omega),?_⟩,by rw[hs.size];exact g4⟩;obtain⟨s1,s2,s3⟩:=g3.2;obtain⟨t1,t2,t3⟩:=hRL.2;refine⟨s1,s2,fun hn=>?_⟩;obtain⟨a,e1,e2,e3⟩:=t3 hn;refine⟨a,e1,e2,fun j v hj=>?_⟩;have hc:=e3 j v hj;have hab:(a.add j).block=a.block:=by unfold Addr.add;split<;>rfl
  have hlt:=World.block_lt_of_cell? w4 _ hc;obtain⟨a',e1',e2',e3'⟩:=s3 hn;obtain rfl:a'=a:=by rw[e1]at e1';exact(Option.some.inj e1').symm
  have hc':=e3' j v hj;unfold World.cell? at hc' ⊢;rw[hs.2.2.2.2 _ (by omega) (by omega)];exact hc'
 have hp0:∀ j,j<d.pen.length->d.pen[j]?=some (d.pen.getD j w00):=fun j hj=>by rw[getD_eq_getElem?_getD,List.getElem?_eq_getElem hj];rfl
 refine znz (fun i w'=>G w'/\Blk w' r2 [.string ByteArray.empty] 9/\Blk w' r3 [.int .i64 0] 28/\∀ j,d.pen.length-i<=j->j<d.pen.length->(d.pen.getD j w00).1≠k)
  (fun c w'=>c=.ret/\Ext w w'/\∃ s,Blk w' r2 [.string s] 9/\Blk w' r3 [.int .i64 0] 28/\s=(d.pen.foldl Go.Proofs.YtplgodmmmppmeaaGreat.V.put d.dur).getD k.toNat ByteArray.empty)
  (fun i=>(((d.pen.length-1-i:Nat):Int),((d.pen.getD (d.pen.length-1-i) w00).1,(d.pen.getD (d.pen.length-1-i) w00).2,()),())) ?_ hit ?_ ?_ ?_ ?_ ?_ ?_ ?_ ?_ ?_ ?_ ?_
 ·intro i hi;simp[zcH]
 ·intro i w' hI;exact hI.1.2.2.1
 ·intro i w' hI;exact⟨hGext hI.1 ((Ext.refl _).drew),hI.2.1,hI.2.2.1,hI.2.2.2⟩
 ·intro i w' w'' hs hI;exact⟨hsame hs hI.1,hs.blk hI.2.1 (by omega),hs.blk hI.2.2.1 (by omega),hI.2.2.2⟩
 ·intro i w' w'' hs hR;refine⟨hs.blk hR.1 (by omega),?_⟩;obtain⟨s1,s2,s3⟩:=hR.2;obtain⟨t1,t2,t3⟩:=hRL.2;refine⟨s1,s2,fun hn=>?_⟩;obtain⟨a,e1,e2,e3⟩:=t3 hn;refine⟨a,e1,e2,fun j v hj=>?_⟩;have hc:=e3 j v hj;have hlt:=World.block_lt_of_cell? w4 _ hc;obtain⟨a',e1',e2',e3'⟩:=s3 hn;obtain rfl:a'=a:=by rw[e1]at e1';exact(Option.some.inj e1').symm
  have hc':=e3' j v hj;unfold World.cell? at hc' ⊢;rw[hs.2.2.2.2 _ (by omega) (by omega)];exact hc'
 ·rintro c w' w'' hs ⟨rfl,hx,s,g1,g2,g3⟩;exact⟨rfl,hs.ext hx (by have:=he4.size;have:=he.size;omega),s,hs.blk g1 (by omega),hs.blk g2 (by omega),g3⟩
 ·intro i w' w'' hs;exact hs
 ·intro i w' k hk;rfl
 ·intro o;have hx:Ext w4 ((w4.alloc (.deferred (some []))).alloc o):=((Ext.refl w4).alloc _).alloc _;exact⟨hGext hG4 hx,(hb2.ext he4).ext hx,(hb3.ext he4).ext hx,fun j hj hj2=>by omega⟩
 ·intro i hi w' G' N jump hI hsz hG';rw[vS]at hi;obtain⟨hI1,hI2,hI3,hI4⟩:=hI;dsimp only;refine yz (vs:=vh.f (d.pen.getD (d.pen.length-1-i) w00)) (by rfl) (vh.one _) ?_ (by rfl);intro r17 w5 hb17 he5 hr17;have hk5:∀ k:Nat,k=w4.heap.size\/k=w4.heap.size+1->w5.heap[k]?=w'.heap[k]?:=fun k hk=>he5.block k (by omega);refine hG' _ w5 ⟨hGext hI1 he5,hI2.ext he5,hI3.ext he5,hI4⟩ he5.size hk5 ?_;intro w6 hI6 hsz6 hk6 hN hJ;obtain⟨hI1,hI2,hI3,hI4⟩:=hI6;have hb17:=hb17.at_ (hk6 r17 (by omega) (by omega));have hb17lt:=hb17.lt;refine zl (x:=(d.pen.getD (d.pen.length-1-i) w00).1) hb17 (by rfl) ?_;refine zl (x:=k) hI1.2.1 (by rfl) ?_;refine zg (fun hz=>?_) (fun hz=>?_)
  ·have hz:=beq_iff_eq.1 hz;refine zm 1 (d.pen.getD (d.pen.length-1-i) w00).2 hb17 (by rfl) ?_;refine zQ hI2 (by show 0<1;omega) ?_;have hb3':=hI3.other (p:=⟨r2,0,none⟩) (by show r2≠r3;omega) (.string (d.pen.getD (d.pen.length-1-i) w00).2);refine zQ hb3' (by show 0<1;omega) ?_;have hb2':=(hI2.set 0 (.string (d.pen.getD (d.pen.length-1-i) w00).2)).other (p:=⟨r3,0,none⟩) (by show r3≠r2;omega) (.int .i64 0);have hb3'':=hb3'.set 0 (.int .i64 0);refine hJ .ret _ ⟨rfl,(hI1.1.set (by show w.heap.size<=r2;omega) _).set (by show w.heap.size<=r3;omega) _,_,hb2',hb3'',?_⟩ (by simp) (fun k hk=>?_)
   ·refine(zk5 hth.1 h0 (by omega) (by omega) hz (fun j hj hj2=>hI4 j (by omega) hj2)).symm
   ·rw[Below.heap_setCell _ _ _ _ (by show k≠r3;omega),Below.heap_setCell _ _ _ _ (by show k≠r2;omega)]
  ·have hz:=beq_eq_false_iff_ne.1 hz;refine hN w6 ⟨hI1.2.2.1,hI1,hI2,hI3,fun j hj hj2=>?_⟩ (Nat.le_refl _) (fun _ _=>rfl)
   by_cases hjj:j=d.pen.length-1-i
   ·rw[hjj];exact hz
   ·exact hI4 j (by omega) hj2
 ·rintro w' ⟨hI1,hI2,hI3,hI4⟩ hsz hdf;rw[vS]at hI4;rw[qG];refine zK fun w5 he5 hs5 hk5=>?_;have hx:Ext w w5:=hI1.1.trans he5;obtain⟨Ad,Ap,nd,cd,np,cp,t,hb,hd,hp,hF,g1,g2,g3⟩:=(h.ext hx).mem;have hdl:=hd.len;refine zr (zm 2 (Ad,nd,cd) hb (by rfl) (zl (x:=k) (hI1.2.1.ext he5) (by rfl) ?_));dsimp only;refine zi4 hd.sl hth.1 (by omega) ?_;have hI2:=hI2.ext he5;have hI3:=hI3.ext he5;refine zQ hI2 (by show 0<1;omega) ?_;have hb3':=hI3.other (p:=⟨r2,0,none⟩) (by show r2≠r3;omega) (.string (d.dur.getD k.toNat ByteArray.empty));refine zQ hb3' (by show 0<1;omega) ?_;have hb2':=(hI2.set 0 (.string (d.dur.getD k.toNat ByteArray.empty))).other (p:=⟨r3,0,none⟩) (by show r3≠r2;omega) (.int .i64 0);have hb3'':=hb3'.set 0 (.int .i64 0);have hx2:=(hx.set (p:=⟨r2,0,none⟩) (by show w.heap.size<=r2;omega) (.string (d.dur.getD k.toNat ByteArray.empty))).set (p:=⟨r3,0,none⟩) (by show w.heap.size<=r3;omega) (.int .i64 0);refine jg ?_ ?_
  ·rw[Below.heap_setCell _ _ _ _ (by show w4.heap.size≠r3;omega),Below.heap_setCell _ _ _ _ (by show w4.heap.size≠r2;omega),hk5];exact hdf
  have hsb:=z8 (a:=w4.heap.size) (b:=w4.heap.size+1) (w:=(w5.setCell ⟨r2,0,none⟩ (.string (d.dur.getD k.toNat ByteArray.empty))).setCell ⟨r3,0,none⟩ (.int .i64 0)) (o:=.deferred none) (.inl rfl);refine zl (x:=d.dur.getD k.toNat ByteArray.empty) (hsb.blk hb2' (by omega)) (by rfl) (zl (x:=(0:Int)) (hsb.blk hb3'' (by omega)) (by rfl) ?_);refine⟨?_,hsb.ext hx2 (by have:=he4.size;have:=he.size;omega)⟩;rw[zcI hth.1 _ _ h0 (fun p hp=>?_)];obtain⟨j,hj,rfl⟩:=mem_iff_getElem.1 hp;have:=hI4 j (by omega) hj;rw[getD_eq_getElem?_getD,List.getElem?_eq_getElem hj]at this;exact this
 ·rintro c' w' ⟨rfl,hx,s,hb2',hb3',rfl⟩ hsz hdf;rw[qG];refine jg hdf ?_;have hsb:=z8 (a:=w4.heap.size) (b:=w4.heap.size+1) (w:=w') (o:=.deferred none) (.inl rfl);refine zl (x:=(d.pen.foldl Go.Proofs.YtplgodmmmppmeaaGreat.V.put d.dur).getD k.toNat ByteArray.empty) (hsb.blk hb2' (by omega)) (by rfl) (zl (x:=(0:Int)) (hsb.blk hb3' (by omega)) (by rfl) ?_);exact⟨rfl,hsb.ext hx (by have:=he4.size;have:=he.size;omega)⟩
end V
/- Contracts of the package device:Image,Pending,Geo,New,Load,Rot. -/
namespace V
open Go Go.Proofs Go.RowKit Crc
theorem zcJ:Elem prog 158 9 (.string ByteArray.empty) 16:=⟨by kernel_rfl,by kernel_rfl,by kernel_rfl⟩
theorem vY {w:World} {b:Nat} {d:Dev} {F:Nat->Prop} (h:xh w b d F):
  Calls prog 35 #[.pointer (some ⟨b,0,none⟩)] w (Ret fun v w'=>v=.agg #[.int .i64 d.size,.int .i64 d.blocks]/\Ext w w'):=by
 apply zoP;unfold S35;refine zq fun r1 w1 hb1 he1 hr1 hz1=>?_;obtain⟨Ad,Ap,nd,cd,np,cp,t,hb,hd,hp,hF,h1,h2,h3⟩:=(h.ext he1).mem;refine zd (by rfl) (zr ?_);refine qj (ls:=[.int .i64,.int .i64]) (x:=(d.size,d.blocks,())) ⟨by rw[zC,hb.cell];rfl,by rw[zC,hb.cell];rfl,trivial⟩ ?_;refine refill (vs:=[.int .i64 d.size,.int .i64 d.blocks]) hb1 (by rfl) (by intro v hv;simp at hv;rcases hv with rfl|rfl<;>rfl) (by rfl) ?_;intro w2 hb2 hx2 hk2 hs2;refine zZ (ls:=[.int .i64,.int .i64]) (d.size,d.blocks,()) hb2 rfl ?_;exact⟨rfl,hx2 w he1 (by omega)⟩
theorem zk6 (w:World) (x y:Nat) (hx:x<18446744073709551616) (hy:y<18446744073709551616):Calls prog 158 #[.int .u64 x,.int .u64 y] w (Ret fun v w'=>v=.tuple #[.int .u64 ((x*y / 18446744073709551616:Nat):Int),.int .u64 ((x*y % 18446744073709551616:Nat):Int)]/\w'=w):=
 (Tryz.bits_Mul x y hx hy w).mono (by rintro e w' ⟨rfl,h⟩;exact⟨rfl,h⟩)
theorem znA {s z:ByteArray} {n c:Nat} (hn:n<=c) {m:Nat} (hm:m=min n (c-n)):
  (xL.flat (List.replicate n s++List.replicate (c-n) z)).take n++((xL.flat (List.replicate n s)).take m)++(xL.flat (List.replicate n s++List.replicate (c-n) z)).drop (n+m)=xL.flat (List.replicate (n+m) s++List.replicate (c-(n+m)) z):=by
 simp only [qs,map_append,List.map_replicate];rw[take_left' (by simp),List.drop_append,List.take_replicate,List.drop_replicate,List.drop_replicate,show min m n=m by omega,show n-(n+m)=0 by omega,List.replicate_zero,List.nil_append,length_replicate,
  List.replicate_append_replicate,show c-n-(n+m-n)=c-(n+m) by omega]
theorem zk7 {w:World} {A:Option Addr} {c k:Nat} {s:ByteArray} (h:Sli xL w A 1 [s]) (h1:1<=k) (hk:k<=1000000):
  Calls prog 112 #[.slice A 1 c,.int .i64 (k:Int)] w (Ret fun v w'=>∃ A',v=.slice A' k k/\Owni xL 9 w' w.heap.size A' k k (List.replicate k s)/\Ext w w'):=by
 apply zmh;unfold S112;refine zi1 fun J hJ=>zd (decide_eq_false (by omega)) (hJ () _ ?_);rw[zD (by omega),zD (by omega)];refine zb (zk6 w 1 k (by omega) (by omega)) ?_;rintro _ w1 ⟨rfl,hw⟩;subst hw;rw[Nat.one_mul,Nat.div_eq_of_lt (by omega),Nat.mod_eq_of_lt (by omega)];refine⟨((0:Nat),(k:Nat),()),rfl,?_⟩;dsimp only;refine zi1 fun J hJ=>zd (by rfl) (zd (decide_eq_false (by omega)) (hJ () _ ?_));rw[wrap_i64 (by omega) (by omega)];refine vG (z:=.string ByteArray.empty) zcJ (by rfl) (Nat.le_refl _) (by omega) (by omega) ?_;intro w2 ho2 hg2;have he2:Ext w1 w2:=(Ext.refl w1).none hg2;have hb2:=zbz ho2;have e0:List.replicate k (Value.string ByteArray.empty)=xL.flat (List.replicate 0 s++List.replicate (k-0) ByteArray.empty):=by rw[qs];simp
 dsimp only;have hA:A≠none:=by
  obtain⟨a,h2,_⟩:=h.2.2 (by omega);rw[h2];simp
 have hsl:Sl w2 A 1 [.string s]:=by
  obtain⟨p1,p2,p3⟩:=h.ext he2;exact⟨rfl,by omega,fun hn=>by obtain⟨a,q1,_,q2⟩:=p3 hn;exact⟨a,q1,q2⟩⟩
 refine zja (o:=0) (n:=k) zcJ hb2 hsl (by intro y hy;simp at hy;subst hy;rfl) (by simp;omega) hA ?_;intro w3 hb3 hg3;have he3:Ext w1 w3:=he2.grown hg3 (fun j hj=>by injection hj with hj;omega);rw[show min 1 k=1 by omega]at hb3 ⊢;have hb3:Blk w3 w1.heap.size (xL.flat (List.replicate 1 s++List.replicate (k-1) ByteArray.empty)) 9:=by
  have e:List.take 0 (List.replicate k (Value.string ByteArray.empty))++List.take 1 [Value.string s]++List.drop (0+1) (List.replicate k (Value.string ByteArray.empty))=xL.flat (List.replicate 1 s++List.replicate (k-1) ByteArray.empty):=by
   rw[qs];simp
  rw[<- e];exact hb3
 refine zw (fun y w'=>∃ i:Nat,1<=i/\i<=k/\y=((i:Int),())/\Blk w' w1.heap.size (xL.flat (List.replicate i s++List.replicate (k-i) ByteArray.empty)) 9/\Ext w1 w') (fun y=>(k-y.1).toNat) ⟨1,by omega,h1,rfl,hb3,he3⟩ ?_;rintro _ w4 ⟨i,hi1,hi,rfl,hb4,he4⟩;dsimp only
 by_cases hlt:i<k
 ·refine zf (decide_eq_true (by omega)) ?_;refine zK fun w5 he5 _ _=>?_;have hb5:=hb4.ext he5;refine zL (by omega) (zL (by omega) ?_);rw[Int.toNat_natCast];have hcut:zo (some (⟨w1.heap.size,0,none⟩:Addr)) i k 1=some ⟨w1.heap.size,i,none⟩:=by
   unfold zo;rw[if_neg (by omega)];simp[zC]
  have hcut0:zo (some (⟨w1.heap.size,0,none⟩:Addr)) 0 k 1=some ⟨w1.heap.size,0,none⟩:=by
   unfold zo;rw[if_neg (by omega)];simp[zC]
  rw[hcut,hcut0];have hsl5:Sl w5 (some ⟨w1.heap.size,0,none⟩) i (xL.flat (List.replicate i s)):=by
   refine⟨by rw[qs];simp,by omega,fun _=>⟨_,rfl,fun j v hj=>?_⟩⟩;rw[zC,hb5.cell,Nat.zero_add,qs,map_append,List.getElem?_append_left (by rw[qs]at hj;exact(List.getElem?_eq_some_iff.1 hj).1),<- qs];exact hj
  refine zja (n:=k-i) zcJ hb5 hsl5 (xL.zd0 _) (by rw[qs];simp;omega) (by simp) ?_;intro w6 hb6 hg6;rw[znA (by omega) rfl]at hb6;refine⟨⟨i+min i (k-i),by omega,by omega,by rw[wrap_i64 (by omega) (by omega)];simp,hb6,(he4.trans he5).grown hg6 (fun j hj=>by injection hj with hj;omega)⟩,by rw[wrap_i64 (by omega) (by omega)];omega⟩
 ·obtain rfl:i=k:=by omega
  refine zd (decide_eq_false (by omega)) ?_;refine⟨_,rfl,kv ?_ (by simp) (by omega) (Nat.le_refl _),he4⟩
  simpa using hb4
end V
/- Contracts of the package device:New,Load,Rot. -/
namespace V
open Go Go.Proofs Go.RowKit Crc
def yI (n:Nat):ByteArray:=mkB (List.replicate n 0)
theorem zbI (n:Nat):(yI n).size=n:=by rw[yI,xz];simp
def zd5 (size blocks:Int):Dev:=⟨size,blocks,List.replicate blocks.toNat (yI size.toNat),[],0,-1⟩
theorem zbJ {size blocks:Int} (h:yc size blocks=true):128<=size/\size<=4096/\size % 64=0/\8<=blocks/\blocks<=4096:=by
 unfold yc at h;obtain⟨h1,h2,h3,h4,h5⟩:=of_decide_eq_true h;rw[Int.tmod_eq_emod_of_nonneg (by omega)]at h3;omega
theorem zjd {size blocks:Int} (h:yc size blocks=true):(zd5 size blocks).Ok:=by
 have:=zbJ h;refine⟨h,?_,?_,(fun p hp=>by cases hp),(by show(-1:Int)<=-1;omega),(by show(-1:Int)<9223372036854775808;omega)⟩
 ·show((List.replicate blocks.toNat (yI size.toNat)).length:Int)=blocks;rw[length_replicate];omega
 ·intro s hs;rw[(List.mem_replicate.1 hs).2,zbI];show((size.toNat:Nat):Int)=size;omega
def zho (w:World) (d:Dev) (b:Nat) (w':World):Prop:=∃ F:Nat->Prop,xh w' b d F/\(∀ k,F k->w.heap.size<=k)/\Ext w w'
theorem zk8 {w:World} {b nd cd:Nat} {Ad:Option Addr} {t:TypeId} {d:Dev} (hb:Blk w b [.int .i64 d.size,.int .i64 d.blocks,.slice Ad nd cd,.slice none 0 0,.int .i64 d.ops,.int .i64 d.fuse] t)
  (hd:Owni xL 9 w 0 Ad nd cd d.dur) (hp:d.pen=[]) (hne:orow Ad≠some b) (hok:d.Ok):xh w b d (fun k=>k=b\/orow Ad=some k\/orow none=some k):=by
 refine⟨⟨Ad,none,nd,cd,0,0,t,hb,hd,?_,fun k=>Iff.rfl,hne,(fun e=>by cases e),(fun j hj e=>by cases e)⟩,hok⟩;rw[hp];exact Owni.nil _ _ _
theorem zpF (n:Nat):Lib.repeatL [0] n=List.replicate n (0:UInt8):=by
 induction n with
 |zero=>rfl
 |succ n ih=>rw[Lib.repeatL,ih,List.replicate_succ];rfl
theorem zjT (w:World) (size blocks:Int):
  Calls prog 68 #[.agg #[.int .i64 size,.int .i64 blocks]] w (Ret fun v w'=>(yc size blocks=true/\∃ b,v=.tuple #[.pointer (some ⟨b,0,none⟩),.int .i64 0]/\zho w (zd5 size blocks) b w')\/(yc size blocks=false/\v=.tuple #[.pointer none,.int .i64 2]/\Ext w w')):=by
 apply zpa;unfold S68;refine zq fun r1 w1 hb1 he1 hr1 hz1=>?_;have hb1:Blk w1 r1 [.int .i64 size,.int .i64 blocks] 72:=hb1;refine zZ (ls:=[.int .i64,.int .i64]) (size,blocks,()) hb1 rfl ?_;refine zb (qt w1 size blocks) ?_;rintro _ w2 ⟨rfl,he2⟩;refine⟨_,rfl,?_⟩;have hb2:=hb1.ext he2;cases hok:yc size blocks with
 |false=>exact zf (by rfl) (.inr ⟨rfl,rfl,he1.trans he2⟩)
 |true=>
  have hg:=zbJ hok;refine zd (by rfl) ?_;refine zK fun w3 he3 _ _=>?_;have hb3:=hb2.ext he3;refine zZ (ls:=[.int .i64,.int .i64]) (size,blocks,()) hb3 rfl ?_;refine zF size hb3 (by rfl) (zm 1 blocks hb3 (by rfl) ?_);have hr:=Tryz.strings_Repeat (ByteArray.mk #[0]) size.toNat w3 (by omega) (by show 1*size.toNat<=_;omega);rw[Int.toNat_of_nonneg (by omega),show(ByteArray.mk #[0]).data.toList=[0] from rfl,zpF]at hr;refine zb (R:=fun v w'=>v=.string (yI size.toNat)/\Ext w3 w') (hr.mono (by rintro e w' ⟨rfl,h⟩;exact⟨rfl,h⟩)) ?_;rintro _ w4 ⟨rfl,he4⟩;refine⟨_,rfl,?_⟩;have hb4:=hb3.ext he4;refine jD (yS hb4 (by rfl)) (za9 hb4) ?_;refine zq fun r8 w5 hb8 he5 hr8 hz8=>?_;have hb5:=hb4.ext he5;refine jD (yS hb5 (by rfl)) (za9 hb5) ?_;have hs8:Sli xL w5 (some ⟨r8,0,none⟩) 1 [yI size.toNat]:=Sli.xC (E:=xL) (xs:=[yI size.toNat]) hb8 rfl (by omega);have hrep:=zk7 (c:=1) (k:=blocks.toNat) hs8 (by omega) (by omega);rw[Int.toNat_of_nonneg (by omega)]at hrep;refine zb hrep ?_;rintro _ w6 ⟨A,rfl,ho,he6⟩;refine⟨(A,_,_),rfl,?_⟩;have hb6:=hb5.ext he6;refine xO (za9 hb6) ?_;refine zq fun r10 w7 hb10 he7 hr10 hz10=>?_;have hb10:Blk w7 r10 [.int .i64 size,.int .i64 blocks,.slice A blocks.toNat blocks.toNat,.slice none 0 0,.int .i64 0,.int .i64 (-1)] 163:=hb10;have hall:=((((((he1.trans he2).trans he3).trans he4).trans he5).trans he6).trans he7);have hpre:=(((((he1.trans he2).trans he3).trans he4).trans he5));have hlt:∀ j,orow A=some j->j<w6.heap.size:=ho.ye;refine .inl ⟨rfl,r10,rfl,_,zk8 (d:=zd5 size blocks) hb10 ((ho.ext he7).lower (Nat.zero_le _)) rfl (fun e=>by have:=hlt _ e;omega) (zjd hok),?_,hall⟩;rintro k (rfl|hk|hk)
  ·have:=(hpre.trans he6).size;omega
  ·have:=ho.row k hk;have:=hpre.size;omega
  ·cases hk
end V
/- Contracts of the package frame,and of the document's answer (4). -/
namespace V
open Go Go.Proofs Go.RowKit Crc
abbrev fLs:List Lf:=[.int .u8,.int .u64,.str]
theorem znB {w:World} {r:Nat} {cs:List Value} {t:TypeId} {f:Fra} {K:(Int×Int×ByteArray×Unit)->WP} {us:Array Value} (hb:Blk w r cs t) (hl:cs.length=3) (hu:us.size=3)
  (hK:∀ w',Blk w' r (fV f) t->(∀ w0,Ext w0 w->w0.heap.size<=r->Ext w0 w')->(∀ k:Nat,k≠r->w'.heap[k]?=w.heap[k]?)->w'.heap.size=w.heap.size->K (fT f) w'):
  (zc (us.size=3)<|zu (aD r) (fV f)<|zk fLs (aD r) K) w:=
 refill (vs:=fV f) hb (by rw[hl];rfl) (zk2 f) hu fun w' hb' hx hs hz=>zZ (ls:=fLs) (fT f) hb' rfl (hK w' hb' hx hs hz)
theorem zqZ {w:World} {r:Nat} {t:TypeId} {f:Fra} {K:(Int×Int×ByteArray×Unit)->WP} (hb:Blk w r (fV f) t)
  (hK:∀ w',(∀ w0,Ext w0 w->w0.heap.size<=r->Ext w0 w')->K (fT f) w'):
  (zk fLs (aD r) fun(u:Int×Int×ByteArray×Unit)=>zc ((#[(.int .u8 u.1),(.int .u64 u.2.1),(.string u.2.2.1)]:Array Value).size=3)<|zu (aD r) [(.int .u8 u.1),(.int .u64 u.2.1),(.string u.2.2.1)]<|zk fLs (aD r) K) w:=
 zZ (ls:=fLs) (fT f) hb rfl (znB (f:=f) hb rfl rfl fun w' _ hx _ _=>hK w' hx)
theorem boxed {w:World} {t:TypeId} {f:Fra} {K:Nat->WP} (hK:∀ r w',Blk w' r (fV f) t->Ext w w'->w.heap.size<=r->K r w'):
  (zi (.cells #[(.int .u8 (0:Int)),(.int .u64 (0:Int)),(.string ByteArray.empty)] t) fun r=>zc ((#[(.int .u8 (fT f).1),(.int .u64 (fT f).2.1),(.string (fT f).2.2.1)]:Array Value).size=3)<|zu (aD r) [(.int .u8 (fT f).1),(.int .u64 (fT f).2.1),(.string (fT f).2.2.1)] (K r)) w:=
 yz (vs:=fV f) (by rfl) (zk2 f) (fun r w' hb he hr=>hK r w' hb he hr) (by rfl)
theorem zqM {w:World} {A:Option Addr} {n:Nat} {bs:List UInt8} {a:Addr} {K:WP} (h:Sl w A n (bV bs)) (hA:A=some a) (hn:0<n) (hK:K w):zt [[((a.add (Int.toNat (0:Int)*1)),(.int .u8 ((bs.getD 0 0).toNat:Int)))]] K w:=by
 refine⟨fun l hl p hp=>?_,hK⟩;simp only [mem_singleton]at hl;subst hl;simp only [mem_singleton]at hp;subst hp;have hl:=h.blen;obtain⟨a',e,hc⟩:=h.2.2 hn;rw[hA]at e;injection e with e
 subst e;have:=hc 0 (.int .u8 ((bs.getD 0 0).toNat:Int)) (by simp[bV,show 0<bs.length by omega]);exact this
structure Looks (w:World) (A:Option Addr) (n c:Nat) (bs:List UInt8):Prop where
 sl:Sl w A n (bV bs)
 nc:n<=c
 big:128<=n/\n<=4096
theorem Looks.body {w:World} {A:Option Addr} {n c:Nat} {bs:List UInt8} (h:Looks w A n c bs):Sl w (zo A 0 c 1) (n-4) (bV (bs.take (bs.length-4))):=by
 have:=h.sl.zfl (k:=n-4) (m:=c) (by have:=h.big;omega) (by have:=h.big;have:=h.nc;omega);rw[jf]at this;rw[h.sl.blen];exact this
theorem Looks.part {w:World} {A:Option Addr} {n c:Nat} {bs:List UInt8} (h:Looks w A n c bs) {l k:Nat} (hl:l+k<=n) (hk:0<k):Sl w (zo A l c 1) k (bV ((bs.drop l).take k)):=by
 have:=h.sl.cut (l:=l) (k:=k) (m:=c) (by omega) (by have:=h.nc;omega);rw[vF,jf]at this;exact this
theorem Looks.tail {w:World} {A:Option Addr} {n c:Nat} {bs:List UInt8} (h:Looks w A n c bs):Sl w (zo A (n-4) c 1) (n-(n-4)) (bV (bs.drop (bs.length-4))):=by
 have:=h.part (l:=n-4) (k:=n-(n-4)) (by have:=h.big;omega) (by have:=h.big;omega);have hl:=h.sl.blen;rw[take_of_length_le (by simp;have:=h.big;omega)]at this;rw[hl];exact this
theorem Looks.ext {w w':World} {A:Option Addr} {n c:Nat} {bs:List UInt8} (h:Looks w A n c bs) (he:Ext w w'):Looks w' A n c bs:=⟨h.sl.ext he,h.nc,h.big⟩
theorem zql {bs:List UInt8} (h:zI bs.length=0):yn bs=(ui,2):=by unfold yn;rw[if_pos h]
theorem zpG {bs:List UInt8} (h:zI bs.length≠0) (h1:(crc (bs.take (bs.length-4))).toNat≠lev (bs.drop (bs.length-4))):yn bs=(ui,10):=by unfold yn;rw[if_neg h,if_pos h1]
theorem zqm {bs:List UInt8} (h:zI bs.length≠0) (h1:(crc (bs.take (bs.length-4))).toNat=lev (bs.drop (bs.length-4))) (h2:(lev ((bs.drop 2).take 2):Int)>zI bs.length):yn bs=(ui,4):=by unfold yn;rw[if_neg h,if_neg (by simp[h1]),if_pos h2]
theorem zpH {bs:List UInt8} (h:zI bs.length≠0) (h1:(crc (bs.take (bs.length-4))).toNat=lev (bs.drop (bs.length-4))) (h2:¬(lev ((bs.drop 2).take 2):Int)>zI bs.length) (h3:xy bs.length (xq bs)≠(bs,0)):yn bs=(ui,4):=by unfold yn;rw[if_neg h,if_neg (by simp[h1]),if_neg h2,if_neg h3]
theorem zqn {bs:List UInt8} (h:zI bs.length≠0) (h1:(crc (bs.take (bs.length-4))).toNat=lev (bs.drop (bs.length-4))) (h2:¬(lev ((bs.drop 2).take 2):Int)>zI bs.length) (h3:xy bs.length (xq bs)=(bs,0)):yn bs=(xq bs,0):=by unfold yn;rw[if_neg h,if_neg (by simp[h1]),if_neg h2,if_pos h3]
theorem zdb {bs:List UInt8} (h:bs.length<=4):lev bs<4294967296:=by
 have:=jM bs;have:256 ^ bs.length<=256 ^ 4:=Nat.pow_le_pow_right (by omega) h;omega
theorem zjU (w:World) (s:ByteArray) (hs:s.size<=9223372036854775807):Calls prog 174 #[.string s] w (Ret fun v w'=>v=.tuple #[.agg (fV (yn (B s)).1).toArray,.int .i64 (yn (B s)).2]/\Ext w w'):=by
 apply zmV;unfold S174;have hsz:=yi s;refine zq fun r1 w1 hb1 he1 hr1 _=>?_;have hb1:Blk w1 r1 (fV ui) 127:=hb1;refine zb (jq w1 (s.size:Nat)) ?_;rintro _ w2 ⟨rfl,he2⟩;refine⟨_,rfl,?_⟩;have hb1:=hb1.ext he2;have he2:=he1.trans he2;have hr1':w.heap.size<=r1:=by omega
 have done:∀ {w':World} {f:Fra} {e:Int},Ext w w'->Blk w' r1 (fV f) 127->yn (B s)=(f,e)->
   (zk fLs (aD r1) fun(u:Int×Int×ByteArray×Unit)=>zc ((#[(.int .u8 u.1),(.int .u64 u.2.1),(.string u.2.2.1)]:Array Value).size=3)<|zu (aD r1) [(.int .u8 u.1),(.int .u64 u.2.1),(.string u.2.2.1)]<|zk fLs (aD r1) fun(u:Int×Int×ByteArray×Unit)=>fun w''=>Value.tuple #[(.agg #[(.int .u8 u.1),(.int .u64 u.2.1),(.string u.2.2.1)]),(.int .i64 e)]=.tuple #[.agg (fV (yn (B s)).1).toArray,.int .i64 (yn (B s)).2]/\Ext w w'') w':=fun {w' f e} he hb hg=>
  zqZ hb fun w'' hx=>⟨by rw[hg];rfl,hx w he hr1'⟩
 rw[hsz]at hs ⊢;rcases uX (B s).length with h0|⟨h0,h1,h2,hgeo⟩
 ·rw[h0];exact zf (by rfl) (done he2 hb1 (zql h0))
 refine zd (by rw[beq_eq_false_iff_ne];omega) ?_;have hne:zI (B s).length≠0:=by omega
 refine vf (u:=.string) (e:=5) (by kernel_rfl) (by kernel_rfl) (by kernel_rfl) (by omega) ?_;intro c w3 hsl he3 hs3 hc;have hL:Looks w3 (some ⟨w2.heap.size,0,none⟩) s.size c (B s):=⟨hsl,hc,by omega⟩;rw[hsz]at hL;have hb1:=hb1.ext he3;have he3:=he2.trans he3;refine zK fun w4 he4 _ _=>?_;have hL:=hL.ext he4;have hb1:=hb1.ext he4;have he4:=he3.trans he4;dsimp only;rw[hsz];generalize hA:(some (⟨w2.heap.size,0,none⟩:Addr))=A at hL ⊢;rw[wrap_i64 (x:=((B s).length:Int)-4) (by omega) (by omega),show Int.toNat (((B s).length:Int)-4)=(B s).length-4 by omega];refine zL ⟨by omega,by omega⟩ (zL ⟨by omega,by omega⟩ ?_);refine zb (zf2 hL.body) ?_;rintro _ w5 ⟨rfl,he5⟩;refine⟨_,rfl,?_⟩;have hL:=hL.ext he5;have hb1:=hb1.ext he5;have he5:=he4.trans he5;refine zb (qT hL.tail (by omega)) ?_;rintro _ w6 ⟨rfl,he6⟩;refine⟨_,rfl,?_⟩;have hL:=hL.ext he6;have hb1:=hb1.ext he6;have he6:=he5.trans he6;have hclt:=(crc ((B s).take ((B s).length-4))).isLt;rw[zD (by omega)];refine zg (fun hbad=>?_) (fun hok=>?_)
 ·have hbad:=bne_iff_ne.1 hbad;exact done he6 hb1 (zpG hne (fun e=>hbad (by rw[e])))
 have hok:(crc ((B s).take ((B s).length-4))).toNat=lev ((B s).drop ((B s).length-4)):=by have:=bne_eq_false_iff_eq.1 hok;omega
 refine zL ⟨by omega,by omega,by omega⟩ ?_;have hp2:=hL.part (l:=2) (k:=2) (by omega) (by omega);refine zb (qT (c:=c-Int.toNat 2) hp2 (by omega)) ?_;rintro _ w7 ⟨rfl,he7⟩;refine⟨_,rfl,?_⟩;have hL:=hL.ext he7;have hb1:=hb1.ext he7;have he7:=he6.trans he7;have hk:=zdb (bs:=((B s).drop 2).take 2) (by simp;omega);rw[wrap_i64 (x:=(lev (((B s).drop 2).take 2):Int)) (by omega) (by omega)];refine zg (fun hbig=>?_) (fun hfit=>?_)
 ·exact done he7 hb1 (zqm hne hok (of_decide_eq_true hbig))
 have hfit:=of_decide_eq_false hfit;refine zK fun w8 he8 _ _=>?_;have hL:=hL.ext he8;have hb1:=hb1.ext he8;have he8:=he7.trans he8;refine zL ⟨by omega,by omega⟩ ?_;obtain⟨a,ha,hcell⟩:=hL.sl.2.2 (by omega);refine⟨a,ha,?_⟩;have h00:w8.cell? (a.add (Int.toNat (0:Int)*1))=some (.int .u8 (((B s).getD 0 0).toNat:Int)):=hcell 0 _ (by simp[bV,show 0<(B s).length by omega]);refine zaD (l:=.int .u8) (x:=(((B s).getD 0 0).toNat:Int)) h00 ?_;rw[wrap_i64 (x:=(12:Int)+_) (by omega) (by omega),show Int.toNat ((12:Int)+(lev (((B s).drop 2).take 2):Int))=12+lev (((B s).drop 2).take 2) by omega];refine zL ⟨by omega,by omega,by have:=hL.nc;omega⟩ (zL ⟨by omega,by omega,by omega⟩ ?_);have hp4:=hL.part (l:=4) (k:=8) (by omega) (by omega);refine zb (qT (c:=c-Int.toNat 4) hp4 (by omega)) ?_;rintro _ w9 ⟨rfl,he9⟩;refine⟨_,rfl,?_⟩;have hL:=hL.ext he9;have hb1:=hb1.ext he9;have he9:=he8.trans he9;refine zqM hL.sl ha (by omega) ?_;have ed:s.extract (Int.toNat 12) (12+lev (((B s).drop 2).take 2))=⟨(((B s).drop 12).take (lev (((B s).drop 2).take 2))).toArray⟩:=by
  apply kD;rw[jO];show((B s).drop 12).take _=_;rw[show Int.toNat 12=12 from rfl,Nat.add_sub_cancel_left,jN];rfl
 rw[ed];refine znB (f:=xq (B s)) hb1 rfl rfl ?_;intro w10 hb1 hx10 _ _;have he10:=hx10 w he9 hr1';refine zb (zbH w10 ((B s).length:Nat) (f:=xq (B s)) (zeO _)) ?_;rintro _ w11 ⟨rfl,he11⟩;refine⟨(⟨(xy (B s).length (xq (B s))).1.toArray⟩,(xy (B s).length (xq (B s))).2,()),rfl,?_⟩;have hb1:=hb1.ext he11;have he11:=he10.trans he11;dsimp only;have bad:xy (B s).length (xq (B s))≠(B s,0)->∀ {w':World},Blk w' r1 (fV (xq (B s))) 127->Ext w w'->
   (zc ((#[(.int .u8 (0:Int)),(.int .u64 (0:Int)),(.string ByteArray.empty)]:Array Value).size=3)<|zu (aD r1) [(.int .u8 (0:Int)),(.int .u64 (0:Int)),(.string ByteArray.empty)]<|zk fLs (aD r1) fun(u:Int×Int×ByteArray×Unit)=>fun w''=>Value.tuple #[(.agg #[(.int .u8 u.1),(.int .u64 u.2.1),(.string u.2.2.1)]),(.int .i64 4)]=.tuple #[.agg (fV (yn (B s)).1).toArray,.int .i64 (yn (B s)).2]/\Ext w w'') w':=fun hne2 {w'} hb he=>
  znB (f:=ui) hb rfl rfl fun w'' _ hx _ _=>⟨by rw[zpH hne hok hfit hne2];rfl,hx w he hr1'⟩
 refine zg (fun hz=>?_) (fun hz=>?_)
 ·have hz:=bne_iff_ne.1 hz;exact bad (fun e=>hz (by rw[e])) hb1 he11
 have hz:=bne_eq_false_iff_eq.1 hz;refine zg (fun hq=>?_) (fun hq=>?_)
 ·refine bad (fun e=>?_) hb1 he11;have:((⟨(xy (B s).length (xq (B s))).1.toArray⟩:ByteArray).toList==s.toList)=false:=by simpa using hq
  rw[jA,jN,e]at this;simp at this
 ·have:((⟨(xy (B s).length (xq (B s))).1.toArray⟩:ByteArray).toList==s.toList)=true:=by simpa using hq
  rw[jA,jN]at this;have hps:=of_decide_eq_true this;exact done he11 hb1 (zqn hne hok hfit (Prod.ext hps hz))
end V
/- Supers:plain. -/
namespace V
open Go Go.Proofs Go.RowKit Crc
structure Sup where
 gen:Nat
 size:Int
 blocks:Int
 root:Nat
 pages:List Nat
deriving DecidableEq
def znC:Sup:=⟨0,0,0,0,[]⟩
structure Sup.Fits (s:Sup):Prop where
 gen:s.gen<18446744073709551616
 size:-9223372036854775808<=s.size/\s.size<9223372036854775808
 blocks:-9223372036854775808<=s.blocks/\s.blocks<9223372036854775808
 root:s.root<4294967296
 pages:∀ p∈s.pages,p<4294967296
theorem qg {size blocks:Int} (h:yc size blocks=true):zI size=size-16/\128<=size/\size<=4096/\8<=blocks/\blocks<=4096:=by
 unfold yc at h;have h:=of_decide_eq_true h;have h8:yc size 8=true:=by unfold yc;exact decide_eq_true (by omega)
 unfold zI;rw[h8];exact⟨rfl,by omega,by omega,by omega,by omega⟩
def kS (size blocks:Int):Int:=if yc size blocks=true then (2*blocks+zI size-1) / zI size else 0
theorem zjV {size blocks:Int}:0<=kS size blocks/\kS size blocks<=20000:=by
 unfold kS;split
 ·rename_i h;obtain⟨h0,h1,h2,h3,h4⟩:=qg h;rw[h0];have:=Int.ediv_le_self (a:=2*blocks+(size-16)-1) (size-16) (by omega);have:=Int.ediv_nonneg (a:=2*blocks+(size-16)-1) (b:=size-16) (by omega) (by omega);omega
 ·omega
def vZ (blocks:Int) (n:Nat):Bool:=decide (2<=n/\(n:Int)<blocks)
def Sup.good (s:Sup) (j:Nat):Prop:=vZ s.blocks (s.pages.getD j 0)=true/\s.pages.getD j 0≠s.root/\s.pages.getD j 0∉s.pages.take j
instance (s:Sup) (j:Nat):Decidable (s.good j):=by unfold Sup.good;infer_instance
def Sup.head (s:Sup):Prop:=yc s.size s.blocks=true/\s.gen≠0/\(s.root=0\/vZ s.blocks s.root=true)/\(s.pages.length:Int)=kS s.size s.blocks
instance (s:Sup):Decidable s.head:=by unfold Sup.head;infer_instance
def chk (s:Sup):Int:=if s.head then (if ∀ j,j<s.pages.length->s.good j then (if 14+4*(s.pages.length:Int)>zI s.size then 3 else 0) else 2) else 2
theorem znD {s:Sup} (h:¬s.head):chk s=2:=by unfold chk;rw[if_neg h]
theorem zfv {s:Sup} {j:Nat} (hj:j<s.pages.length) (h:¬s.good j):chk s=2:=by
 unfold chk;split
 ·rw[if_neg (fun hh=>h (hh j hj))]
 ·rfl
theorem zhp {s:Sup} (h:s.head) (hg:∀ j,j<s.pages.length->s.good j):chk s=if 14+4*(s.pages.length:Int)>zI s.size then 3 else 0:=by
 unfold chk;rw[if_pos h,if_pos hg]
theorem zbb {s:Sup} (h:chk s=0):s.head/\(∀ j,j<s.pages.length->s.good j)/\14+4*(s.pages.length:Int)<=zI s.size:=by
 unfold chk at h;split at h
 ·rename_i h1;split at h
  ·rename_i h2;split at h
   ·cases h
   ·exact⟨h1,h2,by omega⟩
  ·cases h
 ·cases h
def yx (ps:List Nat):List UInt8:=ps.flatMap (le 4)
theorem xw (ps:List Nat):(yx ps).length=4*ps.length:=by
 induction ps with
 |nil=>rfl
 |cons p r ih=>simp only [yx,flatMap_cons,length_append,zx,length_cons]at ih ⊢;omega
def zbK (s:Sup):List UInt8:=le 4 s.size.toNat++le 4 s.blocks.toNat++le 4 s.root++le 2 s.pages.length
def qY (s:Sup):List UInt8:=zbK s++yx s.pages
theorem zcK (s:Sup):(zbK s).length=14:=by simp[zbK,zx]
theorem jR (s:Sup):(qY s).length=14+4*s.pages.length:=by rw[qY,length_append,zcK,xw]
def vI (s:Sup):Fra:=(1,s.gen,⟨(qY s).toArray⟩)
def xG (s:Sup):List UInt8×Int:=if chk s=0 then xy s.size (vI s) else ([],chk s)
theorem zhq {s:Sup} (h:chk s≠0):xG s=([],chk s):=if_neg h
theorem kT {s:Sup} (h:chk s=0):xG s=(yF s.size.toNat (vI s),0):=by
 obtain⟨h1,h2,h3⟩:=zbb h;obtain⟨g0,g1,g2,g3,g4⟩:=qg h1.1;unfold xG xy;have hl:((B (vI s).2.2).length:Int)=14+4*s.pages.length:=by
  show((B ⟨(qY s).toArray⟩).length:Int)=_;rw[jN,jR];omega
 rw[if_pos h,if_neg (by omega),if_neg (by omega)]
theorem zje {s:Sup} (h:(xG s).2=0):chk s=0:=by
 by_cases h1:chk s=0
 ·exact h1
 ·rw[zhq h1]at h;exact h
theorem zaq (s:Sup):B (vI s).2.2=qY s:=jN _
theorem zdB {s:Sup} (h:chk s=0):((xG s).1.length:Int)=s.size/\128<=s.size/\s.size<=4096:=by
 rw[kT h];obtain⟨h1,h2,h3⟩:=zbb h;obtain⟨g0,g1,g2,g3,g4⟩:=qg h1.1;have:=ku (size:=s.size.toNat) (f:=vI s) (by rw[zaq,jR];omega);dsimp only;omega
theorem zk9 {s:Sup} (h:chk s=0) (hg:s.gen<18446744073709551616):zap (xG s).1 1=(vI s,0):=by
 rw[kT h];obtain⟨h1,h2,h3⟩:=zbb h;obtain⟨g0,g1,g2,g3,g4⟩:=qg h1.1;have hget:=zf3 (size:=s.size.toNat) (f:=vI s) (by rw[Int.toNat_of_nonneg (by omega)];exact g0) (by omega) (by omega) (by rw[zaq,jR];omega) hg;unfold zap;rw[hget,if_neg (by rintro⟨_,h⟩;exact h rfl)]
def yO (n:Nat) (bs:List UInt8):List Nat:=(List.range n).map fun i=>lev ((bs.drop (4*i)).take 4)
theorem zfw (n:Nat) (bs:List UInt8):(yO n bs).length=n:=by simp[yO]
theorem zhr (n:Nat) (bs:List UInt8):yO (n+1) bs=yO n bs++[lev ((bs.drop (4*n)).take 4)]:=by simp[yO,range_succ]
theorem zjW (n:Nat) (bs:List UInt8):∀ p∈yO n bs,p<4294967296:=by
 intro p hp;simp only [yO,mem_map]at hp;obtain⟨i,_,rfl⟩:=hp;exact zdb (by rw[length_take];omega)
theorem zhs {n:Nat} (h:n<4294967296):lev (le 4 n)=n:=by rw[uR];omega
theorem vJ:∀ (ps:List Nat),(∀ p∈ps,p<4294967296)->yO ps.length (yx ps)=ps
 |[],_=>rfl
 |p::r,h=>by
  have ih:=vJ r (fun q hq=>h q (mem_cons_of_mem _ hq));have e:yx (p::r)=le 4 p++yx r:=rfl;unfold yO at ih ⊢;rw[length_cons,List.range_succ_eq_map,map_cons,map_map,e];congr 1
  ·rw[Nat.mul_zero,List.drop_zero,take_left' (zx 4 p)];exact zhs (h p mem_cons_self)
def zd6 (f:Fra):Sup:=⟨f.2.1,lev ((B f.2.2).take 4),lev (((B f.2.2).drop 4).take 4),lev (((B f.2.2).drop 8).take 4),yO (((B f.2.2).length-14) / 4) ((B f.2.2).drop 14)⟩
theorem ziv (s:Sup):(qY s).take 4=le 4 s.size.toNat/\((qY s).drop 4).take 4=le 4 s.blocks.toNat/\((qY s).drop 8).take 4=le 4 s.root/\((qY s).drop 12).take 2=le 2 s.pages.length/\(qY s).drop 14=yx s.pages:=by
 have e:qY s=le 4 s.size.toNat++(le 4 s.blocks.toNat++(le 4 s.root++(le 2 s.pages.length++yx s.pages))):=by simp[qY,zbK]
 have d4:(qY s).drop 4=le 4 s.blocks.toNat++(le 4 s.root++(le 2 s.pages.length++yx s.pages)):=by rw[e,drop_left' (zx _ _)]
 have d8:(qY s).drop 8=le 4 s.root++(le 2 s.pages.length++yx s.pages):=by rw[show 8=4+4 from rfl,<- drop_drop,d4,drop_left' (zx _ _)]
 have d12:(qY s).drop 12=le 2 s.pages.length++yx s.pages:=by rw[show 12=8+4 from rfl,<- drop_drop,d8,drop_left' (zx _ _)]
 have d14:(qY s).drop 14=yx s.pages:=by rw[show 14=12+2 from rfl,<- drop_drop,d12,drop_left' (zx _ _)]
 refine⟨by rw[e,take_left' (zx _ _)],by rw[d4,take_left' (zx _ _)],by rw[d8,take_left' (zx _ _)],by rw[d12,take_left' (zx _ _)],d14⟩
theorem znE {s:Sup} (h:chk s=0) (hf:s.Fits):zd6 (vI s)=s:=by
 obtain⟨h1,h2,h3⟩:=zbb h;obtain⟨g0,g1,g2,g3,g4⟩:=qg h1.1;obtain⟨p1,p2,p3,p4,p5⟩:=ziv s;unfold zd6;rw[zaq,p1,p2,p3,p5,jR,zhs (by omega),zhs (by omega),zhs hf.root,show(14+4*s.pages.length-14) / 4=s.pages.length by omega,vJ _ hf.pages];cases s;simp only [vI,Sup.mk.injEq,true_and,and_true];dsimp only at g1 g3;omega
theorem zla {f:Fra} (h:f.2.1<18446744073709551616):(zd6 f).Fits:=by
 have a:∀ l:List UInt8,lev (l.take 4)<4294967296:=fun l=>zdb (by rw[length_take];omega);have a1:=a (B f.2.2);have a2:=a ((B f.2.2).drop 4);exact⟨h,by dsimp only [zd6];omega,by dsimp only [zd6];omega,a _,zjW _ _⟩
def kM (bs:List UInt8):Sup×Int:=
 if (zap bs 1).2≠0 then (znC,(zap bs 1).2)
 else if (B (zap bs 1).1.2.2).length<14 then (znC,4)
 else if xG (zd6 (zap bs 1).1)=(bs,0) then (zd6 (zap bs 1).1,0) else (znC,4)
theorem znF {s:Sup} {bs:List UInt8} (hf:s.Fits) (h:xG s=(bs,0)):kM bs=(s,0):=by
 have hc:=zje (s:=s) (by rw[h]);have hk:=zk9 hc hf.gen;rw[h]at hk;dsimp only at hk;have hl:=jR s;unfold kM;rw[hk,if_neg (by simp),zaq,if_neg (by omega),znE hc hf,if_pos h]
theorem zpI {bs:List UInt8} (h:(kM bs).2=0):xG (kM bs).1=(bs,0)/\(kM bs).1.Fits:=by
 unfold kM at h ⊢;split at h
 ·rename_i h1;exact absurd h h1
 ·rename_i h1;rw[if_neg h1];split at h
  ·cases h
  ·rename_i h2;rw[if_neg h2];split at h
   ·rename_i h3;rw[if_pos h3];refine⟨h3,zla ?_⟩;unfold zap;split
    ·decide
    ·exact znt bs
   ·cases h
def other (slot:Int):Int:=if slot=0 then 1 else 0
end V
/- Spaces:plain. -/
namespace V
open Go Go.Proofs Go.RowKit Crc
abbrev Page:=UInt8×List Nat×ByteArray
def xb:Page:=(0,[],ByteArray.empty)
def pgB (p:Page):List UInt8:=le 2 p.2.1.length++(yx p.2.1++B p.2.2)
def ky (d:List UInt8):List Nat:=yO (lev (d.take 2)) (d.drop 2)
def zbc (N:Nat) (d:List UInt8):Prop:=2<=d.length/\2+4*lev (d.take 2)<=d.length/\∀ n∈ky d,2<=n/\n<N
instance (N:Nat) (d:List UInt8):Decidable (zbc N d):=by unfold zbc;infer_instance
def xW (N:Nat) (bs:List UInt8):Page×Int:=
 if (yn bs).2=0/\3<=(yn bs).1.1.toNat/\zbc N (B (yn bs).1.2.2) then
  (((yn bs).1.1,ky (B (yn bs).1.2.2),mkB ((B (yn bs).1.2.2).drop (2+4*lev ((B (yn bs).1.2.2).take 2)))),0) else (xb,10)
theorem zjX {N size gen:Nat} {p:Page} (hr:zI size=(size:Int)-16) (h1:128<=size) (h2:size<=4096) (hd:(pgB p).length+16<=size) (hg:gen<18446744073709551616)
  (ht:3<=p.1.toNat) (hk:∀ n∈p.2.1,2<=n/\n<N) (hN:N<=4096):xW N (yF size (p.1,gen,mkB (pgB p)))=(p,0):=by
 have e1:yn (yF size (p.1,gen,mkB (pgB p)))=((p.1,gen,mkB (pgB p)),0):=zf3 hr h1 h2 (by rw[show B (p.1,gen,mkB (pgB p)).2.2=pgB p from jN _];exact hd) hg;unfold xW;rw[e1];dsimp only;rw[show B (mkB (pgB p))=pgB p from jN _];have hl:(pgB p).length=2+(4*p.2.1.length+(B p.2.2).length):=by simp[pgB,zx,xw]
 have hkl:p.2.1.length<65536:=by omega
 have e2:(pgB p).take 2=le 2 p.2.1.length:=by rw[pgB,take_left' (zx _ _)]
 have e3:(pgB p).drop 2=yx p.2.1++B p.2.2:=by rw[pgB,drop_left' (zx _ _)]
 have e4:lev ((pgB p).take 2)=p.2.1.length:=by rw[e2,zi8 hkl]
 have e5:ky (pgB p)=p.2.1:=by
  unfold ky;rw[e4,e3];have hw:=vJ p.2.1 (fun n hn=>by have:=hk n hn;omega);have hcut:∀ (n:Nat) (a b:List UInt8),4*n<=a.length->yO n (a++b)=yO n a:=by
   intro n a b hn;unfold yO;apply map_congr_left;intro i hi;have:=mem_range.1 hi;rw[List.drop_append_of_le_length (by omega),List.take_append_of_le_length (by rw[length_drop];omega)]
  rw[hcut _ _ _ (by rw[xw];omega)];exact hw
 have e6:(pgB p).drop (2+4*p.2.1.length)=B p.2.2:=by
  rw[<- drop_drop,e3,drop_left' (xw _)]
 rw[e4,e5,e6,if_pos ⟨rfl,ht,by rw[hl];omega,by rw[e4,hl];omega,by rw[e5];exact hk⟩];rfl
structure Spa where
 dev:Dev
 sup:Sup
 slot:Int
 held:List Nat
 now:List Nat
 mark:Option (List Nat)
def cnt:Option (List Nat)->Nat->Nat
 |none,_=>0
 |some l,n=>l.getD n 0
namespace Spa
def N (S:Spa):Nat:=S.sup.blocks.toNat
def yv (S:Spa) (n:Nat):Bool:=S.now.getD n 0==0&&S.held.getD n 0==0&&cnt S.mark n==0
def yg (S:Spa):List Nat:=(List.range S.N).filter fun n=>decide (2<=n)&&S.yv n
def zY (S:Spa):Nat:=S.yg.length
def asked (S:Spa) (n:Nat):Bool:=decide (2<=n)&&(decide (n<S.N)&&!(decide (n∈S.sup.pages)))
def room (S:Spa) (k:Int):Int:=if k<0\/k>(zI S.sup.size-2) / 4 then 0 else zI S.sup.size-2-4*k
def zH (S:Spa):Nat:=(List.range S.now.length).findIdx S.yv
def takeN (S:Spa):Nat:=if S.zH<S.now.length then S.zH else 0
def yU (S:Spa):Int:=if S.zH<S.now.length then 0 else 9
def yV (S:Spa):List Nat:=if S.zH<S.now.length then S.now.set S.zH 1 else S.now
def page (S:Spa) (n:Nat):Page×Int:=xW S.N (B (S.dev.read n).1)
def get (S:Spa) (n:Nat):Page×Int:=if S.asked n=false then (xb,2) else if S.now.getD n 0=0 then (xb,8) else S.page n
end Spa
def yp (d:Dev) (k:Int) (f:Fra):Dev×Int:=if (xy d.size f).2≠0 then (d,(xy d.size f).2) else d.write k (mkB (xy d.size f).1)
namespace Spa
def jS (S:Spa) (p:Page):Int:=
 if p.1.toNat<3\/p.2.1.length>65535\/(∃ k∈p.2.1,S.asked k=false) then 2
 else if ∃ k∈p.2.1,S.now.getD k 0=0 then 8
 else if (p.2.1.length:Int)>S.room 0 / 4\/(p.2.2.size:Int)>S.room p.2.1.length then 3
 else if S.zY<=S.sup.pages.length then 9
 else 0
def frame (S:Spa) (p:Page):Fra:=(p.1,S.sup.gen+1,mkB (pgB p))
def put (S:Spa) (p:Page):Spa×Nat×Int:=
 if S.jS p≠0 then (S,0,S.jS p)
 else if S.yU≠0 then (S,0,S.yU)
 else if (yp S.dev S.takeN (S.frame p)).2≠0 then ({ S with now:=S.yV,dev:=(yp S.dev S.takeN (S.frame p)).1 },0,(yp S.dev S.takeN (S.frame p)).2)
 else ({ S with now:=S.yV,dev:=(yp S.dev S.takeN (S.frame p)).1 },S.takeN,0)
end Spa
end V
/- Contracts of the package counts. -/
namespace V
open Go Go.Proofs Go.RowKit
def uV (k:IntKind) (l:List Nat):List Value:=l.map fun(n:Nat)=>Value.int k ((n:Nat):Int)
structure Cnt (w:World) (b r:Nat) (size:Int) (q:List Value) (l:List Nat):Prop where
 head:Blk w b [.int .i64 size,.int .i64 (l.length:Int),.slice (some ⟨r,0,none⟩) l.length (l.length+q.length)] 193
 row:Blk w r (uV .u16 l++q) 194
 ne:b≠r
 len:2<=l.length/\l.length<=4096
 fits:∀ n∈l,n<65536
theorem zlb {k:IntKind} {l:List Nat} {i:Nat} (h:i<l.length):(uV k l)[i]?=some (.int k ((l.getD i 0:Nat):Int)):=by
 simp[uV,h]
theorem kU {k:IntKind} {l:List Nat} {q:List Value} {i:Nat} (h:i<l.length):(uV k l++q)[i]?=some (.int k ((l.getD i 0:Nat):Int)):=by
 rw[List.getElem?_append_left (by simpa [uV] using h),zlb h]
theorem kV (k:IntKind) (l:List Nat):(uV k l).length=l.length:=by simp[uV]
theorem zqo (k:IntKind) (l:List Nat) (i x:Nat):(uV k l).set i (.int k (x:Int))=uV k (l.set i x):=by simp[uV,List.map_set]
theorem Cnt.ext {w w':World} {b r:Nat} {size:Int} {q:List Value} {l:List Nat} (h:Cnt w b r size q l) (he:Ext w w'):Cnt w' b r size q l:=⟨h.head.ext he,h.row.ext he,h.ne,h.len,h.fits⟩
theorem Cnt.kept {w w':World} {b r k:Nat} {size:Int} {q:List Value} {l:List Nat} (h:Cnt w b r size q l) (hg:w.grownBy w' (some k)) (h1:b≠k) (h2:r≠k):Cnt w' b r size q l:=
 ⟨h.head.grown hg (by simpa using h1),h.row.grown hg (by simpa using h2),h.ne,h.len,h.fits⟩
theorem Cnt.qD {w:World} {b r:Nat} {size:Int} {q:List Value} {l:List Nat} (h:Cnt w b r size q l) (i:Nat):l.getD i 0<65536:=by
 rcases Nat.lt_or_ge i l.length with hi|hi
 ·rw[getD_eq_getElem?_getD,List.getElem?_eq_getElem hi];exact h.fits _ (getElem_mem hi)
 ·rw[getD_eq_getElem?_getD,List.getElem?_eq_none hi];simp
theorem Cnt.set {w:World} {b r i x:Nat} {size:Int} {q:List Value} {l:List Nat} (h:Cnt w b r size q l) (hi:i<l.length) (hx:x<65536):
  Cnt (w.setCell ⟨r,i,none⟩ (.int .u16 (x:Int))) b r size q (l.set i x)/\w.grownBy (w.setCell ⟨r,i,none⟩ (.int .u16 (x:Int))) (some r):=by
 have hs:=h.row.set i (.int .u16 (x:Int));rw[List.set_append_left _ _ (by rw[kV];exact hi),zqo]at hs;refine⟨⟨by rw[length_set];exact h.head.other (fun e=>h.ne e.symm) _,hs,h.ne,by rw[length_set];exact h.len,fun n hn=>?_⟩,⟨rfl,rfl,rfl,by simp,fun k hk hne=>Below.heap_setCell _ _ _ _ (fun e=>hne (by rw[e]))⟩⟩;rcases List.mem_or_eq_of_mem_set hn with h1|h1
 ·exact h.fits n h1
 ·rw[h1];exact hx
theorem zar {w:World} {b r:Nat} {size:Int} {q:List Value} {l:List Nat} (h:Cnt w b r size q l) (n:Nat) (hn:n<4294967296):Calls prog 75 #[.pointer (some ⟨b,0,none⟩),.int .u32 (n:Int)] w (Ret fun v w'=>v=.int .i64 ((l.getD n 0:Nat):Int)/\w'=w):=by
 apply zi7;unfold S75;have hl:=h.len;refine zd (by rfl) ?_;refine zr ?_;refine yK (o:=2) (x:=(some ⟨r,0,none⟩,l.length,l.length+q.length)) h.head (by rfl) ?_;dsimp only;rw[zD (by omega),zD (by omega)];refine zg (fun hh=>?_) (fun hh=>?_)
 ·have hh:=of_decide_eq_true hh;refine⟨?_,rfl⟩;rw[getD_eq_getElem?_getD,List.getElem?_eq_none (by omega)];rfl
 have hh:=of_decide_eq_false hh;refine zr ?_;refine yK (o:=2) (x:=(some ⟨r,0,none⟩,l.length,l.length+q.length)) h.head (by rfl) ?_;dsimp only;refine zL ⟨by omega,by omega⟩ (zr ?_);rw[Int.toNat_natCast,Nat.mul_one];refine yK h.row (kU (by omega)) ?_;have:=h.qD n;rw[wrap_i64 (by omega) (by omega)];exact⟨rfl,rfl⟩
theorem zcL (w:World) (n:Nat):Calls prog 75 #[.pointer none,.int .u32 (n:Int)] w (Ret fun v w'=>v=.int .i64 0/\w'=w):=by
 apply zi7;unfold S75;exact zf (by rfl) ⟨rfl,rfl⟩
def atE (l:List Nat) (n:Nat):Int:=if n<2\/l.length<=n then 2 else if l.getD n 0=0 then 8 else 0
def atP (l:List Nat) (n r:Nat):Option Addr:=if atE l n=0 then some ⟨r,n,none⟩ else none
theorem zht {w:World} {b r:Nat} {size:Int} {q:List Value} {l:List Nat} (h:Cnt w b r size q l) (n:Nat) (hn:n<4294967296):Calls prog 136 #[.pointer (some ⟨b,0,none⟩),.int .u32 (n:Int)] w (Ret fun v w'=>v=.tuple #[.pointer (atP l n r),.int .i64 (atE l n)]/\w'=w):=by
 apply zmw;unfold S136 atP atE;have hl:=h.len;refine zd (by rfl) ?_;refine zg (fun hh=>?_) (fun hh=>?_)
 ·have hh:=of_decide_eq_true hh;rw[if_pos (show n<2\/l.length<=n from .inl (by omega))];exact⟨rfl,rfl⟩
 have hh:=of_decide_eq_false hh;refine zr ?_;refine yK (o:=2) (x:=(some ⟨r,0,none⟩,l.length,l.length+q.length)) h.head (by rfl) ?_;dsimp only;rw[zD (by omega),zD (by omega)];refine zg (fun h2=>?_) (fun h2=>?_)
 ·have h2:=of_decide_eq_true h2;rw[if_pos (show n<2\/l.length<=n from .inr (by omega))];exact⟨rfl,rfl⟩
 have h2:=of_decide_eq_false h2;rw[if_neg (show ¬(n<2\/l.length<=n) by omega)];refine zr ?_;refine yK (o:=2) (x:=(some ⟨r,0,none⟩,l.length,l.length+q.length)) h.head (by rfl) ?_;dsimp only;refine zL ⟨by omega,by omega⟩ (zr ?_);rw[Int.toNat_natCast,Nat.mul_one];refine yK h.row (kU (by omega)) ?_;refine zg (fun h3=>?_) (fun h3=>?_)
 ·have h3:l.getD n 0=0:=by rw[beq_iff_eq]at h3;omega
  rw[if_pos h3];exact⟨rfl,rfl⟩
 have h3:¬l.getD n 0=0:=by rw[beq_eq_false_iff_ne]at h3;omega
 rw[if_neg h3];refine zr ?_;refine yK (o:=2) (x:=(some ⟨r,0,none⟩,l.length,l.length+q.length)) h.head (by rfl) ?_;dsimp only;refine zL ⟨by omega,by omega⟩ (zr ?_);rw[zC,Nat.zero_add];exact⟨rfl,rfl⟩
def xr (l:List Nat) (n:Nat):List Nat:=if atE l n=0 then l.set n (l.getD n 0-1) else l
def zbL (l:List Nat) (n:Nat):Nat:=if atE l n=0 then l.getD n 0-1 else 0
theorem zcM (l:List Nat) (n:Nat):atE l n=0/\2<=n/\n<l.length/\l.getD n 0≠0\/atE l n=2\/atE l n=8:=by
 unfold atE;split
 ·exact .inr (.inl rfl)
 ·split
  ·exact .inr (.inr rfl)
  ·exact .inl ⟨rfl,by omega,by omega,by assumption⟩
theorem zlc {w:World} {b r:Nat} {size:Int} {q:List Value} {l:List Nat} (h:Cnt w b r size q l) (n:Nat) (hn:n<4294967296):Calls prog 87 #[.pointer (some ⟨b,0,none⟩),.int .u32 (n:Int)] w (Ret fun v w'=>v=.tuple #[.int .i64 (zbL l n:Int),.int .i64 (atE l n)]/\Cnt w' b r size q (xr l n)/\w.grownBy w' (some r)):=by
 apply zps;unfold S87;refine zb (zht h n hn) ?_;rintro _ w1 ⟨rfl,hw⟩;subst hw;refine⟨(atP l n r,atE l n,()),rfl,?_⟩;dsimp only;rcases zcM l n with ⟨h0,h2,hl,hne⟩|h0
 ·have hp:atP l n r=some ⟨r,n,none⟩:=by unfold atP;rw[if_pos h0]
  rw[hp,h0];refine zd (by rfl) ?_;have hfit:=h.qD n;have hr:∀ {K:Int->WP},K ((l.getD n 0:Nat):Int) w1->(zh (some (⟨r,n,none⟩:Addr)) fun p=>ldW (.int .u16) p K) w1:=fun {K} hk=>⟨_,rfl,zl h.row (kU hl) hk⟩;refine hr ?_;refine zr ?_;refine zQ h.row (by rw[length_append,kV];omega) ?_;rw[show wrap .u16 (((l.getD n 0:Nat):Int)-1)=((l.getD n 0-1:Nat):Int) from by rw[wrap_u16];omega];obtain⟨hc,hg⟩:=h.set (x:=l.getD n 0-1) hl (by omega);refine zr ?_;refine zl hc.row (kU (by rw[length_set];exact hl)) ?_;have e:(l.set n (l.getD n 0-1)).getD n 0=l.getD n 0-1:=by
   rw[getD_eq_getElem?_getD,List.getElem?_set_self hl];rfl
  rw[e,wrap_i64 (by omega) (by omega)];have e1:zbL l n=l.getD n 0-1:=by unfold zbL;rw[if_pos h0]
  have e2:xr l n=l.set n (l.getD n 0-1):=by unfold xr;rw[if_pos h0]
  rw[e1,e2];exact⟨rfl,hc,hg⟩
 ·have hne:atE l n≠0:=by rcases h0 with h0|h0<;>rw[h0]<;>decide
  have e1:zbL l n=0:=by unfold zbL;rw[if_neg hne]
  have e2:xr l n=l:=by unfold xr;rw[if_neg hne]
  rw[e1,e2];refine zf (by simpa using hne) ?_;exact⟨rfl,h,xJ _ _⟩
def zab (l:List Nat) (n:Nat):Int:=if atE l n=0 then (if l.getD n 0=65535 then 12 else 0) else atE l n
def zac (l:List Nat) (n:Nat):List Nat:=if zab l n=0 then l.set n (l.getD n 0+1) else l
theorem zld {w:World} {b r:Nat} {size:Int} {q:List Value} {l:List Nat} (h:Cnt w b r size q l) (n:Nat) (hn:n<4294967296):Calls prog 139 #[.pointer (some ⟨b,0,none⟩),.int .u32 (n:Int)] w (Ret fun v w'=>v=.int .i64 (zab l n)/\Cnt w' b r size q (zac l n)/\w.grownBy w' (some r)):=by
 apply zmz;unfold S139;refine zb (zht h n hn) ?_;rintro _ w1 ⟨rfl,hw⟩;subst hw;refine⟨(atP l n r,atE l n,()),rfl,?_⟩;dsimp only;rcases zcM l n with ⟨h0,h2,hl,hne⟩|h0
 ·have hp:atP l n r=some ⟨r,n,none⟩:=by unfold atP;rw[if_pos h0]
  rw[hp,h0];refine zd (by rfl) ?_;have hfit:=h.qD n;refine zr ?_;refine zl h.row (kU hl) ?_;refine zg (fun hm=>?_) (fun hm=>?_)
  ·have hm:l.getD n 0=65535:=by rw[beq_iff_eq]at hm;omega
   have e1:zab l n=12:=by unfold zab;rw[if_pos h0,if_pos hm]
   have e2:zac l n=l:=by unfold zac;rw[e1];rfl
   rw[e1,e2];exact⟨rfl,h,xJ _ _⟩
  ·have hm:¬l.getD n 0=65535:=by rw[beq_eq_false_iff_ne]at hm;omega
   have e1:zab l n=0:=by unfold zab;rw[if_pos h0,if_neg hm]
   have e2:zac l n=l.set n (l.getD n 0+1):=by unfold zac;rw[if_pos e1]
   rw[e1,e2];refine zr ?_;refine zl h.row (kU hl) ?_;refine zr ?_;refine zQ h.row (by rw[length_append,kV];omega) ?_;rw[show wrap .u16 (((l.getD n 0:Nat):Int)+1)=((l.getD n 0+1:Nat):Int) from by rw[wrap_u16];omega];obtain⟨hc,hg⟩:=h.set (x:=l.getD n 0+1) hl (by omega);exact⟨rfl,hc,hg⟩
 ·have hne:atE l n≠0:=by rcases h0 with h0|h0<;>rw[h0]<;>decide
  have e1:zab l n=atE l n:=by unfold zab;rw[if_neg hne]
  have e2:zac l n=l:=by unfold zac;rw[e1,if_neg hne]
  rw[e1,e2];refine zf (by simpa using hne) ?_;exact⟨rfl,h,xJ _ _⟩
theorem zjY (w:World) (a b c d:Int):(Op.eqFields 9999 #[.int .i64 a,.int .i64 b] #[.int .i64 c,.int .i64 d] (prog.fieldsOf 72).toList).run prog w=.ok (a==c&&(b==d&&true)) w:=by
 have hf:(prog.fieldsOf 72).toList=[(prog.fieldsOf 72).getD 0 default,(prog.fieldsOf 72).getD 1 default]:=by kernel_rfl
 rw[hf];refine qe (of_decide_eq_true (by kernel_rfl)) (a:=.int .i64 a) (b:=.int .i64 c) (by kernel_rfl) (by kernel_rfl) (run_equalIn_int w 9998 _ .i64 .i64 _ _ (by kernel_rfl)) ?_;refine qe (of_decide_eq_true (by kernel_rfl)) (a:=.int .i64 b) (b:=.int .i64 d) (by kernel_rfl) (by kernel_rfl) (run_equalIn_int w 9998 _ .i64 .i64 _ _ (by kernel_rfl)) ?_;rfl
theorem zpJ (w:World) (a b:Int) (x y:Operand):(eqS .neq 72 x y (.agg #[.int .i64 a,.int .i64 b]) (.agg #[.int .i64 a,.int .i64 b])).run prog w=.ok (.bool false) w:=by
 have:=zfn (x:=x) (y:=y) (by kernel_rfl) (by kernel_rfl) (by kernel_rfl) (zjY w a b a b)
 simpa using this
def zog (w:World) (x:Option Addr) (b r:Nat) (size:Int) (len:Nat) (hl:List Nat):Prop:=
 (x=none/\hl=[])\/∃ b2 r2,x=some ⟨b2,0,none⟩/\(∃ q2,Cnt w b2 r2 size q2 hl)/\hl.length=len/\b2≠r/\r2≠r
def qL (l hl:List Nat) (i:Nat):Bool:=l.getD i 0==0&&hl.getD i 0==0
def zH (l hl:List Nat):Nat:=(List.range l.length).findIdx (qL l hl)
def takeN (l hl:List Nat):Nat:=if zH l hl<l.length then zH l hl else 0
def yU (l hl:List Nat):Int:=if zH l hl<l.length then 0 else 9
def yV (l hl:List Nat):List Nat:=if zH l hl<l.length then l.set (zH l hl) 1 else l
theorem zcN {l hl:List Nat} {i:Nat} (h:i<zH l hl):qL l hl i=false:=by
 have:=List.not_of_lt_findIdx (p:=qL l hl) (xs:=List.range l.length) h
 simpa using this
theorem zd7 {l hl:List Nat} (h:zH l hl<l.length):qL l hl (zH l hl)=true:=by
 have:=List.findIdx_getElem (p:=qL l hl) (xs:=List.range l.length) (w:=by rw[length_range];exact h);rw[getElem_range]at this;exact this
theorem zeQ {w:World} {b r:Nat} {size:Int} {q:List Value} {l hl:List Nat} {x:Option Addr} (h:Cnt w b r size q l) (hh:zog w x b r size l.length hl):
  Calls prog 116 #[.pointer (some ⟨b,0,none⟩),.pointer x] w (Ret fun v w'=>v=.tuple #[.int .u32 ((takeN l hl:Nat):Int),.int .i64 (yU l hl)]/\Cnt w' b r size q (yV l hl)/\w.grownBy w' (some r)):=by
 apply zmj;unfold S116;have hlen:=h.len;refine yu (fun _ w'=>w'=w.drew) ?_ (fun J hJ=>?_)
 ·rintro _ w1 hw1;have hcw:Cnt w1 b r size q l:=by rw[hw1];exact h.ext (Ext.refl w).drew
  have hg0:w.grownBy w1 (some r):=by rw[hw1];exact xX (Ext.refl w).drew _
  have hh1:zog w1 x b r size l.length hl:=by
   rcases hh with hh|⟨b2,r2,h1,h2,h3⟩
   ·exact .inl hh
   ·obtain⟨q2,h2⟩:=h2;exact .inr ⟨b2,r2,h1,⟨q2,by rw[hw1];exact h2.ext (Ext.refl w).drew⟩,h3⟩
  refine zr ?_;refine yK (o:=2) (x:=(some ⟨r,0,none⟩,l.length,l.length+q.length)) hcw.head (by rfl) ?_;dsimp only;refine zw (fun y w'=>w'=w1/\∃ i:Nat,i<=l.length/\y=((i:Int),())/\i<=zH l hl) (fun y=>(l.length-y.1).toNat) ⟨rfl,0,by omega,rfl,by omega⟩ ?_;rintro _ _ ⟨rfl,i,hi,rfl,hti⟩;dsimp only;rename_i w1
  by_cases hlt:i<l.length
  ·refine zf (decide_eq_true (by omega)) ?_;refine zL ⟨by omega,by omega⟩ (zr ?_);rw[Int.toNat_natCast,Nat.mul_one];refine yK hcw.row (kU hlt) ?_;rw[uQ (by omega),wrap_i64 (x:=(i:Int)+1) (by omega) (by omega)];have next:qL l hl i=false->i+1<=zH l hl:=fun hf=>by
    rcases Nat.lt_or_ge i (zH l hl) with h1|h1
    ·omega
    ·have hii:zH l hl=i:=by omega
     have:=zd7 (l:=l) (hl:=hl) (by omega);rw[hii,hf]at this;cases this
   refine zg (fun hz=>?_) (fun hz=>?_)
   ·have hz:l.getD i 0=0:=by rw[beq_iff_eq]at hz;omega
    have hget:Calls prog 75 #[.pointer x,.int .u32 (i:Int)] w1 (Ret fun v w'=>v=.int .i64 ((hl.getD i 0:Nat):Int)/\w'=w1):=by
     rcases hh1 with ⟨rfl,rfl⟩|⟨b2,r2,rfl,⟨q2,hc2⟩,_⟩
     ·exact zcL w1 i
     ·exact zar hc2 i (by omega)
    refine zb hget ?_;rintro _ w2 ⟨rfl,hw2⟩;subst hw2;refine⟨_,rfl,?_⟩;refine zg (fun hz2=>?_) (fun hz2=>?_)
    ·have hz2:hl.getD i 0=0:=by rw[beq_iff_eq]at hz2;omega
     have hfr:qL l hl i=true:=by unfold qL;rw[hz,hz2];rfl
     have htake:zH l hl=i:=by
      rcases Nat.lt_or_ge i (zH l hl) with h1|h1
      ·rw[zcN h1]at hfr;cases hfr
      ·omega
     refine zr ?_;refine yK (o:=2) (x:=(some ⟨r,0,none⟩,l.length,l.length+q.length)) hcw.head (by rfl) ?_;dsimp only;refine zL ⟨by omega,by omega⟩ (zr ?_);rw[zC,Nat.zero_add];refine zQ hcw.row (by rw[length_append,kV];omega) ?_;obtain⟨hc,hg⟩:=hcw.set (x:=1) hlt (by omega);have e1:takeN l hl=i:=by unfold takeN;rw[htake,if_pos hlt]
     have e2:yU l hl=0:=by unfold yU;rw[htake,if_pos hlt]
     have e3:yV l hl=l.set i 1:=by unfold yV;rw[htake,if_pos hlt]
     rw[e1,e2,e3];exact⟨rfl,hc,xg hg0 hg (fun j hj=>.inl hj)⟩
    ·have hz2:¬hl.getD i 0=0:=by rw[beq_eq_false_iff_ne]at hz2;omega
     refine⟨⟨rfl,i+1,by omega,rfl,next ?_⟩,by omega⟩;unfold qL;rw[Bool.and_eq_false_iff];right;rw[beq_eq_false_iff_ne];exact hz2
   ·have hz:¬l.getD i 0=0:=by rw[beq_eq_false_iff_ne]at hz;omega
    refine⟨⟨rfl,i+1,by omega,rfl,next ?_⟩,by omega⟩;unfold qL;rw[Bool.and_eq_false_iff];left;rw[beq_eq_false_iff_ne];exact hz
  ·obtain rfl:i=l.length:=by omega
   refine zd (decide_eq_false (by omega)) ?_;have hno:¬zH l hl<l.length:=by omega
   have e1:takeN l hl=0:=by unfold takeN;rw[if_neg hno]
   have e2:yU l hl=9:=by unfold yU;rw[if_neg hno]
   have e3:yV l hl=l:=by unfold yV;rw[if_neg hno]
   rw[e1,e2,e3];exact⟨rfl,hcw,hg0⟩
 ·refine zd (by rfl) ?_;show(za _ _ _) w.drew;rcases hh with ⟨rfl,rfl⟩|⟨b2,r2,rfl,⟨q2,hc2⟩,hl2,_,_⟩
  ·exact zd (by rfl) (hJ _ _ rfl)
  ·refine zf (by rfl) ?_;have hcd:=h.ext (Ext.refl w).drew;have hcd2:=hc2.ext (Ext.refl w).drew;refine zr ?_;have rd:∀ {b r:Nat} {q:List Value} {l:List Nat} {K:(Int×Int×Unit)->WP},Cnt w.drew b r size q l->K (size,(l.length:Int),()) w.drew->zk [(.int .i64),(.int .i64)] ⟨b,0,none⟩ K w.drew:=fun {b r q l K} hc hk=>by
    refine qj (ls:=[(.int .i64),(.int .i64)]) (x:=(size,(l.length:Int),())) ?_ hk;have:=hc.head.jz;exact⟨this.1,this.2.1,trivial⟩
   refine rd hcd2 ?_;refine zr ?_;refine rd hcd ?_;rw[hl2];refine⟨false,fun w'=>zpJ w' _ _ _ _,?_⟩;exact zd rfl (hJ _ _ rfl)
theorem znG:jI prog 150 3 (.int .i64 0) jC.k 8:=by
 refine⟨by kernel_rfl,by kernel_rfl,rfl⟩
theorem zhu:Elem prog 191 194 (.int .u16 0) 2:=by
 refine⟨by kernel_rfl,by kernel_rfl,rfl⟩
def zad (l:List Nat):List Int:=l.map fun n=>((n:Nat):Int)
theorem zle {w:World} {b r:Nat} {size:Int} {q:List Value} {l:List Nat} (h:Cnt w b r size q l):Calls prog 93 #[.pointer (some ⟨b,0,none⟩)] w (Ret fun v w'=>∃ x:SLC,v=.slice x.1 x.2.1 x.2.2/\Owni jC 3 w' w.heap.size x.1 x.2.1 x.2.2 (zad l)/\Ext w w'):=by
 apply zpy;unfold S93;have hl:=h.len;refine zd (by rfl) ?_;refine zr ?_;refine yK (o:=2) (x:=(some ⟨r,0,none⟩,l.length,l.length+q.length)) h.head (by rfl) ?_;dsimp only;refine zw (fun y w'=>Ext w w'/\∃ (i:Nat) (A:Option Addr) (m c:Nat),i<=l.length/\y=((A,m,c),(i:Int),())/\Owni jC 3 w' w.heap.size A m c (zad (l.take i))) (fun y=>(l.length-y.2.1).toNat) ⟨Ext.refl w,0,none,0,0,by omega,rfl,Owni.nil _ _ _⟩ ?_;rintro _ w' ⟨he,i,A,m,c,hi,rfl,ho⟩;dsimp only;have hm:=ho.len;have hml:m<=4096:=by rw[<- hm];simp[zad];omega
 by_cases hlt:i<l.length
 ·refine zf (decide_eq_true (by omega)) ?_;refine zL ⟨by omega,by omega⟩ (zr ?_);rw[Int.toNat_natCast,Nat.mul_one];refine yK (h.row.ext he) (kU hlt) ?_;have hfit:=h.qD i;rw[wrap_i64 (x:=((l.getD i 0:Nat):Int)) (by omega) (by omega)];refine yW (E:=jC) (ys:=[((l.getD i 0:Nat):Int)]) (by rfl) rfl znG ho he.size (by omega) (by omega) ?_;intro A2 c2 w2 ho2 hg2;dsimp only;rw[wrap_i64 (by omega) (by omega)];refine⟨⟨he.grown hg2.grown ho.row,i+1,A2,_,c2,by omega,rfl,?_⟩,by omega⟩;have e:zad (l.take (i+1))=zad (l.take i)++[((l.getD i 0:Nat):Int)]:=by
   rw[take_succ_eq_append_getElem hlt,getD_eq_getElem?_getD,List.getElem?_eq_getElem hlt];simp only [zad,map_append,map_cons,List.map_nil];rfl
  rw[e];exact ho2
 ·obtain rfl:i=l.length:=by omega
  refine zd (decide_eq_false (by omega)) ?_;rw[take_of_length_le (by omega)]at ho;exact⟨(A,m,c),rfl,ho,he⟩
theorem zqp (k:IntKind) (xs:List Nat):∀ v∈uV k xs,v.oneCell'=true:=by
 intro v hv;obtain⟨t,_,rfl⟩:=mem_map.1 hv;rfl
theorem zgv {w:World} {r n cc:Nat} {l:List Nat} (h:Sl w (some ⟨r,0,none⟩) n (uV .u16 l)) (hm:n<=4096):Calls prog 144 #[.slice (some ⟨r,0,none⟩) n cc] w (Ret fun v w'=>∃ A c,v=.slice A n c/\Own 194 w' w.heap.size A n c (uV .u16 l)/\Ext w w'):=by
 apply zmE;unfold S144;refine zd (by rfl) ?_;apply yJ;have ho:Own 194 (w.alloc (.cells #[] 194)) w.heap.size (some ⟨w.heap.size,0,none⟩) 0 0 []:=Own.lit (cs:=#[]) (Nat.le_refl _) (by simp);have he:Ext w (w.alloc (.cells #[] 194)):=(Ext.refl w).alloc _;have hs:Sl (w.alloc (.cells #[] 194)) (some ⟨r,0,none⟩) n (uV .u16 l):=h.ext he;refine zan (c:=0) (n:=0) (m:=n) zhu ho he.size hs (zqp .u16 l) (by omega) (by omega) ?_;intro A' c' w' ho' hg _;rw[List.nil_append,Nat.zero_add]at ho';rw[Nat.zero_add];exact⟨A',c',rfl,ho',he.grown hg.grown (ho.row')⟩
def zcO (n:Nat):List Nat:=1::1::List.replicate (n-2) 0
theorem zlf (w:World) (size blocks:Int):Calls prog 114 #[.agg #[.int .i64 size,.int .i64 blocks]] w (Ret fun v w'=>∃ x:Option Addr,v=.tuple #[.pointer x,.int .i64 (if yc size blocks then 0 else 2)]/\(if yc size blocks then ∃ b r,x=some ⟨b,0,none⟩/\Cnt w' b r size [] (zcO blocks.toNat)/\w.heap.size<=b/\w.heap.size<=r else x=none)/\Ext w w'):=by
 apply zmi;unfold S114;apply yJ;have hb:Blk (w.alloc (.cells #[(.int .i64 size),(.int .i64 blocks)] 72)) w.heap.size [(.int .i64 size),(.int .i64 blocks)] 72:=Blk.new w _ _;have he:Ext w (w.alloc (.cells #[(.int .i64 size),(.int .i64 blocks)] 72)):=(Ext.refl w).alloc _;generalize w.alloc (.cells #[(.int .i64 size),(.int .i64 blocks)] 72)=w1 at hb he ⊢;refine za2 (ls:=[(.int .i64),(.int .i64)]) (x:=(size,blocks,())) hb rfl ?_;refine zb (qt w1 size blocks) ?_;rintro _ w2 ⟨rfl,he2⟩;refine⟨_,rfl,?_⟩;have he02:=he.trans he2;have hb2:=hb.ext he2;cases hok:yc size blocks with
 |false=>
  rw[if_neg (by simp)];refine zf (by rfl) ?_;exact⟨none,rfl,by rw[if_neg (by simp)],he02⟩
 |true=>
  rw[if_pos rfl];refine zd (by rfl) ?_;unfold yc at hok;have hok:=of_decide_eq_true hok;obtain⟨n,rfl⟩:∃ n:Nat,blocks=n:=⟨blocks.toNat,by omega⟩;have he3:=he02.drew;have hb3:=hb2.drew;show(zk _ _ _) w2.drew;generalize w2.drew=w3 at he3 hb3 ⊢;refine za2 (ls:=[(.int .i64),(.int .i64)]) (x:=(size,(n:Int),())) hb3 rfl ?_;refine yK (o:=1) (x:=(n:Int)) hb3 (by rfl) ?_;refine vG (B:=w3.heap.size) zhu rfl (Nat.le_refl _) (by omega) (by omega) ?_;intro w4 ho4 hg4;have he4:Ext w w4:=he3.none hg4;have h34:Ext w3 w4:=(Ext.refl w3).none hg4;have hrow:Blk w4 w3.heap.size (List.replicate n (.int .u16 0)) 194:=zbz ho4;have hr1:w.heap.size<=w3.heap.size:=he3.size;generalize w3.heap.size=r at hrow hr1 ⊢;have hb4:=hb3.ext h34;refine⟨fun ls hls p hp=>?_,?_⟩
  ·simp only [mem_singleton]at hls;subst hls;have hc:=hb4.jz;rcases mem_cons.1 hp with rfl|hp
   ·exact hc.1
   ·rcases mem_cons.1 hp with rfl|hp
    ·exact hc.2.1
    ·cases hp
  apply yJ;have hnb:Blk (w4.alloc (.cells #[(.int .i64 size),(.int .i64 (n:Int)),(.slice (some ⟨r,0,none⟩) n n)] 193)) w4.heap.size [(.int .i64 size),(.int .i64 (n:Int)),(.slice (some ⟨r,0,none⟩) n n)] 193:=Blk.new w4 _ _;have hrow5:=hrow.alloc (.cells #[(.int .i64 size),(.int .i64 (n:Int)),(.slice (some ⟨r,0,none⟩) n n)] 193);have he5:=he4.alloc (.cells #[(.int .i64 size),(.int .i64 (n:Int)),(.slice (some ⟨r,0,none⟩) n n)] 193);have hrlt:=hrow.lt;have hb1:=he4.size;dsimp only at hnb hrow5 he5 ⊢;generalize w4.alloc (.cells #[(.int .i64 size),(.int .i64 (n:Int)),(.slice (some ⟨r,0,none⟩) n n)] 193)=w5 at hnb hrow5 he5 ⊢;generalize w4.heap.size=b at hnb hrlt hb1 ⊢;have he6:=he5.drew;have hnb6:=hnb.drew;have hrow6:=hrow5.drew;show(zh _ _) w5.drew;generalize w5.drew=w6 at he6 hnb6 hrow6 ⊢;refine zr ?_;refine yK (o:=2) (x:=(some ⟨r,0,none⟩,n,n)) hnb6 (by rfl) ?_;refine zr ?_;refine yK (o:=2) (x:=(some ⟨r,0,none⟩,n,n)) hnb6 (by rfl) ?_;dsimp only;refine zL ⟨by omega,by omega⟩ (zr ?_);rw[show((aD r).add (Int.toNat 0*1))=⟨r,0,none⟩ by rw[zC];rfl];refine zQ hrow6 (by rw[length_replicate];omega) ?_;have hrow7:=hrow6.set 0 (.int .u16 1);have hnb7:=hnb6.other (p:=⟨r,0,none⟩) (by simp only;omega) (.int .u16 1);have he7:=he6.set (p:=⟨r,0,none⟩) hr1 (.int .u16 1);refine zL ⟨by omega,by omega⟩ (zr ?_);rw[show((aD r).add (Int.toNat 1*1))=⟨r,1,none⟩ by rw[zC];rfl];refine zQ hrow7 (by rw[length_set,length_replicate];omega) ?_;have hrow8:=hrow7.set 1 (.int .u16 1);have hnb8:=hnb7.other (p:=⟨r,1,none⟩) (by simp only;omega) (.int .u16 1);have he8:=he7.set (p:=⟨r,1,none⟩) hr1 (.int .u16 1);refine⟨some ⟨b,0,none⟩,rfl,?_,he8⟩;rw[if_pos rfl];have hlen:(zcO (Int.toNat (n:Int))).length=n:=by simp[zcO];omega
  have hcells:((List.replicate n (Value.int .u16 0)).set 0 (.int .u16 1)).set 1 (.int .u16 1)=uV .u16 (zcO (Int.toNat (n:Int)))++[]:=by
   rw[append_nil,Int.toNat_natCast];obtain⟨m,rfl⟩:∃ m,n=m+2:=⟨n-2,by omega⟩;simp[zcO,uV,List.replicate_succ]
  rw[hcells]at hrow8;refine⟨b,r,rfl,⟨by rw[hlen];exact hnb8,hrow8,by omega,by rw[hlen];omega,fun x hx=>?_⟩,hb1,hr1⟩;simp only [zcO,mem_cons,List.mem_replicate]at hx;omega
theorem znH {e:TypeId} {w:World} {B n c:Nat} {A:Option Addr} {vs:List Value} (h:Own e w B A n c vs) (hn:0<n):∃ g q,A=some ⟨g,0,none⟩/\Blk w g (vs++q) e/\c=n+q.length/\B<=g:=by
 rcases h.2 with ⟨h1,h2⟩|⟨g,cap,cur,hv,hbg,hg,hnc,hcm,hcs,htake⟩
 ·omega
 ·injection hv with hv1 hv2 hv3
  subst hv1 hv3;refine⟨g,cur.toList.drop n,rfl,?_,by rw[length_drop,Array.length_toList,hcs];omega,hbg⟩;rw[<- htake,Nat.mul_one,List.take_append_drop];show w.heap[g]?=_;rw[hg]
theorem zfx {w:World} {b r:Nat} {size:Int} {q:List Value} {l:List Nat} (h:Cnt w b r size q l):Calls prog 96 #[.pointer (some ⟨b,0,none⟩)] w (Ret fun v w'=>(∃ b2 r2 q2,v=.pointer (some ⟨b2,0,none⟩)/\Cnt w' b2 r2 size q2 l/\w.heap.size<=b2/\w.heap.size<=r2)/\Ext w w'):=by
 apply zpA;unfold S96;have hl:=h.len;refine zd (by rfl) ?_;have he1:=(Ext.refl w).drew;have h1:=h.ext he1;show(zh _ _) w.drew;generalize w.drew=w1 at he1 h1 ⊢;refine zr ?_;have hc:=h1.head.jz;refine qj (ls:=[(.int .i64),(.int .i64)]) (x:=(size,(l.length:Int),())) ⟨hc.1,hc.2.1,trivial⟩ ?_;refine zr ?_;refine yK (o:=2) (x:=(some ⟨r,0,none⟩,l.length,l.length+q.length)) h1.head (by rfl) ?_;dsimp only;have hsl:Sl w1 (some ⟨r,0,none⟩) l.length (uV .u16 l):=⟨by rw[kV],by omega,fun _=>⟨_,rfl,fun j v hj=>by
  have hjl:j<(uV .u16 l).length:=(List.getElem?_eq_some_iff.1 hj).1
  rw[zC,h1.row.cell,Nat.zero_add,List.getElem?_append_left hjl]
  exact hj⟩⟩
 refine zb (zgv hsl (by omega)) ?_;rintro _ w2 ⟨A,c,rfl,ho,he2⟩;refine⟨(A,l.length,c),rfl,?_⟩;dsimp only;obtain⟨g,q2,rfl,hg,rfl,hBg⟩:=znH ho (by omega);have h2:=h1.ext he2;have hc2:=h2.head.jz;refine⟨fun ls hls p hp=>?_,?_⟩
 ·simp only [mem_singleton]at hls;subst hls;rcases mem_cons.1 hp with rfl|hp
  ·exact hc2.1
  ·rcases mem_cons.1 hp with rfl|hp
   ·exact hc2.2.1
   ·cases hp
 apply yJ;have hnb:Blk (w2.alloc (.cells #[(.int .i64 size),(.int .i64 (l.length:Int)),(.slice (some ⟨g,0,none⟩) l.length (l.length+q2.length))] 193)) w2.heap.size [(.int .i64 size),(.int .i64 (l.length:Int)),(.slice (some ⟨g,0,none⟩) l.length (l.length+q2.length))] 193:=Blk.new w2 _ _;have hgl:=hg.lt;have hs1:=he1.size;have hs2:=he2.size;exact⟨⟨w2.heap.size,g,q2,rfl,⟨hnb,hg.alloc _,by omega,hl,h.fits⟩,by omega,by omega⟩,(he1.trans he2).alloc _⟩
end V
/- Contracts of counts.Pages and what it calls. -/
namespace V
open Go Go.Proofs Go.RowKit
theorem zlg:jI prog 158 9 (.string ByteArray.empty) xL.k 16:=by
 refine⟨by kernel_rfl,by kernel_rfl,rfl⟩
theorem Owni.qd {α:Type} {E:Enc α} {e:TypeId} {w w':World} {B a b n c:Nat} {A:Option Addr} {xs:List α} (h:Owni E e w B A n c xs) (hs:yN a b w w') (ha:a<B) (hb:b<B):Owni E e w' B A n c xs:=by
 refine⟨h.1,?_⟩;rcases h.2 with h1|⟨g,cap,cur,hv,hB,hg,r⟩
 ·exact .inl h1
 ·exact .inr ⟨g,cap,cur,hv,hB,(hs.2.2.2.2 g (by omega) (by omega)).trans hg,r⟩
theorem Ext.qd {w0 w w':World} {a b:Nat} (h:Ext w0 w) (hs:yN a b w w') (ha:w0.heap.size<=a) (hb:w0.heap.size<=b):Ext w0 w':=
 ⟨hs.1.trans h.os,hs.2.1.trans h.tape,hs.2.2.1.trans h.output,by have:=h.size;have:=hs.2.2.2.1;omega,fun k hk=>(hs.2.2.2.2 k (by omega) (by omega)).trans (h.block k hk)⟩
def zdc (l:List Nat) (per i:Nat):List UInt8:=((l.drop (i*per)).take per).flatMap (le 2)
def ya (l:List Nat) (per:Nat):List ByteArray:=(List.range (yt l.length per)).map fun i=>⟨(zdc l per i).toArray⟩
def zN (size:Int):Nat:=(Int.tdiv (zI size) 2).toNat
theorem ka {size:Int} (hs:yc size 8=true):56<=zN size/\zN size<=2040/\wrap .i64 (Int.tdiv (zI size) 2)=((zN size:Nat):Int):=by
 unfold zN zI;rw[if_pos hs];unfold yc at hs;have hs:=of_decide_eq_true hs;have e:Int.tdiv (size-16) 2=(size-16) / 2:=Int.tdiv_eq_ediv_of_nonneg (by omega);rw[e,wrap_i64 (by omega) (by omega)];omega
theorem zqN {w:World} {r n:Nat} {l:List Nat} {q:List Value} {k:IntKind} {t:TypeId} (h:Blk w r (uV k l++q) t) (hn:l.length=n) (hm:n<=4096):Sl w (some ⟨r,0,none⟩) n (uV k l):=
 ⟨by rw[kV,hn],by omega,fun _=>⟨_,rfl,fun j v hj=>by
  have hjl:j<(uV k l).length:=(List.getElem?_eq_some_iff.1 hj).1
  rw[zC,h.cell,Nat.zero_add,List.getElem?_append_left hjl]
  exact hj⟩⟩
theorem zpK (k:IntKind) (l:List Nat) (i:Nat):(uV k l).drop i=uV k (l.drop i):=by simp[uV,List.map_drop]
theorem zpL (k:IntKind) (l:List Nat) (i:Nat):(uV k l).take i=uV k (l.take i):=by simp[uV,List.map_take]
theorem ziw {w:World} {b r:Nat} {size:Int} {q:List Value} {l:List Nat} (h:Cnt w b r size q l) (hs:yc size 8=true):Calls prog 141 #[.pointer (some ⟨b,0,none⟩)] w (Ret fun v w'=>∃ x:SLC,v=.slice x.1 x.2.1 x.2.2/\Owni xL 9 w' w.heap.size x.1 x.2.1 x.2.2 (ya l (zN size))/\Ext w w'):=by
 apply zmB;unfold S141;have hl:=h.len;obtain⟨hp1,hp2,hper⟩:=ka hs;apply yJ;have hr1:=Blk.new w #[.slice none 0 0] 158;have he1:=(Ext.refl w).alloc (.cells #[.slice none 0 0] 158);generalize w.alloc (.cells #[.slice none 0 0] 158)=w1 at hr1 he1 ⊢;generalize hrr:w.heap.size=r1 at hr1 ⊢;refine zd (by rfl) ?_;have he1:=he1.drew;have hr1:=hr1.drew;have h1:=h.ext he1;show(zh _ _) w1.drew;generalize w1.drew=w2 at he1 hr1 h1 ⊢;refine zr ?_;refine yK (o:=2) (x:=(some ⟨r,0,none⟩,l.length,l.length+q.length)) h1.head (by rfl) ?_;dsimp only;refine zr ?_;refine zl (x:=size) h1.head (by rfl) ?_;refine zb (jq w2 size) ?_;rintro _ w3 ⟨rfl,he3⟩;refine⟨_,rfl,?_⟩;have he03:=he1.trans he3;have hr3:=hr1.ext he3;have h3:=h1.ext he3;refine⟨fun ls hls p hp=>?_,?_⟩
 ·simp only [mem_singleton]at hls;subst hls;simp only [mem_singleton]at hp;subst hp;exact h3.head.jz.2.2.1
 rw[hper];refine zb (zgu (by omega) (by omega) (by omega)) ?_;rintro v w4 ⟨hit,hRc,hs4,he4⟩;refine⟨v,rfl,?_⟩;have he04:=he03.trans he4;have hr4:=hr3.ext he4;have h4:=h3.ext he4;have hsz:=he03.size;have hr3lt:=hr3.lt;generalize hper2:zN size=per at *;refine za4 (R:=zbG w3.heap.size (w3.heap.size+1) (some ⟨r,0,none⟩) l.length (l.length+q.length) per) (fun i w'=>Ext w w'/\zbG w3.heap.size (w3.heap.size+1) (some ⟨r,0,none⟩) l.length (l.length+q.length) per w'/\∃ A c,Blk w' r1 [.slice A i c] 158/\Owni xL 9 w' (w4.heap.size+2) A i c ((ya l per).take i)) hit (fun i w' hI=>hI.2.1) (fun i w' hI=>⟨hI.1.drew,hI.2⟩) ?_ ?_ ?_ ?_
 ·rintro i w' w'' hsb ⟨e1,⟨e2,e3⟩,A,c,e4,e5⟩;exact⟨e1.qd hsb (by omega) (by omega),⟨(hsb.2.2.2.2 _ (by omega) (by omega)).trans e2,(hsb.2.2.2.2 _ (by omega) (by omega)).trans e3⟩,A,c,(hsb.2.2.2.2 _ (by omega) (by omega)).trans e4,e5.qd hsb (by omega) (by omega)⟩
 ·intro o;exact⟨(he04.alloc _).alloc _,⟨(hRc.1.alloc _).alloc _,(hRc.2.alloc _).alloc _⟩,none,0,(hr4.alloc _).alloc _,Owni.nil _ _ _⟩
 ·rintro i hi w' N jump ⟨e1,⟨e2,e3⟩,A,c,e4,e5⟩ hsz' hN;rw[xM]at hi;have hin:=(uT (by omega)).1 hi;refine⟨((zo (some ⟨r,0,none⟩) (i*per) (i*per+min per (l.length-i*per)) 1,min per (l.length-i*per),min per (l.length-i*per)),()),by simp[qy],?_⟩;dsimp only;have hcut:Sl w' (zo (some ⟨r,0,none⟩) (i*per) (i*per+min per (l.length-i*per)) 1) (min per (l.length-i*per)) (uV .u16 ((l.drop (i*per)).take per)):=by
   have:=(zqN (h.ext e1).row rfl hl.2).cut (l:=i*per) (k:=min per (l.length-i*per)) (m:=i*per+min per (l.length-i*per)) (by omega) (by omega);rw[zpK,zpL]at this;have e:(l.drop (i*per)).take (min per (l.length-i*per))=(l.drop (i*per)).take per:=by
    rcases Nat.le_total per (l.length-i*per) with h|h
    ·rw[Nat.min_eq_left h]
    ·rw[Nat.min_eq_right h,take_of_length_le (by simp),take_of_length_le (by simpa using h)]
   rw[e]at this;exact this
  have hml:((l.drop (i*per)).take per).length=min per (l.length-i*per):=by simp
  generalize min per (l.length-i*per)=m at hcut hml ⊢;generalize zo (some ⟨r,0,none⟩) (i*per) (i*per+m) 1=X at hcut ⊢;have hpage:zdc l per i=((l.drop (i*per)).take per).flatMap (le 2):=rfl;have hcs:∀ x∈(l.drop (i*per)).take per,x<65536:=fun x hx=>h.fits x (List.mem_of_mem_drop (List.mem_of_mem_take hx))
  have hm:m<=4096:=by have:((l.drop (i*per)).take per).length<=l.length:=by simp;omega
                      omega
  generalize (l.drop (i*per)).take per=cs at hcut hml hpage hcs;refine zw (fun y w2=>Ext w' w2/\∃ (j:Nat) (A2:Option Addr) (c2:Nat),j<=m/\y=((A2,2*j,c2),(j:Int),())/\Own 5 w2 w'.heap.size A2 (2*j) c2 (bV ((cs.take j).flatMap (le 2)))) (fun y=>(m-y.2.1).toNat) ⟨Ext.refl w',0,none,0,by omega,rfl,Own.nil _ _ _⟩ ?_;rintro _ w5 ⟨e6,j,A2,c2,hj,rfl,ho⟩;dsimp only
  by_cases hlt:j<m
  ·refine zf (decide_eq_true (by omega)) ?_;have hcut5:=hcut.ext e6;refine zL ⟨by omega,by omega⟩ ?_;obtain⟨a,ha,hcell⟩:=hcut5.2.2 (by omega);refine⟨a,ha,?_⟩;rw[Int.toNat_natCast,Nat.mul_one];refine zaD (x:=((cs.getD j 0:Nat):Int)) (hcell j _ (zlb (by omega))) ?_;have hx:cs.getD j 0<65536:=by
    rw[getD_eq_getElem?_getD,List.getElem?_eq_getElem (by omega)];exact hcs _ (getElem_mem _)
   rw[zD (by omega)];refine zb (xp (k:=2) ho e6.size (by omega) (by omega) (by omega) (by omega)) ?_;rintro _ w6 ⟨x,rfl,ho6,hg6⟩;refine⟨x,rfl,?_⟩;rw[wrap_i64 (by omega) (by omega)];have hlen:x.2.1=2*(j+1):=by
    have:=ho6.sl.blen;rw[length_append,zx]at this;have:=ho.sl.blen;omega
   obtain⟨x1,x2,x3⟩:=x;dsimp only at hlen ho6 hg6 ⊢;subst hlen;refine⟨⟨e6.grown hg6.grown ho.row',j+1,x1,x3,by omega,rfl,?_⟩,by omega⟩;have e:(cs.take (j+1)).flatMap (le 2)=(cs.take j).flatMap (le 2)++le 2 (cs.getD j 0):=by
    rw[take_succ_eq_append_getElem (by omega),flatMap_append,getD_eq_getElem?_getD,List.getElem?_eq_getElem (by omega)];simp
   rw[e];exact ho6
  ·obtain rfl:j=m:=by omega
   refine zd (decide_eq_false (by omega)) ?_;rw[take_of_length_le (by omega),<- hpage]at ho;refine zl (x:=(A,i,c)) (e4.ext e6) (by rfl) ?_;dsimp only;refine qS (e:=5) (by kernel_rfl) (by kernel_rfl) (by kernel_rfl) ho.sl ?_;have hii:i<=4096:=by
    have:i*1<=i*per:=Nat.mul_le_mul_left _ (by omega);omega
   refine yW (E:=xL) (ys:=[(⟨(zdc l per i).toArray⟩:ByteArray)]) (by rfl) rfl zlg (e5.ext e6) (by have:=e6.size;omega) (by omega) (by omega) ?_;intro A3 c3 w6 ho3 hg3;have e46:Blk w6 r1 [.slice A i c] 158:=(e4.ext e6).grown hg3.grown (by intro hh;have:=e5.row _ hh.symm;omega);refine zQ e46 (by simp) ?_;have hset:=e46.set 0 (.slice A3 (i+1) c3);have e7:=e1.trans e6;have e8:Ext w w6:=e7.grown hg3.grown (fun j hj=>by have:=e5.row j hj;omega);have hx6:∀ k,k<w4.heap.size+2->w6.heap[k]?=w'.heap[k]?:=fun k hk=>by
    rw[hg3.grown.block k (by have:=e6.size;omega) (fun hh=>by have:=e5.row _ hh.symm;omega)];exact e6.block k (by omega)
   refine hN _ ⟨e8.set (by simp only;omega) _,⟨?_,?_⟩,A3,c3,hset,?_⟩ ?_ ?_
   ·exact Blk.other (show Blk w6 _ _ _ from(hx6 _ (by omega)).trans e2) (by simp only;omega) _
   ·exact Blk.other (show Blk w6 _ _ _ from(hx6 _ (by omega)).trans e3) (by simp only;omega) _
   ·have e9:(ya l per).take (i+1)=(ya l per).take i++[(⟨(zdc l per i).toArray⟩:ByteArray)]:=by
     rw[take_succ_eq_append_getElem (by simpa [ya] using hi)];simp[ya]
    rw[e9];refine ho3.grown (row:=some r1) ⟨rfl,rfl,rfl,by simp,fun k hk hne=>Below.heap_setCell _ _ _ _ (fun e=>hne (by rw[e]))⟩ (fun j hj he=>?_);injection hj with hj
    have:=ho3.row _ he;omega
   ·have:=hg3.grown.size;have:=e6.size;simp;omega
   ·intro k hk;rw[Below.heap_setCell _ _ _ _ (by simp only;omega)];exact hx6 k (by omega)
 ·rintro w' ⟨e1,⟨e2,e3⟩,A,c,e4,e5⟩ hsz' hd;have elen:(ya l per).length=yt l.length per:=by simp[ya]
  rw[xM]at e4 e5;rw[take_of_length_le (by omega)]at e5;show(ldW _ _ _) w';refine zl (x:=(A,yt l.length per,c)) e4 (by rfl) ?_;dsimp only;refine zQ e4 (by simp) ?_;have hset:=e4.set 0 (.slice A (yt l.length per) c);refine jg (by rw[Below.heap_setCell _ _ _ _ (by simp only;omega)];exact hd) ?_;show(ldW _ _ _) _;refine zl (x:=(A,yt l.length per,c)) (show Blk _ r1 [.slice A (yt l.length per) c] 158 from(zR (by omega)).trans hset) (by rfl) ?_;refine⟨(A,yt l.length per,c),rfl,?_,(e1.set (by simp only;omega) _).yE (by omega) _⟩;have e6:=e5.grown (w':=w'.setCell ⟨r1,0,none⟩ (.slice A (yt l.length per) c)) (row:=some r1) ⟨rfl,rfl,rfl,by simp,fun k hk hne=>Below.heap_setCell _ _ _ _ (fun e=>hne (by rw[e]))⟩ (fun j hj he=>by
   injection hj with hj
   have:=e5.row _ he
   omega)
  have e7:Owni xL 9 (yE (w'.setCell ⟨r1,0,none⟩ (.slice A (yt l.length per) c)) w4.heap.size (.deferred none)) (w4.heap.size+2) A (yt l.length per) c (ya l per):=
   e6.qd (z8 (b:=w4.heap.size) (.inl rfl)) (by omega) (by omega)
  exact e7.lower (by omega)
end V
/- Pages of counts,read again:plain. -/
namespace V
open Go
end V
/- Contracts of counts.Load and of the reference's counts. -/
namespace V
open Go Go.Proofs Go.RowKit
theorem zqO (a b:Nat):Int.tdiv (a:Int) (b:Int)=((a / b:Nat):Int):=rfl
theorem zd8 {size:Int} (hs:yc size 8=true):zI size=((2*zN size:Nat):Int):=by
 unfold zN zI;rw[if_pos hs];unfold yc at hs;have hs:=of_decide_eq_true hs;have e:Int.tdiv (size-16) 2=(size-16) / 2:=Int.tdiv_eq_ediv_of_nonneg (by omega);have e2:Int.tmod size 64=size % 64:=Int.tmod_eq_emod_of_nonneg (by omega);rw[e];omega
theorem zd9 {size blocks:Int} (h:yc size blocks=true):yc size 8=true/\∃ n:Nat,blocks=n/\8<=n/\n<=4096:=by
 unfold yc at h ⊢;have h:=of_decide_eq_true h;exact⟨decide_eq_true (by omega),blocks.toNat,by omega⟩
def spages (size blocks:Int):Int:=if yc size blocks then ((yt blocks.toNat (zN size):Nat):Int) else 0
theorem zhv (w:World) (size blocks:Int):Calls prog 115 #[.agg #[.int .i64 size,.int .i64 blocks]] w (Ret fun v w'=>v=.int .i64 (spages size blocks)/\Ext w w'):=by
 apply zhb;unfold S115 spages;apply yJ;have hb:Blk (w.alloc (.cells #[(.int .i64 size),(.int .i64 blocks)] 72)) w.heap.size [(.int .i64 size),(.int .i64 blocks)] 72:=Blk.new w _ _;have he:Ext w (w.alloc (.cells #[(.int .i64 size),(.int .i64 blocks)] 72)):=(Ext.refl w).alloc _;generalize w.alloc (.cells #[(.int .i64 size),(.int .i64 blocks)] 72)=w1 at hb he ⊢;refine za2 (ls:=[(.int .i64),(.int .i64)]) (x:=(size,blocks,())) hb rfl ?_;refine zb (qt w1 size blocks) ?_;rintro _ w2 ⟨rfl,he2⟩;refine⟨_,rfl,?_⟩;have he02:=he.trans he2;have hb2:=hb.ext he2;cases hok:yc size blocks with
 |false=>rw[if_neg (by simp),if_neg (by simp)];exact zf (by rfl) ⟨rfl,he02⟩
 |true=>
  rw[if_pos rfl,if_pos rfl];refine zd (by rfl) ?_;obtain⟨h8,n,rfl,hn1,hn2⟩:=zd9 hok;refine zl (x:=size) hb2 (by rfl) ?_;refine zb (jq w2 size) ?_;rintro _ w3 ⟨rfl,he3⟩;refine⟨_,rfl,?_⟩;refine yK (o:=1) (x:=(n:Int)) (hb2.ext he3) (by rfl) ?_;obtain⟨hp1,hp2,_⟩:=ka h8;rw[zd8 h8,Int.toNat_natCast];generalize zN size=per at hp1 hp2 ⊢;refine zL (by omega) ⟨?_,he02.trans he3⟩;rw[wrap_i64 (x:=(2:Int)*(n:Int)) (by omega) (by omega),wrap_i64 (x:=(2:Int)*(n:Int)+((2*per:Nat):Int)) (by omega) (by omega),wrap_i64 (x:=(2:Int)*(n:Int)+((2*per:Nat):Int)-1) (by omega) (by omega)];rw[show(2:Int)*(n:Int)+((2*per:Nat):Int)-1=((2*n+2*per-1:Nat):Int) by omega,zqO];have e:(2*n+2*per-1) / (2*per)=yt n per:=by
   unfold yt;rw[<- Nat.div_div_eq_div_mul];congr 1;omega
  rw[e];have:yt n per<=n:=by
   unfold yt;rw[Nat.div_le_iff_le_mul_add_pred (by omega)];have:1*n<=per*n:=Nat.mul_le_mul_right _ (by omega);omega
  rw[wrap_i64 (by omega) (by omega)]
end V
/- Contracts of the package super,and of the document's answer (11):pages,checks,blocks. -/
namespace V
open Go Go.Proofs Go.RowKit Crc
theorem zoh {ls:List Lf} {w:World} {b o:Nat} {cs rest:List Value} {t:TypeId} {K:LT ls->WP} (x:LT ls) (h:Blk w b cs t) (hx:cs.drop o=LT.vals ls x++rest) (hK:K x w):zk ls ((aD b).add o) K w:=by
 refine qj (x:=x) ?_ hK;refine zby (a:=⟨b,0,none⟩) rfl (vs:=LT.vals ls x) (o:=o) ?_ _ 0 rfl;intro j v hj;rw[zC,h.cell,Nat.zero_add,<- List.getElem?_drop,hx,List.getElem?_append_left]
 ·exact hj
 ·exact(List.getElem?_eq_some_iff.1 hj).1
theorem zoi {l:Lf} {w:World} {b:Nat} {cs:List Value} {t:TypeId} {K:l.T->WP} (x:l.T) (h:Blk w b cs t) (hx:cs[2]?=some (l.val x)) (hK:K x w):ldW l (((aD b).add 1).add 1) K w:=by
 rw[show(((aD b).add 1).add 1)=(aD b).add 2 by simp only [zC]];exact zm 2 x h hx hK
theorem zqP {w:World} {a:Addr} {v:Value} {K:WP} (h:w.cell? a=some v) (hK:K w):zt [[(a,v)]] K w:=by
 refine⟨fun l hl p hp=>?_,hK⟩;simp only [mem_singleton]at hl;subst hl;simp only [mem_singleton]at hp;subst hp;exact h
theorem zgI {w:World} {b o:Nat} {cs:List Value} {t:TypeId} {v:Value} {K:WP} (h:Blk w b cs t) (hv:cs[o]?=some v) (hK:K w):zt [[((aD b).add o,v)]] K w:=
 zqP (by rw[zC,h.cell,Nat.zero_add];exact hv) hK
abbrev sLs:List Lf:=[.int .u64,.int .i64,.int .i64,.int .u32,.slc]
def sT (s:Sup) (x:SLC):Int×Int×Int×Int×SLC×Unit:=((s.gen:Int),s.size,s.blocks,(s.root:Int),x,())
def sV (s:Sup) (x:SLC):List Value:=[.int .u64 (s.gen:Int),.int .i64 s.size,.int .i64 s.blocks,.int .u32 (s.root:Int),.slice x.1 x.2.1 x.2.2]
theorem zqq (s:Sup) (x:SLC):∀ v∈sV s x,v.oneCell'=true:=by
 intro v hv;simp only [sV,mem_cons,not_mem_nil,or_false]at hv;rcases hv with rfl|rfl|rfl|rfl|rfl<;>rfl
structure Pg (w:World) (x:SLC) (ps:List Nat):Prop where
 sl:Sli (zv .u32) w x.1 x.2.1 ps
 nc:x.2.1<=x.2.2
theorem Pg.ext {w w':World} {x:SLC} {ps:List Nat} (h:Pg w x ps) (he:Ext w w'):Pg w' x ps:=⟨h.sl.ext he,h.nc⟩
theorem Pg.len {w:World} {x:SLC} {ps:List Nat} (h:Pg w x ps):ps.length=x.2.1:=h.sl.len
theorem zea (w:World) (size blocks:Int):Calls prog 115 #[.agg #[.int .i64 size,.int .i64 blocks]] w (Ret fun v w'=>v=.int .i64 (kS size blocks)/\Ext w w'):=by
 apply zhb;unfold S115 kS;refine zq fun r1 w1 hb1 he1 _ _=>?_;refine zZ (ls:=[.int .i64,.int .i64]) (size,blocks,()) hb1 rfl ?_;refine zb (qt w1 size blocks) ?_;rintro _ w2 ⟨rfl,he2⟩;refine⟨_,rfl,?_⟩;have hb1:=hb1.ext he2;have he:=he1.trans he2;cases hg:yc size blocks with
 |false=>exact zf (by rfl) ⟨rfl,he⟩
 |true=>
  obtain⟨h0,h1,h2,h3,h4⟩:=qg hg;refine zd (by rfl) ?_;refine zF size hb1 (by rfl) ?_;refine zb (jq w2 size) ?_;rintro _ w3 ⟨rfl,he3⟩;refine⟨_,rfl,?_⟩;have hb1:=hb1.ext he3;refine zm 1 blocks hb1 (by rfl) (zL (by omega) ?_);rw[if_pos rfl];have hd:Int.tdiv (2*blocks+zI size-1) (zI size)=(2*blocks+zI size-1) / zI size:=Int.tdiv_eq_ediv_of_nonneg (by omega);have hle:=Int.ediv_le_self (a:=2*blocks+zI size-1) (zI size) (by omega);have h0':=Int.ediv_nonneg (a:=2*blocks+zI size-1) (b:=zI size) (by omega) (by omega);rw[wrap_i64 (x:=2*blocks) (by omega) (by omega),wrap_i64 (x:=2*blocks+zI size) (by omega) (by omega),wrap_i64 (x:=2*blocks+zI size-1) (by omega) (by omega),hd,wrap_i64 (by omega) (by omega)];exact⟨rfl,he.trans he3⟩
theorem zeR {w:World} {b:Nat} {s:Sup} {x:SLC} {t:TypeId} {n:Nat} (hb:Blk w b (sV s x) t) (hn:n<4294967296) (h0:0<=s.blocks) (h1:s.blocks<9223372036854775808):
  Calls prog 161 #[.int .u32 (n:Int),.pointer (some ⟨b,0,none⟩)] w (Ret fun v w'=>v=.bool (vZ s.blocks n)/\w'=w):=by
 apply zmJ;unfold S161 vZ;refine zg (fun h=>?_) (fun h=>?_)
 ·have h:=of_decide_eq_true h;refine zoi s.blocks hb (by rfl) ?_;obtain⟨k,hk⟩:∃ k:Nat,s.blocks=k:=⟨s.blocks.toNat,by omega⟩;rw[hk,zD (by omega),zD (by omega)];refine⟨?_,rfl⟩;congr 1;exact decide_eq_decide.2 (by omega)
 ·have h:=of_decide_eq_false h;refine⟨?_,rfl⟩;congr 1;exact(decide_eq_false (by omega)).symm
theorem zix {w:World} {A:Option Addr} {n c:Nat} {xs:List Nat} {y:Nat} (h:Sli (zv .u32) w A n xs):
  Calls prog 164 #[.slice A n c,.int .u32 (y:Int)] w (Ret fun v w'=>(∃ k:Int,v=.int .i64 k/\(0<=k↔y∈xs))/\w'=w):=by
 apply zmM;unfold S164;have hl:=h.len;have hle:=h.le;refine zw (fun z w'=>∃ i:Nat,i<=n/\z=((i:Int),())/\w'=w/\y∉xs.take i) (fun z=>(n-z.1).toNat) ⟨0,by omega,rfl,rfl,by simp⟩ ?_;rintro _ _ ⟨i,hi,rfl,rfl,hno⟩;dsimp only
 by_cases hlt:i<n
 ·refine zf (decide_eq_true (by omega)) ?_;refine z6 h (by omega) (by omega) ?_;rw[Int.toNat_natCast];have e:xs[i]?=some (xs.getD i 0):=by rw[getD_eq_getElem?_getD,List.getElem?_eq_getElem (by omega)];rfl
  refine zg (fun hq=>?_) (fun hq=>?_)
  ·have hq:=beq_iff_eq.1 hq
   refine⟨⟨_,rfl,by constructor<;>intro _;· exact mem_of_getElem? (i:=i) (by rw[e];congr 1;omega)
                    ·omega⟩,rfl⟩
  ·have hq:=beq_eq_false_iff_ne.1 hq;refine⟨⟨i+1,by omega,by rw[wrap_i64 (by omega) (by omega)];rfl,rfl,?_⟩,by rw[wrap_i64 (by omega) (by omega)];omega⟩;rw[take_add_one,e];simp only [Option.toList_some,mem_append,mem_singleton];rintro(hh|hh)
   ·exact hno hh
   ·exact hq (by rw[hh])
 ·refine zd (decide_eq_false (by omega)) ?_
  refine⟨⟨_,rfl,by constructor;· intro hh;omega
                   ·intro hh;rw[take_of_length_le (by omega)]at hno;exact absurd hh hno⟩,rfl⟩
theorem zbd {w:World} {A:Option Addr} {n c:Nat} {xs:List Nat} {y:Nat} (h:Sli (zv .u32) w A n xs):
  Calls prog 120 #[.slice A n c,.int .u32 (y:Int)] w (Ret fun v w'=>v=.bool (decide (y∈xs))/\w'=w):=by
 apply zmn;unfold S120;refine zb (zix (c:=c) h) ?_;rintro _ _ ⟨⟨k,rfl,hk⟩,rfl⟩;refine⟨k,rfl,?_,rfl⟩;congr 1;exact decide_eq_decide.2 (by rw[<- hk])
theorem Sup.Fits.at_ {s:Sup} (h:s.Fits) (i:Nat):s.pages.getD i 0<4294967296:=by
 by_cases hi:i<s.pages.length
 ·rw[getD_eq_getElem?_getD,List.getElem?_eq_getElem hi];exact h.pages _ (getElem_mem hi)
 ·rw[getD_eq_getElem?_getD,List.getElem?_eq_none (by omega)];show 0<4294967296
  decide
theorem zdC {w:World} {s:Sup} {x:SLC} (hf:s.Fits) (hp:Pg w x s.pages):
  Calls prog 117 #[.agg (sV s x).toArray] w (Ret fun v w'=>v=.int .i64 (chk s)/\Ext w w'):=by
 apply zmk;unfold S117;have hlen:=hp.len;refine zq fun r1 w1 hb1 he1 _ _=>?_;have hb1:Blk w1 r1 (sV s x) 79:=hb1;have hp:=hp.ext he1;refine yu (fun _ w'=>s.head/\Ext w1 w') ?_ (fun J hJ=>?_)
 ·rintro _ w2 ⟨hh,he2⟩;have hb1:=hb1.ext he2;have hp:=hp.ext he2;have he2:=he1.trans he2;obtain⟨h0,h1,h2,h3,h4⟩:=qg hh.1;have hpl:=zjV (size:=s.size) (blocks:=s.blocks);have hln:(s.pages.length:Int)<=20000:=by have:=hh.2.2.2;omega
  refine zm 4 x hb1 (by rfl) ?_;refine zw (fun y w'=>∃ i:Nat,i<=x.2.1/\y=((i:Int),())/\Ext w2 w'/\∀ j,j<i->s.good j) (fun y=>(x.2.1-y.1).toNat) ⟨0,by omega,rfl,Ext.refl w2,fun j hj=>by omega⟩ ?_;rintro _ w3 ⟨i,hi,rfl,he3,hgood⟩;have hb1:=hb1.ext he3;have hp:=hp.ext he3;have he3':=he2.trans he3;dsimp only
  by_cases hlt:i<x.2.1
  ·refine zf (decide_eq_true (by omega)) ?_;refine z6 hp.sl (by omega) (by omega) ?_;rw[Int.toNat_natCast];refine xD (by kernel_rfl) ?_;refine zb (zeR hb1 (hf.at_ i) (by omega) (by omega)) ?_;rintro _ w4 ⟨rfl,hw⟩;subst hw;refine⟨_,rfl,?_⟩;cases hpo:vZ s.blocks (s.pages.getD i 0) with
   |false=>exact zf (by rfl) ⟨by rw[zfv (s:=s) (j:=i) (by omega) (fun h=>by rw[h.1]at hpo;cases hpo)],he3'⟩
   |true=>
    refine zd (by rfl) ?_;refine zm 3 (s.root:Int) hb1 (by rfl) ?_;refine zg (fun hq=>?_) (fun hq=>?_)
    ·have hq:=beq_iff_eq.1 hq;exact⟨by rw[zfv (s:=s) (j:=i) (by omega) (fun h=>h.2.1 (by omega))],he3'⟩
    have hq:=beq_eq_false_iff_ne.1 hq;refine zm 4 x hb1 (by rfl) (zL ⟨by omega,by have:=hp.nc;omega⟩ ?_);have hcut:=hp.sl.zfl (k:=i) (m:=x.2.2) (z:=1) rfl (by omega) (by have:=hp.nc;omega);refine zb (zbd (c:=x.2.2) hcut) ?_;rintro _ w4 ⟨rfl,hw⟩;subst hw;refine⟨_,rfl,?_⟩
    by_cases hm:s.pages.getD i 0∈s.pages.take i
    ·exact zf (decide_eq_true hm) ⟨by rw[zfv (s:=s) (j:=i) (by omega) (fun h=>h.2.2 hm)],he3'⟩
    ·refine zd (decide_eq_false hm) ?_;refine⟨⟨i+1,by omega,by rw[wrap_i64 (by omega) (by omega)];rfl,he3,fun j hj=>?_⟩,by rw[wrap_i64 (by omega) (by omega)];omega⟩
     by_cases hji:j=i
     ·subst hji;exact⟨hpo,fun e=>hq (by rw[e]),hm⟩
     ·exact hgood j (by omega)
  ·refine zd (decide_eq_false (by omega)) ?_;refine zK fun w4 he4 _ _=>?_;have hb1:=hb1.ext he4;have he4:=he3'.trans he4;refine zm 4 x hb1 (by rfl) (zm 1 s.size hb1 (by rfl) ?_);refine zb (jq w4 s.size) ?_;rintro _ w5 ⟨rfl,he5⟩;refine⟨_,rfl,?_⟩;have hb1:=hb1.ext he5;refine zgI hb1 (by rfl) ?_;rw[wrap_i64 (x:=4*(x.2.1:Int)) (by omega) (by omega),wrap_i64 (by omega) (by omega),zhp hh (fun j hj=>hgood j (by omega)),hlen];refine zg (fun hq=>?_) (fun hq=>?_)
   ·rw[if_pos (of_decide_eq_true hq)];exact⟨rfl,he4.trans he5⟩
   ·rw[if_neg (of_decide_eq_false hq)];exact⟨rfl,he4.trans he5⟩
 ·have bad:∀ {w':World},¬s.head->Ext w w'->(Value.int .i64 2=.int .i64 (chk s)/\Ext w w'):=fun h he=>⟨by rw[znD h],he⟩;refine zK fun w2 he2 _ _=>?_;have hb1:=hb1.ext he2;refine zoh (ls:=[.int .i64,.int .i64]) (s.size,s.blocks,()) hb1 (by rfl) ?_;refine zb (qt w2 s.size s.blocks) ?_;rintro _ w3 ⟨rfl,he3⟩;refine⟨_,rfl,?_⟩;have hb1:=hb1.ext he3;have he3:=he2.trans he3;cases hg:yc s.size s.blocks with
  |false=>exact zf (by rfl) (bad (fun h=>by rw[h.1]at hg;cases hg) (he1.trans he3))
  |true=>
   obtain⟨h0,h1,h2,h3,h4⟩:=qg hg;refine zd (by rfl) ?_;refine zF (s.gen:Int) hb1 (by rfl) ?_;refine zg (fun hq=>?_) (fun hq=>?_)
   ·exact bad (fun h=>h.2.1 (by have:=beq_iff_eq.1 hq;omega)) (he1.trans he3)
   have hgen:=beq_eq_false_iff_ne.1 hq;refine zm 3 (s.root:Int) hb1 (by rfl) ?_;have last:∀ {w':World},Blk w' r1 (sV s x) 79->Ext w1 w'->(s.root=0\/vZ s.blocks s.root=true)->
     (ldW .slc ((aD r1).add 4) fun(u:SLC)=>zk [.int .i64,.int .i64] ((aD r1).add 1) fun(v:Int×Int×Unit)=>ze prog 115 [.agg #[.int .i64 v.1,.int .i64 v.2.1]] (.one (.one (.int .i64))) fun(z:Int)=>
      zt [[((aD r1).add 4,.slice u.1 u.2.1 u.2.2)]]<|za (((u.2.1:Nat):Int) !=z) (fun w'=>Value.int .i64 (2:Int)=.int .i64 (chk s)/\Ext w w') (J ())) w':=by
    intro w' hb1 he hr;refine zm 4 x hb1 (by rfl) (zoh (ls:=[.int .i64,.int .i64]) (s.size,s.blocks,()) hb1 (by rfl) ?_);refine zb (zea w' s.size s.blocks) ?_;rintro _ w5 ⟨rfl,he5⟩;refine⟨_,rfl,?_⟩;refine zgI (hb1.ext he5) (by rfl) ?_;refine zg (fun hq=>?_) (fun hq=>?_)
    ·exact bad (fun h=>bne_iff_ne.1 hq (by rw[<- h.2.2.2,hlen])) ((he1.trans he).trans he5)
    ·have hq:=bne_eq_false_iff_eq.1 hq;exact hJ _ _ ⟨⟨hg,by omega,hr,by rw[hlen];exact hq⟩,he.trans he5⟩
   refine zg (fun hq=>?_) (fun hq=>?_)
   ·refine zm 3 (s.root:Int) hb1 (by rfl) (xD (by kernel_rfl) ?_);refine zb (zeR hb1 hf.root (by omega) (by omega)) ?_;rintro _ w4 ⟨rfl,hw⟩;subst hw;refine⟨_,rfl,?_⟩;cases hpo:vZ s.blocks s.root with
    |false=>exact zf (by rfl) (bad (fun h=>by
      rcases h.2.2.1 with h|h
      ·exact bne_iff_ne.1 hq (by rw[h];rfl)
      ·rw[h]at hpo;cases hpo) (he1.trans he3))
    |true=>exact zd (by rfl) (last hb1 he3 (.inr hpo))
   ·have hq:=bne_eq_false_iff_eq.1 hq;exact last hb1 he3 (.inl (by omega))
theorem zdD {ps:List Nat} {i:Nat} (h:i<ps.length):yx (ps.take (i+1))=yx (ps.take i)++le 4 (ps.getD i 0):=by
 have e:ps[i]?=some (ps.getD i 0):=by rw[getD_eq_getElem?_getD,List.getElem?_eq_getElem h];rfl
 rw[take_add_one,e];simp[yx]
theorem zjZ {w:World} {s:Sup} {x:SLC} (hf:s.Fits) (hp:Pg w x s.pages):
  Calls prog 143 #[.agg (sV s x).toArray] w (Ret fun v w'=>v=.tuple #[.string ⟨(xG s).1.toArray⟩,.int .i64 (xG s).2]/\Ext w w'):=by
 apply zmD;unfold S143;have hlen:=hp.len;refine zq fun r1 w1 hb1 he1 _ _=>?_;have hb1:Blk w1 r1 (sV s x) 79:=hb1;have hp:=hp.ext he1;refine zZ (ls:=sLs) (sT s x) hb1 rfl ?_;refine zb (zdC hf hp) ?_;rintro _ w2 ⟨rfl,he2⟩;refine⟨_,rfl,?_⟩;have hb1:=hb1.ext he2;have hp:=hp.ext he2;have he2:=he1.trans he2;refine zg (fun hq=>?_) (fun hq=>?_)
 ·rw[zhq (bne_iff_ne.1 hq)];exact⟨rfl,he2⟩
 have hc:=bne_eq_false_iff_eq.1 hq;obtain⟨hh,hgd,h14⟩:=zbb hc;obtain⟨g0,g1,g2,g3,g4⟩:=qg hh.1;have hroot:=hf.root;have hn:s.pages.length<=4080:=by omega
 obtain⟨sz,hsz⟩:∃ k:Nat,s.size=k:=⟨s.size.toNat,by omega⟩;obtain⟨nb,hnb⟩:∃ k:Nat,s.blocks=k:=⟨s.blocks.toNat,by omega⟩;refine zm 1 s.size hb1 (by rfl) (zoi s.blocks hb1 (by rfl) (zm 3 (s.root:Int) hb1 (by rfl) ?_));rw[hsz,hnb,zD (by omega),zD (by omega),zD (by omega)];refine zq fun r7 w3 hb7 he3 _ _=>?_;have hb7:Blk w3 r7 ((zv .u64).flat [sz,nb,s.root]) 42:=hb7;have hs7:Sli (zv .u64) w3 (some ⟨r7,0,none⟩) 3 [sz,nb,s.root]:=Sli.xC hb7 rfl (by omega);have hb1:=hb1.ext he3;have hp:=hp.ext he3;have he3:=he2.trans he3;have hb3:=hb1;have hp3:=hp;have grow:∀ {w' w'':World} {A A':Option Addr} {n c:Nat} {bs:List UInt8},Ext w3 w'->Own 5 w' w3.heap.size A n c (bV bs)->Grew w' w'' (orow A) (orow A')->Ext w3 w'':=fun he ho hg=>he.grown hg.grown (fun j hj=>ho.row' j hj);refine zw (fun y w'=>∃ i:Nat,i<=3/\y.2.1=(i:Int)/\Own 5 w' w3.heap.size y.1.1 y.1.2.1 y.1.2.2 (bV (yx ([sz,nb,s.root].take i)))/\Ext w3 w') (fun y=>(3-y.2.1).toNat) ⟨0,by omega,rfl,Own.nil _ _ _,Ext.refl _⟩ ?_;rintro⟨⟨A,n,c⟩,_,_⟩ w4 ⟨i,hi,hiy,ho,he4⟩;dsimp only at hiy ho ⊢;subst hiy;have hs7:=hs7.ext he4;have lo:=ho.sl.blen;rw[xw,length_take]at lo;simp only [length_cons,length_nil]at lo
 by_cases hlt:i<3
 ·refine zf (decide_eq_true (by omega)) ?_;refine z6 hs7 (by omega) (by omega) ?_;rw[Int.toNat_natCast];have hv:[sz,nb,s.root].getD i 0<18446744073709551616:=by
   match i,hlt with
   |0,_=>show sz<_;omega
   |1,_=>show nb<_;omega
   |2,_=>show s.root<_;omega
  refine zb (xp (k:=4) ho he4.size (by omega) hv (by omega) (by omega)) ?_;rintro _ w5 ⟨⟨A5,n5,c5⟩,rfl,ho5,hg5⟩;refine⟨(A5,n5,c5),rfl,?_⟩;refine⟨⟨i+1,by omega,by rw[wrap_i64 (by omega) (by omega)];rfl,?_,grow he4 ho hg5⟩,by rw[wrap_i64 (by omega) (by omega)];omega⟩;have e:[sz,nb,s.root].take (i+1)=[sz,nb,s.root].take i++[[sz,nb,s.root].getD i 0]:=by
   match i,hlt with
   |0,_=>rfl
   |1,_=>rfl
   |2,_=>rfl
  rw[e];have e2:yx ([sz,nb,s.root].take i++[[sz,nb,s.root].getD i 0])=yx ([sz,nb,s.root].take i)++le 4 ([sz,nb,s.root].getD i 0):=by simp[yx]
  rw[e2];exact ho5
 ·obtain rfl:i=3:=by omega
  refine zd (decide_eq_false (by omega)) ?_;have hb1:=hb1.ext he4;have hp:=hp.ext he4;refine zm 4 x hb1 (by rfl) ?_;rw[zD (by omega)];refine zb (xp (k:=2) ho he4.size (by omega) (by omega) (by omega) (by omega)) ?_;rintro _ w5 ⟨⟨A5,n5,c5⟩,rfl,ho5,hg5⟩;refine⟨(A5,n5,c5),rfl,?_⟩;have he5:=grow he4 ho hg5;dsimp only at ho5 ⊢;have eh:yx ([sz,nb,s.root].take 3)++le 2 x.2.1=zbK s:=by
   unfold zbK;rw[hsz,hnb,hlen,Int.toNat_natCast,Int.toNat_natCast];simp[yx]
  rw[eh]at ho5;have hb5:=hb3.ext he5;refine zm 4 x hb5 (by rfl) ?_;refine zw (fun y w'=>∃ i:Nat,i<=x.2.1/\y.2.1=(i:Int)/\Own 5 w' w3.heap.size y.1.1 y.1.2.1 y.1.2.2 (bV (zbK s++yx (s.pages.take i)))/\Ext w3 w') (fun y=>(x.2.1-y.2.1).toNat) ⟨0,by omega,rfl,by simpa [yx] using ho5,he5⟩ ?_;rintro⟨⟨A6,n6,c6⟩,_,_⟩ w6 ⟨i,hi,hiy,ho6,he6⟩;dsimp only at hiy ho6 ⊢;subst hiy;have l6:=ho6.sl.blen;rw[length_append,zcK,xw,length_take]at l6;have hp6:=hp3.ext he6
  by_cases hlt:i<x.2.1
  ·refine zf (decide_eq_true (by omega)) ?_;refine z6 hp6.sl (by omega) (by omega) ?_;rw[Int.toNat_natCast];have hv:=hf.at_ i;rw[zD (by omega)];refine zb (xp (k:=4) ho6 he6.size (by omega) (by omega) (by omega) (by omega)) ?_;rintro _ w7 ⟨⟨A7,n7,c7⟩,rfl,ho7,hg7⟩;refine⟨(A7,n7,c7),rfl,?_⟩;refine⟨⟨i+1,by omega,by rw[wrap_i64 (by omega) (by omega)];rfl,?_,grow he6 ho6 hg7⟩,by rw[wrap_i64 (by omega) (by omega)];omega⟩;rw[zdD (by omega),<- append_assoc];exact ho7
  ·obtain rfl:i=x.2.1:=by omega
   refine zd (decide_eq_false (by omega)) ?_;rw[take_of_length_le (by omega)]at ho6;have hb6:=hb3.ext he6;refine zm 1 s.size hb6 (by rfl) (zF (s.gen:Int) hb6 (by rfl) ?_);refine qS (e:=5) (by kernel_rfl) (by kernel_rfl) (by kernel_rfl) ho6.sl ?_;refine zb (zbH w6 s.size (f:=vI s) hf.gen) ?_;rintro _ w7 ⟨rfl,he7⟩;refine⟨(⟨(xy s.size (vI s)).1.toArray⟩,(xy s.size (vI s)).2,()),rfl,?_⟩;unfold xG;rw[if_pos hc];exact⟨rfl,he3.trans (he6.trans he7)⟩
end V
/- Contracts of the package super:Get. -/
namespace V
open Go Go.Proofs Go.RowKit Crc
theorem zqr {w:World} {t:TypeId} {s:Sup} {x:SLC} {K:Nat->WP} {us:Array Value} (hu:us.size=5) (hK:∀ r w',Blk w' r (sV s x) t->Ext w w'->w.heap.size<=r->K r w'):
  (zi (.cells #[(.int .u64 (0:Int)),(.int .i64 (0:Int)),(.int .i64 (0:Int)),(.int .u32 (0:Int)),(.slice none 0 0)] t) fun r=>zc (us.size=5)<|zu (aD r) (sV s x) (K r)) w:=
 yz (vs:=sV s x) (by rfl) (zqq s x) (fun r w' hb he hr=>hK r w' hb he hr) hu
theorem zlh (bs:List UInt8):(rd bs 4).1<4294967296:=by
 unfold rd;split
 ·show(0:Nat)<4294967296;decide
 ·exact zdb (by rw[length_take];omega)
theorem jT:jI prog 54 41 (.int .u32 0) 1 4:=⟨by kernel_rfl,by kernel_rfl,by kernel_rfl⟩
theorem zf4 (k:IntKind) (l:List Nat):(zv k).flat l=l.map fun n:Nat=>(.int k (n:Int):Value):=by
 induction l with
 |nil=>rfl
 |cons a r ih=>rw[map_cons,<- ih];rfl
theorem znI (k:IntKind) (l:List Nat) (i v:Nat):((zv k).flat l).set i (.int k (v:Int))=(zv k).flat (l.set i v):=by
 rw[zf4,zf4,List.map_set]
theorem zqs (bs:List UInt8):(rd bs 2).1<65536:=by
 unfold rd;split
 ·show(0:Nat)<65536;decide
 ·have h:=jM (bs.take 2);have h2:(bs.take 2).length<=2:=by rw[length_take];omega
  have:256 ^ (bs.take 2).length<=256 ^ 2:=Nat.pow_le_pow_right (by omega) h2;dsimp only;omega
end V
/- Contracts of the document's answer (11):Get. -/
namespace V
open Go Go.Proofs Go.RowKit Crc
end V
/- Contracts of the package super and of the document's answer (11):Choose,Other,Same. -/
namespace V
open Go Go.Proofs Go.RowKit Crc
theorem Sli.grown {α:Type} {E:Enc α} {w w':World} {A:Option Addr} {n:Nat} {xs:List α} {row:Option Nat} (h:Sli E w A n xs) (hg:w.grownBy w' row) (hr:∀ a,A=some a->some a.block≠row):Sli E w' A n xs:=by
 refine⟨h.1,h.2.1,fun hn=>?_⟩;obtain⟨a,ha,hs,hc⟩:=h.2.2 hn;refine⟨a,ha,hs,fun j v hj=>hg.cell (hc j v hj) ?_⟩;have:(a.add j).block=a.block:=by unfold Addr.add;split<;>rfl
 rw[this];exact hr a ha
end V
/- Spaces in memory. -/
namespace V
open Go Go.Proofs Go.RowKit Crc
theorem qh {l:Lf} {w:World} {b:Nat} {a:Addr} {cs:List Value} {t:TypeId} {K:l.T->WP} (o:Nat) (x:l.T) (h:Blk w b cs t) (ha:a=⟨b,o,none⟩) (hx:cs[o]?=some (l.val x)) (hK:K x w):ldW l a K w:=by
 subst ha;exact zl h hx hK
abbrev MkL:=Option (Nat×Nat)
def zj0:MkL->Option Addr
 |none=>none
 |some a=>some ⟨a.1,0,none⟩
def zcP:MkL->List Nat
 |none=>[]
 |some a=>[a.1,a.2]
def zj1 (w:World) (size:Int):MkL->Option (List Nat)->Prop
 |none,none=>True
 |some a,some l=>∃ q,Cnt w a.1 a.2 size q l
 |_,_=>False
theorem Cnt.only {F:Nat->Prop} {w w':World} {b r:Nat} {size:Int} {q:List Value} {l:List Nat} (h:Cnt w b r size q l) (k:Only F w w') (h1:¬F b) (h2:¬F r):Cnt w' b r size q l:=⟨h.head.only k h1,h.row.only k h2,h.ne,h.len,h.fits⟩
theorem zj1.only {F:Nat->Prop} {w w':World} {size:Int} {m:MkL} {l:Option (List Nat)} (h:zj1 w size m l) (k:Only F w w') (hk:∀ j∈zcP m,¬F j):zj1 w' size m l:=by
 cases m with
 |none=>cases l with
  |none=>trivial
  |some _=>exact h.elim
 |some a=>cases l with
  |none=>exact h.elim
  |some l=>
   obtain⟨q,h⟩:=h;exact⟨q,h.only k (hk _ (by simp[zcP])) (hk _ (by simp[zcP]))⟩
theorem Sli.only {α:Type} {E:Enc α} {F:Nat->Prop} {w w':World} {A:Option Addr} {n:Nat} {xs:List α} (h:Sli E w A n xs) (k:Only F w w') (hr:∀ a,A=some a->¬F a.block):Sli E w' A n xs:=by
 refine⟨h.1,h.2.1,fun hn=>?_⟩;obtain⟨a,e1,e2,e3⟩:=h.2.2 hn;refine⟨a,e1,e2,fun j v hj=>?_⟩;have hc:=e3 j v hj;have hab:(a.add j).block=a.block:=by unfold Addr.add;split<;>rfl
 have hlt:=World.block_lt_of_cell? w _ hc;unfold World.cell? at hc ⊢;rw[k.2.2.2.2 _ hlt (by rw[hab];exact hr a e1)];exact hc
def zaH (x:SLC):List Nat:=(x.1.map fun a=>a.block).toList
def yR (b hb hr nb nr:Nat) (x:SLC) (m:MkL):List Nat:=b::hb::hr::nb::nr::(zaH x++zcP m)
def spV (db:Nat) (s:Sup) (x:SLC) (slot:Int) (hb nb:Nat) (m:MkL):List Value:=
 [.pointer (some ⟨db,0,none⟩),.int .u64 (s.gen:Int),.int .i64 s.size,.int .i64 s.blocks,.int .u32 (s.root:Int),.slice x.1 x.2.1 x.2.2,.int .i64 slot,.pointer (some ⟨hb,0,none⟩),.pointer (some ⟨nb,0,none⟩),.pointer (zj0 m)]
structure Spa.Ok (S:Spa):Prop where
 size:S.sup.size=S.dev.size
 blocks:S.sup.blocks=S.dev.blocks
 fits:S.sup.Fits
 held:S.held.length=S.N
 now:S.now.length=S.N
 mark:∀ l,S.mark=some l->l.length=S.N
structure SpM (w:World) (b db:Nat) (S:Spa) (F Fd:Nat->Prop) (x:SLC) (hb hr nb nr:Nat) (m:MkL):Prop where
 box:∃ t,Blk w b (spV db S.sup x S.slot hb nb m) t
 dev:xh w db S.dev Fd
 pgs:Pg w x S.sup.pages
 heldC:∃ q,Cnt w hb hr S.sup.size q S.held
 nowC:∃ q,Cnt w nb nr S.sup.size q S.now
 markC:zj1 w S.sup.size m S.mark
 own:∀ k,F k↔Fd k\/k∈yR b hb hr nb nr x m
 nodup:(yR b hb hr nb nr x m).Nodup
 apart:∀ k∈yR b hb hr nb nr x m,¬Fd k
 rowlt:∀ k∈zaH x,k<w.heap.size
 ok:S.Ok
variable {w w':World} {b db:Nat} {S:Spa} {F Fd:Nat->Prop} {x:SLC} {hb hr nb nr:Nat} {m:MkL}
theorem SpM.lt (h:SpM w b db S F Fd x hb hr nb nr m):∀ k,F k->k<w.heap.size:=by
 intro k hk;rcases (h.own k).1 hk with hk|hk
 ·exact h.dev.lt k hk
 obtain⟨t,hbx⟩:=h.box;obtain⟨q1,c1⟩:=h.heldC;obtain⟨q2,c2⟩:=h.nowC;simp only [yR,mem_cons,mem_append]at hk;rcases hk with rfl|rfl|rfl|rfl|rfl|hk|hk
 ·exact hbx.lt
 ·exact c1.head.lt
 ·exact c1.row.lt
 ·exact c2.head.lt
 ·exact c2.row.lt
 ·exact h.rowlt k hk
 ·have hm:=h.markC;cases m with
  |none=>cases hk
  |some a=>
   cases hS:S.mark with
   |none=>rw[hS]at hm;exact hm.elim
   |some l=>
    rw[hS]at hm;obtain⟨q,hm⟩:=hm;simp only [zcP,mem_cons,not_mem_nil,or_false]at hk;rcases hk with rfl|rfl
    ·exact hm.head.lt
    ·exact hm.row.lt
theorem SpM.only {G:Nat->Prop} (h:SpM w b db S F Fd x hb hr nb nr m) (k:Only G w w') (hFG:∀ j,F j->¬G j):SpM w' b db S F Fd x hb hr nb nr m:=by
 have hF:∀ j∈yR b hb hr nb nr x m,¬G j:=fun j hj=>hFG j ((h.own j).2 (.inr hj));obtain⟨t,hbx⟩:=h.box;obtain⟨q1,c1⟩:=h.heldC;obtain⟨q2,c2⟩:=h.nowC;refine⟨⟨t,hbx.only k (hF b (by simp[yR]))⟩,h.dev.apart k (fun j hj=>hFG j ((h.own j).2 (.inl hj))),⟨h.pgs.sl.only k (fun a ha=>hF _ (by simp[yR,zaH,ha])),h.pgs.nc⟩,⟨q1,c1.only k (hF _ (by simp[yR])) (hF _ (by simp[yR]))⟩,
  ⟨q2,c2.only k (hF _ (by simp[yR])) (hF _ (by simp[yR]))⟩,h.markC.only k (fun j hj=>hF j (by simp[yR,hj])),h.own,h.nodup,h.apart,fun j hj=>Nat.lt_of_lt_of_le (h.rowlt j hj) k.2.2.2.1,h.ok⟩
theorem SpM.ext (h:SpM w b db S F Fd x hb hr nb nr m) (he:Ext w w'):SpM w' b db S F Fd x hb hr nb nr m:=
 h.only (G:=fun _=>False) (Only.zG he) (fun _ _ h=>h)
theorem SpM.kz {l:List Nat} {q:List Value} (h:SpM w b db S F Fd x hb hr nb nr m) (hg:w.grownBy w' (some nr)) (hc:Cnt w' nb nr S.sup.size q l) (hl:l.length=S.now.length):
  SpM w' b db { S with now:=l } F Fd x hb hr nb nr m:=by
 have hnd:=h.nodup;have hO:Only (fun k=>k=nr) w w':=Only.z7 hg (fun j hj=>.inl (by injection hj with hj;exact hj.symm));have hne:∀ j∈yR b hb hr nb nr x m,j≠nr->¬(fun k=>k=nr) j:=fun j _ h=>h;simp only [yR,nodup_cons,mem_cons,not_or]at hnd;obtain⟨⟨h1,h2,h3,h4,h5⟩,⟨h6,h7,h8,h9⟩,⟨h10,h11,h12⟩,⟨h13,h14⟩,h15,h16⟩:=hnd;obtain⟨t,hbx⟩:=h.box;obtain⟨q1,c1⟩:=h.heldC;refine⟨⟨t,hbx.only hO h4⟩,h.dev.apart hO (fun j hj e=>h.apart nr (by simp[yR]) (by rw[<- show j=nr from e];exact hj)),⟨h.pgs.sl.only hO (fun a ha e=>h15 (mem_append_left _ (by rw[<- show a.block=nr from e];simp[zaH,ha]))),h.pgs.nc⟩,
  ⟨q1,c1.only hO h8 h11⟩,⟨q,hc⟩,h.markC.only hO (fun j hj e=>h15 (List.mem_append_right _ (by rw[<- show j=nr from e];exact hj))),h.own,h.nodup,h.apart,fun j hj=>Nat.lt_of_lt_of_le (h.rowlt j hj) hg.size,⟨h.ok.size,h.ok.blocks,h.ok.fits,h.ok.held,hl.trans h.ok.now,h.ok.mark⟩⟩
theorem SpM.zqt {d':Dev} (h:SpM w b db S F Fd x hb hr nb nr m) (hst:Step w db Fd d' w') (hd:d'.size=S.dev.size/\d'.blocks=S.dev.blocks):
  ∃ F' Fd',SpM w' b db { S with dev:=d' } F' Fd' x hb hr nb nr m/\(∀ k,F' k->F k\/w.heap.size<=k)/\Only F w w':=by
 obtain⟨Fd',hD,hF,hO⟩:=hst;have hap:=h.apart;have hlt:=h.lt;have hin:∀ j∈yR b hb hr nb nr x m,F j:=fun j hj=>(h.own j).2 (.inr hj);obtain⟨t,hbx⟩:=h.box;obtain⟨q1,c1⟩:=h.heldC;obtain⟨q2,c2⟩:=h.nowC;refine⟨fun k=>Fd' k\/k∈yR b hb hr nb nr x m,Fd',⟨⟨t,hbx.only hO (hap b (by simp[yR]))⟩,hD,⟨h.pgs.sl.only hO (fun a ha=>hap _ (by simp[yR,zaH,ha])),h.pgs.nc⟩,⟨q1,c1.only hO (hap _ (by simp[yR])) (hap _ (by simp[yR]))⟩,
  ⟨q2,c2.only hO (hap _ (by simp[yR])) (hap _ (by simp[yR]))⟩,h.markC.only hO (fun j hj=>hap j (by simp[yR,hj])),fun _=>Iff.rfl,h.nodup,fun j hj hf=>?_,fun j hj=>Nat.lt_of_lt_of_le (h.rowlt j hj) hO.2.2.2.1,⟨h.ok.size.trans hd.1.symm,h.ok.blocks.trans hd.2.symm,h.ok.fits,h.ok.held,h.ok.now,h.ok.mark⟩⟩,?_,?_⟩
 ·rcases hF j hf with x|x
  ·exact hap j hj x
  ·have:=hlt j (hin j hj);omega
 ·rintro j (hj|hj)
  ·rcases hF j hj with x|x
   ·exact .inl ((h.own j).2 (.inl x))
   ·exact .inr x
  ·exact .inl (hin j hj)
 ·obtain⟨o1,o2,o3,o4,o5⟩:=hO;exact⟨o1,o2,o3,o4,fun j hj hf=>o5 j hj (fun e=>hf ((h.own j).2 (.inl e)))⟩
def yb (w:World) (b db:Nat) (S:Spa) (F:Nat->Prop):Prop:=∃ Fd x hb hr nb nr m,SpM w b db S F Fd x hb hr nb nr m
def yD (w:World) (b db:Nat) (F:Nat->Prop) (S':Spa) (w':World):Prop:=∃ F',yb w' b db S' F'/\(∀ k,F' k->F k\/w.heap.size<=k)/\Only F w w'
theorem SpM.zfy (h:SpM w b db S F Fd x hb hr nb nr m):yb w b db S F:=⟨Fd,x,hb,hr,nb,nr,m,h⟩
theorem yb.ext (h:yb w b db S F) (he:Ext w w'):yb w' b db S F:=by
 obtain⟨Fd,x,hb,hr,nb,nr,m,h⟩:=h;exact⟨Fd,x,hb,hr,nb,nr,m,h.ext he⟩
theorem yb.lt (h:yb w b db S F):∀ k,F k->k<w.heap.size:=by
 obtain⟨Fd,x,hb,hr,nb,nr,m,h⟩:=h;exact h.lt
theorem yb.only {G:Nat->Prop} (h:yb w b db S F) (k:Only G w w') (hFG:∀ j,F j->¬G j):yb w' b db S F:=by
 obtain⟨Fd,x,hb,hr,nb,nr,m,h⟩:=h;exact⟨Fd,x,hb,hr,nb,nr,m,h.only k hFG⟩
theorem yD.ext (h:yb w b db S F) (he:Ext w w'):yD w b db F S w':=⟨F,h.ext he,fun k hk=>.inl hk,Only.zG he⟩
theorem yD.trans {w0:World} {F':Nat->Prop} {S':Spa} (hO:Only F w0 w) (hF:∀ k,F' k->F k\/w0.heap.size<=k) (h:yD w b db F' S' w'):yD w0 b db F S' w':=by
 obtain⟨F2,h1,h2,h3⟩:=h;refine⟨F2,h1,fun k hk=>?_,Only.trans hO h3 hF⟩;rcases h2 k hk with x|x
 ·exact hF k x
 ·exact .inr (Nat.le_trans hO.2.2.2.1 x)
end V
/- Contracts of the package catalog:Check. -/
namespace V
open Go Go.Proofs Go.RowKit Crc
abbrev Raw:=ByteArray×SLC×Nat×Nat×Int
def zV:Raw:=(ByteArray.empty,(none,0,0),0,0,0)
def zM:Ent:=(ByteArray.empty,[],0,0,0)
def zT:Snp:=(ByteArray.empty,0)
def yo:Enc Raw where
 k:=5
 f e:=[.string e.1,.slice e.2.1.1 e.2.1.2.1 e.2.1.2.2,.int .u32 (e.2.2.1:Int),.int .u64 (e.2.2.2.1:Int),.int .i64 e.2.2.2.2]
 len _:=rfl
 one _:=by
  intro v hv
  simp only [mem_cons,not_mem_nil,or_false]at hv
  rcases hv with rfl|rfl|rfl|rfl|rfl<;>rfl
 pos:=by decide
def xi:Enc Snp where
 k:=2
 f e:=[.string e.1,.int .u32 (e.2:Int)]
 len _:=rfl
 one _:=by
  intro v hv
  simp only [mem_cons,not_mem_nil,or_false]at hv
  rcases hv with rfl|rfl<;>rfl
 pos:=by decide
abbrev zdd:List Lf:=[.str,.slc,.int .u32,.int .u64,.int .i64]
def zaI (e:Raw):ByteArray×SLC×Int×Int×Int×Unit:=(e.1,e.2.1,(e.2.2.1:Int),(e.2.2.2.1:Int),e.2.2.2.2,())
abbrev zgJ:List Lf:=[.str,.int .u32]
def zeb (e:Snp):ByteArray×Int×Unit:=(e.1,(e.2:Int),())
structure zde (w:World) (r:Raw) (e:Ent):Prop where
 name:r.1=e.1
 rest:r.2.2=e.2.2
 cols:Sli xx w r.2.1.1 r.2.1.2.1 e.2.1
 cap:r.2.1.2.1<=r.2.1.2.2
theorem zde.ext {w w':World} {r:Raw} {e:Ent} (h:zde w r e) (he:Ext w w'):zde w' r e:=⟨h.name,h.rest,h.cols.ext he,h.cap⟩
structure zbe (w:World) (x:SLC) (raws:List Raw) (es:List Ent):Prop where
 sl:Sli yo w x.1 x.2.1 raws
 len:raws.length=es.length
 at_:∀ i,i<es.length->zde w (raws.getD i zV) (es.getD i zM)
theorem zbe.ext {w w':World} {x:SLC} {raws:List Raw} {es:List Ent} (h:zbe w x raws es) (he:Ext w w'):zbe w' x raws es:=⟨h.sl.ext he,h.len,fun i hi=>(h.at_ i hi).ext he⟩
def xm (w:World) (x y:SLC) (c:Cat):Prop:=(∃ raws,zbe w x raws c.1)/\Sli xi w y.1 y.2.1 c.2/\x.2.1<=x.2.2/\y.2.1<=y.2.2
theorem xm.ext {w w':World} {x y:SLC} {c:Cat} (h:xm w x y c) (he:Ext w w'):xm w' x y c:=by
 obtain⟨⟨raws,h1⟩,h2,h3⟩:=h;exact⟨⟨raws,h1.ext he⟩,h2.ext he,h3⟩
def zP (x y:SLC):List Value:=[.slice x.1 x.2.1 x.2.2,.slice y.1 y.2.1 y.2.2]
theorem xk (x y:SLC):∀ v∈zP x y,v.oneCell'=true:=by
 intro v hv;simp only [zP,mem_cons,not_mem_nil,or_false]at hv;rcases hv with rfl|rfl<;>rfl
abbrev xc:List Lf:=[.slc,.slc]
def yZ (x y:SLC):SLC×SLC×Unit:=(x,y,())
theorem zcf:∀ a b:List UInt8,Op.bytesLess a b=ltB a b
 |_,[]=>by cases ‹List UInt8›<;>rfl
 |[],_::_=>rfl
 |x::a,y::b=>by
  rw[Op.bytesLess,ltB,zcf a b];congr 1
theorem zbM (a b:ByteArray):Op.bytesLess a.toList b.toList=ltB (B a) (B b):=by
 rw[ByteArray.toList_eq,ByteArray.toList_eq,zcf];rfl
theorem zaJ {α:Type} {f:α->ByteArray}:∀ {l:List α} {i:Nat} {x y:α},l[i]?=some x->l[i+1]?=some y->yL f (l.take (i+2))=(yL f (l.take (i+1))&&ltB (B (f x)) (B (f y)))
 |[],_,_,_,h,_=>by simp at h
 |[a],i,x,y,h,h2=>by simp at h2
 |a::c::r,0,x,y,h,h2=>by
  simp only [List.getElem?_cons_zero,List.getElem?_cons_succ,Option.some.injEq]at h h2;subst h h2;simp[yL]
 |a::c::r,i+1,x,y,h,h2=>by
  have ih:=zaJ (f:=f) (l:=c::r) (i:=i) (x:=x) (y:=y) (by simpa using h) (by simpa using h2);simp only [List.take_succ_cons,yL]at ih ⊢;rw[ih,Bool.and_assoc]
theorem zec (s:ByteArray):zd4 s=true↔yC (B s)=0:=by unfold zd4;rw[decide_eq_true_iff]
theorem zcQ {α:Type} {f:α->ByteArray} {l:List α} {x:α} (h:x∈l) (hx:yC (B (f x))≠0):yA f l=false:=by
 cases hq:yA f l with
 |false=>rfl
 |true=>
  unfold yA at hq;rw[Bool.and_eq_true,all_eq_true]at hq;exact absurd ((zec _).1 (hq.1 x h)) hx
theorem zbN {α:Type} {f:α->ByteArray}:∀ {l:List α} (n:Nat),yL f l=true->yL f (l.take n)=true
 |[],n,_=>by simp[yL]
 |[a],n,_=>by cases n<;>simp[yL]
 |a::c::r,0,_=>rfl
 |a::c::r,1,_=>rfl
 |a::c::r,n+2,h=>by
  simp only [yL,Bool.and_eq_true]at h;have ih:=zbN (f:=f) (l:=c::r) (n+1) h.2;simp only [List.take_succ_cons,yL,Bool.and_eq_true]at ih ⊢;exact⟨h.1,ih⟩
variable {w:World}
theorem zaK {r:Raw}:Calls prog 58 #[.agg (yo.f r).toArray] w (Ret fun v w'=>v=.string r.1/\Ext w w'):=by
 apply zo0;unfold S58;refine zq fun r1 w1 hb1 he1 hr1 hz1=>?_;exact zF r.1 hb1 (by rfl) ⟨rfl,he1⟩
theorem zaL {r:Snp}:Calls prog 60 #[.agg (xi.f r).toArray] w (Ret fun v w'=>v=.string r.1/\Ext w w'):=by
 apply zo2;unfold S60;refine zq fun r1 w1 hb1 he1 hr1 hz1=>?_;exact zF r.1 hb1 (by rfl) ⟨rfl,he1⟩
theorem zgw {x:SLC} {l:List Raw} (h:Sli yo w x.1 x.2.1 l):Calls prog 57 #[.slice x.1 x.2.1 x.2.2,.func (.func 58) #[] #[]] w (Ret fun v w'=>v=.bool (yA (fun e:Raw=>e.1) l)/\Ext w w'):=by
 have hl:=h.len;have hle:=h.le;apply zoZ;unfold S57;refine zw (fun q w'=>∃ i:Nat,i<=l.length/\q=((i:Int),())/\Ext w w'/\(∀ e∈l.take i,yC (B e.1)=0)/\yL (fun e:Raw=>e.1) (l.take i)=true) (fun q=>(l.length-q.1).toNat) ⟨0,by omega,rfl,Ext.refl w,by simp,rfl⟩ ?_;rintro _ w1 ⟨i,hi,rfl,he1,hn,hr⟩;dsimp only
 by_cases hlt:i<l.length
 ·refine zf (decide_eq_true (by omega)) ?_;refine uo (E:=yo) zaI zV (h.ext he1) (fun _=>rfl) rfl (by omega) (by omega) ?_;rw[Int.toNat_natCast];have eg:l[i]?=some (l.getD i zV):=by rw[getD_eq_getElem?_getD,List.getElem?_eq_getElem hlt];rfl
  have hmem:=mem_of_getElem? eg;have htk:l.take (i+1)=l.take i++[l.getD i zV]:=by rw[take_succ_eq_append_getElem hlt,getD_eq_getElem?_getD,List.getElem?_eq_getElem hlt];rfl
  refine yz (vs:=yo.f (l.getD i zV)) (by rfl) (yo.one _) (fun r5 w2 hb2 he2 hr2=>?_) (by rfl);refine zK fun w3 he3 hz3 hh3=>?_;have hb3:=hb2.ext he3;refine zZ (ls:=zdd) (zaI (l.getD i zV)) hb3 (by rfl) ?_;refine xD (by kernel_rfl) ?_;refine zb zaK ?_;rintro _ w4 ⟨rfl,he4⟩;refine⟨_,rfl,?_⟩;refine zb (zbD w4 _) ?_;rintro _ w5 ⟨rfl,he5⟩;refine⟨_,rfl,?_⟩;have he35:=he4.trans he5;have he05:=((he1.trans he2).trans he3).trans he35;refine zg (fun hq=>?_) (fun hq=>?_)
  ·have hq:=bne_iff_ne.1 hq;exact⟨by rw[zcQ hmem hq],he05⟩
  have hq:=bne_eq_false_iff_eq.1 hq;have hn':∀ e∈l.take (i+1),yC (B e.1)=0:=fun e he=>by
   rw[htk]at he;rcases mem_append.1 he with e1|e1
   ·exact hn e e1
   ·rw[mem_singleton.1 e1];exact hq
  have hw:wrap .i64 ((i:Int)+1)=((i+1:Nat):Int):=by rw[wrap_i64 (by omega) (by omega)];rfl
  rw[hw]
  by_cases h0:i=0
  ·subst h0;refine zd (by rfl) ?_;refine⟨⟨1,by omega,rfl,he05,hn',?_⟩,by omega⟩;rw[htk];rfl
  ·refine zf (decide_eq_true (by omega)) ?_;rw[show wrap .i64 ((i:Int)-1)=((i-1:Nat):Int) by rw[wrap_i64 (by omega) (by omega)];omega];refine uo (E:=yo) zaI zV (h.ext he05) (fun _=>rfl) rfl (by omega) (by omega) ?_;rw[Int.toNat_natCast];have hb5:=hb3.ext he35;refine zZ (ls:=zdd) (zaI (l.getD i zV)) hb5 (by rfl) ?_;refine xD (by kernel_rfl) ?_;refine zb (zaK (r:=l.getD (i-1) zV)) ?_;rintro _ w6 ⟨rfl,he6⟩;refine⟨_,rfl,?_⟩;have hb6:=hb5.ext he6;refine xO (fun p hp=>?_) ?_
   ·simp only [mem_cons,not_mem_nil,or_false]at hp;rcases hp with rfl|rfl|rfl|rfl|rfl<;>simp only [zC,hb6.cell]<;>rfl
   refine xD (by kernel_rfl) ?_;refine zb (zaK (r:=l.getD i zV)) ?_;rintro _ w7 ⟨rfl,he7⟩;refine⟨_,rfl,?_⟩;have he07:=(he05.trans he6).trans he7;rw[zbM];have eg1:l[i-1]?=some (l.getD (i-1) zV):=by rw[getD_eq_getElem?_getD,List.getElem?_eq_getElem (by omega)];rfl
   have hst:=zaJ (f:=fun e:Raw=>e.1) eg1 (by rw[show i-1+1=i by omega];exact eg);rw[show i-1+2=i+1 by omega,show i-1+1=i by omega,hr,Bool.true_and]at hst;refine zg (fun hq2=>?_) (fun hq2=>?_)
   ·refine⟨?_,he07⟩;have hq2:ltB (B (l.getD (i-1) zV).1) (B (l.getD i zV).1)=false:=by simpa using hq2
    have:yA (fun e:Raw=>e.1) l=false:=by
     cases hz:yA (fun e:Raw=>e.1) l with
     |false=>rfl
     |true=>
      unfold yA at hz;rw[Bool.and_eq_true]at hz;have:=zbN (i+1) hz.2;rw[hst,hq2]at this;cases this
    rw[this]
   ·have hq2:ltB (B (l.getD (i-1) zV).1) (B (l.getD i zV).1)=true:=by simpa using hq2
    exact⟨⟨i+1,by omega,rfl,he07,hn',by rw[hst,hq2]⟩,by omega⟩
 ·obtain rfl:i=l.length:=by omega
  refine zd (decide_eq_false (by omega)) ?_;rw[take_of_length_le (by omega)]at hn hr;refine⟨?_,he1⟩;have:yA (fun e:Raw=>e.1) l=true:=by
   unfold yA;rw[hr,Bool.and_true,all_eq_true];exact fun e he=>(zec _).2 (hn e he)
  rw[this]
end V
/- Catalogs that came in,opened. -/
set_option maxRecDepth 100000
namespace V
open Go Go.ChangeShapes Go.WideShapes Go.ChangeAt Go.RowKit Go.Deep Go.Proofs
section
variable {H:Type} {enc:TypeId×Value->H} {w:World} {base:Nat} {held:Bool}
def znJ (w:World) (r:Raw):Prop:=(∃ cols:List Col,Sli xx w r.2.1.1 r.2.1.2.1 cols/\∀ c∈cols,(B c.1).length<=9223372036854775807)/\r.2.1.2.1<=r.2.1.2.2/\r.1.size<=9223372036854775807/\r.2.2.1<4294967296/\r.2.2.2.1<18446744073709551616/\-9223372036854775808<=r.2.2.2.2/\r.2.2.2.2<9223372036854775808
theorem zpM {n:Nat} {cs:List Value} {x:DataW H×List MemPlace} (h:DataW.trod enc prog w base (fun _=>true) held n 44 cs=some x):∃ r:Raw,yo.f r=cs/\znJ w r:=by
 obtain⟨hl,m0,y0,h0⟩:=qI 0 0 1 9 (by kernel_rfl) (by kernel_rfl) h;obtain⟨_,m1,y1,h1⟩:=qI 1 1 1 40 (by kernel_rfl) (by kernel_rfl) h;obtain⟨_,m2,y2,h2⟩:=qI 2 2 1 41 (by kernel_rfl) (by kernel_rfl) h;obtain⟨_,m3,y3,h3⟩:=qI 3 3 1 42 (by kernel_rfl) (by kernel_rfl) h;obtain⟨_,m4,y4,h4⟩:=qI 4 4 1 3 (by kernel_rfl) (by kernel_rfl) h;have hl5:cs.length=5:=hl.trans (by kernel_rfl)
 match cs,hl5 with
 |[a,b,c,d,e],_=>
  obtain⟨s,hs,hsl⟩:=zbB (by kernel_rfl) h0;obtain⟨A,k,cc,xs,hz1,hxs,hnc,hq⟩:=zbC (e:=62) (E:=xx) (Q:=fun c=>(B c.1).length<=9223372036854775807) (by kernel_rfl) (by kernel_rfl) (fun n cs x h=>zpB h) h1;obtain⟨z2,hz2,hw2⟩:=za3 (k:=.u32) (by kernel_rfl) h2;obtain⟨z3,hz3,hw3⟩:=za3 (k:=.u64) (by kernel_rfl) h3;obtain⟨z4,hz4,hw4⟩:=za3 (k:=.i64) (by kernel_rfl) h4;have g2:=zi3 hw2;have g3:=zox hw3;have g4:=zoy hw4;cases hs;cases hz1;cases hz2;cases hz3;cases hz4;refine⟨(s,(A,k,cc),z2.toNat,z3.toNat,z4),?_,⟨xs,hxs,hq⟩,hnc,by simpa [maxLen] using hsl,by dsimp only;omega,by dsimp only;omega,g4⟩;show [Value.string s,Value.slice A k cc,Value.int .u32 ((z2.toNat:Nat):Int),Value.int .u64 ((z3.toNat:Nat):Int),Value.int .i64 z4]=_;rw[show((z2.toNat:Nat):Int)=z2 by omega,show((z3.toNat:Nat):Int)=z3 by omega]
theorem zpN {n:Nat} {cs:List Value} {x:DataW H×List MemPlace} (h:DataW.trod enc prog w base (fun _=>true) held n 46 cs=some x):∃ s:Snp,xi.f s=cs/\s.1.size<=9223372036854775807/\s.2<4294967296:=by
 obtain⟨hl,m0,y0,h0⟩:=qI 0 0 1 9 (by kernel_rfl) (by kernel_rfl) h;obtain⟨_,m1,y1,h1⟩:=qI 1 1 1 41 (by kernel_rfl) (by kernel_rfl) h;have hl2:cs.length=2:=hl.trans (by kernel_rfl)
 match cs,hl2 with
 |[a,b],_=>
  obtain⟨s,hs,hsl⟩:=zbB (by kernel_rfl) h0;obtain⟨z,hz,hw⟩:=za3 (k:=.u32) (by kernel_rfl) h1;have g:=zi3 hw;cases hs;cases hz;refine⟨(s,z.toNat),?_,by simpa [maxLen] using hsl,by dsimp only;omega⟩;show [Value.string s,Value.int .u32 ((z.toNat:Nat):Int)]=_;rw[show((z.toNat:Nat):Int)=z by omega]
def zqu (c:Cat):Prop:=(∀ e∈c.1,e.1.size<=9223372036854775807/\(∀ k∈e.2.1,(B k.1).length<=9223372036854775807)/\e.2.2.1<4294967296/\e.2.2.2.1<18446744073709551616/\-9223372036854775808<=e.2.2.2.2/\e.2.2.2.2<9223372036854775808)/\∀ s∈c.2,s.1.size<=9223372036854775807/\s.2<4294967296
theorem zf5 {w:World}:∀ {raws:List Raw},(∀ r∈raws,znJ w r)->∃ es:List Ent,raws.length=es.length/\(∀ i,i<es.length->zde w (raws.getD i zV) (es.getD i zM))/\∀ e∈es,e.1.size<=9223372036854775807/\(∀ k∈e.2.1,(B k.1).length<=9223372036854775807)/\e.2.2.1<4294967296/\e.2.2.2.1<18446744073709551616/\-9223372036854775808<=e.2.2.2.2/\e.2.2.2.2<9223372036854775808
 |[],_=>⟨[],rfl,fun i hi=>(by cases hi),fun e he=>(by cases he)⟩
 |r::l,h=>by
  obtain⟨es,h1,h2,h3⟩:=zf5 (raws:=l) (fun x hx=>h x (mem_cons_of_mem _ hx));obtain⟨⟨cols,q1,q2⟩,q3,q4,q5⟩:=h r mem_cons_self;refine⟨(r.1,cols,r.2.2)::es,by simp[h1],fun i hi=>?_,fun e he=>?_⟩
  ·cases i with
   |zero=>exact⟨rfl,rfl,q1,q3⟩
   |succ i=>exact h2 i (by simpa using hi)
  ·rcases mem_cons.1 he with rfl|he
   ·exact⟨q4,q2,q5⟩
   ·exact h3 e he
theorem znK {v:Value} {d:DataW H} {ps:List MemPlace} {r:Reach} {b0:Nat} (hv:Value.okWide prog w r b0 25 v) (h:DataW.Trod enc prog w base (fun _=>true) held 25 v d ps):
  ∃ (c:Cat) (x y:SLC),v=.agg (zP x y).toArray/\xm w x y c/\zqu c:=by
 obtain⟨cs,rfl,hsz⟩:=okWide_struct (show prog.underlying 25=some (.struct (fieldsOf prog 25)) by kernel_rfl) hv;obtain⟨fuel,hf⟩:=h;have hf':DataW.trod enc prog w base (fun _=>true) held fuel 25 cs.toList=some (d,ps):=hf;obtain⟨hl,m0,y0,h0⟩:=qI 0 0 1 22 (by kernel_rfl) (by kernel_rfl) hf';obtain⟨_,m1,y1,h1⟩:=qI 1 1 1 23 (by kernel_rfl) (by kernel_rfl) hf';have hl2:cs.toList.length=2:=hl.trans (by kernel_rfl)
 match hcs:cs.toList,hl2 with
 |[a,b],_=>
  rw[hcs]at h0 h1;obtain⟨A,n,k,raws,hz0,hsl,hnc,hq⟩:=zbC (e:=44) (E:=yo) (Q:=znJ w) (by kernel_rfl) (by kernel_rfl) (fun n cs x h=>zpM h) h0;obtain⟨A2,n2,k2,ss,hz1,hsl2,hnc2,hq2⟩:=zbC (e:=46) (E:=xi) (Q:=fun s=>s.1.size<=9223372036854775807/\s.2<4294967296) (by kernel_rfl) (by kernel_rfl) (fun n cs x h=>zpN h) h1;cases hz0;cases hz1;obtain⟨es,e1,e2,e3⟩:=zf5 hq;refine⟨(es,ss),(A,n,k),(A2,n2,k2),?_,⟨⟨raws,hsl,e1,e2⟩,hsl2,hnc,hnc2⟩,e3,hq2⟩;congr 1;apply Array.toList_inj.1;rw[hcs];rfl
end
end V
/- Contracts of the package space:what may be asked for,Room,what is free. -/
namespace V
open Go Go.Proofs Go.RowKit Crc
variable {w w':World} {b db:Nat} {S:Spa} {F Fd:Nat->Prop} {x:SLC} {hb hr nb nr:Nat} {m:MkL}
structure zae (S:Spa):Prop where
 geo:yc S.sup.size S.sup.blocks=true
 room:zI S.sup.size=S.sup.size-16
 size:128<=S.sup.size/\S.sup.size<=4096
 blocks:S.sup.blocks=(S.N:Int)
 n:8<=S.N/\S.N<=4096
theorem SpM.dims (h:SpM w b db S F Fd x hb hr nb nr m):zae S:=by
 have hg:=h.dev.ok.geo;rw[<- h.ok.size,<- h.ok.blocks]at hg;obtain⟨g1,g2,g3,g4,g5⟩:=qg hg;have:S.sup.blocks=(S.N:Int):=by unfold Spa.N;omega
 exact⟨hg,g1,⟨g2,g3⟩,this,by omega⟩
theorem zli (h:SpM w b db S F Fd x hb hr nb nr m) (n:Nat):S.now.getD n 0<65536/\S.held.getD n 0<65536/\cnt S.mark n<65536:=by
 obtain⟨q1,c1⟩:=h.heldC;obtain⟨q2,c2⟩:=h.nowC;refine⟨c2.qD n,c1.qD n,?_⟩;have hm:=h.markC;cases hS:S.mark with
 |none=>simp[cnt]
 |some l=>
  rw[hS]at hm;cases m with
  |none=>exact hm.elim
  |some a=>
   obtain⟨q,hm⟩:=hm;exact hm.qD n
theorem vT (h:SpM w b db S F Fd x hb hr nb nr m) {n:Nat} (hn:n<4294967296):
  Calls prog 73 #[.pointer (some ⟨b,0,none⟩),.int .u32 (n:Int)] w (Ret fun v w'=>v=.bool (S.asked n)/\w'=w):=by
 obtain⟨t,hbx⟩:=h.box;have hd:=h.dims;have hb2:=hd.blocks;have hn2:=hd.n;apply zpf;unfold S73 Spa.asked;refine zg (fun hz=>?_) (fun hz=>?_)
 ·have hz:=of_decide_eq_true hz;refine zr (qh 3 S.sup.blocks hbx (by rfl) (by rfl) ?_);have eb:wrap .u64 S.sup.blocks=(S.N:Int):=by rw[hb2,zD (by omega)]
  rw[zD (by omega),eb];refine zg (fun hq=>?_) (fun hq=>?_)
  ·have hq:=of_decide_eq_true hq;refine zr (qh (l:=.slc) 5 x hbx (by rfl) (by rfl) ?_);refine zb (zbd (c:=x.2.2) h.pgs.sl) ?_;rintro _ w1 ⟨rfl,rfl⟩;refine⟨_,rfl,?_,rfl⟩;rw[decide_eq_true (show 2<=n by omega),decide_eq_true (show n<S.N by omega)];rfl
  ·have hq:=of_decide_eq_false hq;refine⟨?_,rfl⟩;rw[decide_eq_false (show ¬n<S.N by omega)];simp
 ·have hz:=of_decide_eq_false hz;refine⟨?_,rfl⟩;rw[decide_eq_false (show ¬2<=n by omega)];rfl
theorem qU (h:SpM w b db S F Fd x hb hr nb nr m) {k:Int} (hk0:-9223372036854775808<=k) (hk:k<9223372036854775808):
  Calls prog 76 #[.pointer (some ⟨b,0,none⟩),.int .i64 k] w (Ret fun v w'=>v=.int .i64 (S.room k)/\Ext w w'):=by
 obtain⟨t,hbx⟩:=h.box;have hd:=h.dims;have h1:=hd.room;have h2:=hd.size;apply zph;unfold S76 Spa.room;refine zd (by rfl) (zr (qh 2 S.sup.size hbx (by rfl) (by rfl) ?_));refine zb (jq w S.sup.size) ?_;rintro _ w1 ⟨rfl,he⟩;refine⟨_,rfl,?_⟩;have e1:wrap .i64 (zI S.sup.size-2)=zI S.sup.size-2:=wrap_i64 (by omega) (by omega);have e2:wrap .i64 (Int.tdiv (zI S.sup.size-2) 4)=(zI S.sup.size-2) / 4:=by
  rw[Int.tdiv_eq_ediv_of_nonneg (by omega),wrap_i64 (by omega) (by omega)]
 rw[e1,e2];refine zg (fun hz=>?_) (fun hz=>?_)
 ·rw[if_pos (.inl (of_decide_eq_true hz))];exact⟨rfl,he⟩
 have hz:=of_decide_eq_false hz;refine zg (fun hq=>?_) (fun hq=>?_)
 ·rw[if_pos (.inr (of_decide_eq_true hq))];exact⟨rfl,he⟩
 have hq:=of_decide_eq_false hq;rw[if_neg (by omega),wrap_i64 (x:=4*k) (by omega) (by omega),wrap_i64 (by omega) (by omega)];exact⟨rfl,he⟩
theorem zcg (h:SpM w b db S F Fd x hb hr nb nr m) (n:Nat) (hn:n<4294967296):
  Calls prog 75 #[.pointer (zj0 m),.int .u32 (n:Int)] w (Ret fun v w'=>v=.int .i64 ((cnt S.mark n:Nat):Int)/\w'=w):=by
 have hm:=h.markC;cases hS:S.mark with
 |none=>
  rw[hS]at hm;cases m with
  |none=>exact zcL w n
  |some a=>exact hm.elim
 |some l=>
  rw[hS]at hm;cases m with
  |none=>exact hm.elim
  |some a=>
   obtain⟨q,hm⟩:=hm;exact zar hm n hn
theorem vi (h:SpM w b db S F Fd x hb hr nb nr m) (n:Nat) (hn:n<4294967296):
  Calls prog 75 #[.pointer (some ⟨nb,0,none⟩),.int .u32 (n:Int)] w (Ret fun v w'=>v=.int .i64 ((S.now.getD n 0:Nat):Int)/\w'=w):=by
 obtain⟨q,c⟩:=h.nowC;exact zar c n hn
theorem zgx (h:SpM w b db S F Fd x hb hr nb nr m) (n:Nat) (hn:n<4294967296):
  Calls prog 75 #[.pointer (some ⟨hb,0,none⟩),.int .u32 (n:Int)] w (Ret fun v w'=>v=.int .i64 ((S.held.getD n 0:Nat):Int)/\w'=w):=by
 obtain⟨q,c⟩:=h.heldC;exact zar c n hn
theorem zpO {K:WP} {w:World} (h:K w.drew):zB K w:=h
theorem zcR {w:World} {A:Option Addr} {n c:Nat} {xs:List Nat} {g:FuncId} {cap:Array Value} {q:Nat->Bool} (h:Sli (zv .u32) w A n xs) (hen:enterable prog g=true)
  (hq:∀ y∈xs,Calls prog g ([Value.int .u32 (y:Int)]++cap.toList).toArray w (Ret fun v w'=>v=.bool (q y)/\w'=w)):
  Calls prog 71 #[.slice A n c,.func (.func g) #[] cap] w (Ret fun v w'=>v=.bool (xs.any q)/\w'=w):=by
 apply zpd;unfold S71;have hl:=h.len;have hle:=h.le;have hi:Calls prog 119 #[.slice A n c,.func (.func g) #[] cap] w (Ret fun v w'=>(∃ k:Int,v=.int .i64 k/\(0<=k↔xs.any q=true))/\w'=w):=by
  apply zmm;unfold S119;refine zw (fun y w'=>w'=w/\∃ i:Nat,i<=n/\y=((i:Int),())/\(xs.take i).any q=false) (fun y=>(n-y.1).toNat) ⟨rfl,0,by omega,rfl,rfl⟩ ?_;rintro _ w1 ⟨rfl,i,hi,rfl,hno⟩;dsimp only
  by_cases hlt:i<n
  ·refine zf (decide_eq_true (by omega)) ?_;refine z6 h (by omega) (by omega) ?_;rw[Int.toNat_natCast];have e:xs[i]?=some (xs.getD i 0):=by rw[getD_eq_getElem?_getD,List.getElem?_eq_getElem (by omega)];rfl
   refine xD hen (zb (hq (xs.getD i 0) (mem_of_getElem? e)) ?_);rintro _ w2 ⟨rfl,rfl⟩;refine⟨_,rfl,?_⟩;have e2:(xs.take (i+1)).any q=q (xs.getD i 0):=by
    rw[take_add_one,e,List.any_append,hno];simp
   refine zg (fun hz=>?_) (fun hz=>?_)
   ·refine⟨⟨i,rfl,fun _=>?_,fun _=>by omega⟩,rfl⟩;rw[List.any_eq_true];exact⟨_,mem_of_getElem? e,hz⟩
   ·refine⟨⟨rfl,i+1,by omega,by rw[wrap_i64 (by omega) (by omega)];rfl,by rw[e2];exact hz⟩,by rw[wrap_i64 (by omega) (by omega)];omega⟩
  ·obtain rfl:i=n:=by omega
   refine zd (decide_eq_false (by omega)) ?_;rw[take_of_length_le (by omega)]at hno;refine⟨⟨-1,rfl,fun h=>by omega,fun h=>by rw[hno]at h;cases h⟩,rfl⟩
 refine zb hi ?_;rintro _ w1 ⟨⟨k,rfl,hk⟩,rfl⟩;refine⟨k,rfl,?_,rfl⟩;have e:decide (k>=0)=xs.any q:=by rw[Bool.eq_iff_iff,decide_eq_true_iff];exact hk
 rw[<- e]
def vj (S:Spa):List (List Value):=S.yg.map fun n:Nat=>[.int .u32 (n:Int)]
def js (S:Spa) (n:Nat):List Nat:=(List.range n).filter fun n=>decide (2<=n)&&S.yv n
theorem qM (S:Spa) (n:Nat):js S (n+1)=if (decide (2<=n)&&S.yv n)=true then js S n++[n] else js S n:=by
 unfold js;rw[range_succ,List.filter_append];simp only [List.filter_cons,List.filter_nil];split<;>simp
theorem zjf (S:Spa):∀ (k n:Nat),(js S n) <+:(js S (n+k))
 |0,n=>List.prefix_refl _
 |k+1,n=>by
  refine(zjf S k n).trans ?_;rw[<- Nat.add_assoc,qM];split
  ·exact List.prefix_append _ _
  ·exact List.prefix_refl _
theorem zlj {S:Spa} {n:Nat} (hn:n<S.N) (hf:(decide (2<=n)&&S.yv n)=true):S.yg[(js S n).length]?=some n:=by
 have h1:js S (n+1) <+:S.yg:=by
  have:=zjf S (S.N-(n+1)) (n+1);rw[show n+1+(S.N-(n+1))=S.N by omega]at this;exact this
 rw[qM,if_pos hf]at h1;obtain⟨r,hr⟩:=h1;rw[<- hr];simp
def zj2 (b r:Nat) (P:WP):WP:=fun w=>Blk w r [.pointer (some ⟨b,0,none⟩)] 48/\P w
theorem zj3 (h:SpM w b db S F Fd x hb hr nb nr m):
  Calls prog 84 #[.pointer (some ⟨b,0,none⟩)] w (Ret fun v w'=>Iter prog v (vj S) (zj2 b w.heap.size fun w=>SpM w b db S F Fd x hb hr nb nr m)/\zj2 b w.heap.size (fun w=>SpM w b db S F Fd x hb hr nb nr m) w'/\w'.heap.size=w.heap.size+1/\Ext w w'):=by
 apply zpp;unfold S84;apply yJ;have he:=(Ext.refl w).alloc (.cells #[.pointer (some ⟨b,0,none⟩)] 48);have hdim:=h.dims;have hN:=hdim.n;have hbl:=hdim.blocks;refine⟨⟨_,_,rfl,by kernel_rfl,fun l J w1 hJ hR hdr hY=>?_⟩,⟨Blk.new w _ _,h.ext he⟩,by simp,he⟩;apply zms;unfold S130;have hlen:(vj S).length=S.yg.length:=by simp[vj]
 refine zw (fun y w'=>∃ n:Nat,2<=n/\n<=S.N/\y=((n:Int),())/\J (js S n).length w') (fun y=>(S.N-y.1).toNat) ⟨2,by omega,by omega,rfl,?_⟩ ?_
 ·have:(js S 2).length=0:=by rw[qM,if_neg (by simp),qM,if_neg (by simp)];rfl
  rw[this];exact hJ
 rintro _ w2 ⟨n,h2,hn,rfl,hJ2⟩;dsimp only;have hR2:=hR _ _ hJ2;obtain⟨hbk,hS⟩:=hR2;obtain⟨t,hbx⟩:=hS.box;refine zl (x:=some ⟨b,0,none⟩) hbk (by rfl) (zr (qh 3 S.sup.blocks hbx (by rfl) (by rfl) ?_));rw[wrap_i64 (by omega) (by omega)]
 by_cases hlt:n<S.N
 ·refine zf (decide_eq_true (by omega)) ?_;have hJ3:=hdr _ _ hJ2;have hlt32:n<4294967296:=by omega
  refine zpO ?_;generalize w2.drew=w3 at hJ3 ⊢;obtain⟨hbk,hS⟩:=hR _ _ hJ3;obtain⟨t,hbx⟩:=hS.box;obtain⟨c1,c2,c3⟩:=zli hS n;refine zl (x:=some ⟨b,0,none⟩) hbk (by rfl) (zr (qh (l:=.ptr) 8 (some ⟨nb,0,none⟩) hbx (by rfl) (by rfl) ?_));refine zl (x:=some ⟨b,0,none⟩) hbk (by rfl) (zr (qh (l:=.ptr) 7 (some ⟨hb,0,none⟩) hbx (by rfl) (by rfl) ?_));refine zl (x:=some ⟨b,0,none⟩) hbk (by rfl) (zr (qh (l:=.ptr) 9 (zj0 m) hbx (by rfl) (by rfl) ?_));refine zb (vi hS n hlt32) ?_;rintro _ w4 ⟨rfl,rfl⟩;refine⟨_,rfl,?_⟩;refine⟨?_,zb (zgx hS n hlt32) ?_⟩
  ·intro p hp q hq;simp only [mem_cons,not_mem_nil,or_false]at hp;rcases hp with rfl|rfl|rfl|rfl<;>(simp only [mem_cons,not_mem_nil,or_false]at hq;subst hq)
   ·exact(hbx.cell 9).trans rfl
   ·exact(hbk.cell 0).trans rfl
   ·exact(hbx.cell 7).trans rfl
   ·exact(hbk.cell 0).trans rfl
  rintro _ w5 ⟨rfl,rfl⟩;refine⟨_,rfl,?_⟩;refine⟨?_,zb (zcg hS n hlt32) ?_⟩
  ·intro p hp q hq;simp only [mem_cons,not_mem_nil,or_false]at hp;rcases hp with rfl|rfl<;>(simp only [mem_cons,not_mem_nil,or_false]at hq;subst hq)
   ·exact(hbx.cell 9).trans rfl
   ·exact(hbk.cell 0).trans rfl
  rintro _ w6 ⟨rfl,rfl⟩;refine⟨_,rfl,?_⟩;rw[wrap_i64 (x:=(S.now.getD n 0:Int)+_) (by omega) (by omega),wrap_i64 (by omega) (by omega)];have hfree:S.yv n=true↔S.now.getD n 0=0/\S.held.getD n 0=0/\cnt S.mark n=0:=by simp[Spa.yv,and_assoc]
  have hnx:wrap .u32 ((n:Int)+1)=((n+1:Nat):Int):=by rw[show(n:Int)+1=((n+1:Nat):Int) by omega,uQ (by omega)]
  refine zg (fun hz=>?_) (fun hz=>?_)
  ·have hz:=beq_iff_eq.1 hz;have hf:(decide (2<=n)&&S.yv n)=true:=by
    rw[hfree.2 (by omega),decide_eq_true h2];rfl
   have hget:=zlj hlt hf;have hidx:(js S n).length<(vj S).length:=by
    rw[hlen];exact(List.getElem?_eq_some_iff.1 hget).1
   refine .inr ⟨l,rfl,?_⟩;have hy:=hY _ w6 hidx hJ3;have el:(vj S)[(js S n).length]=[.int .u32 (n:Int)]:=by
    obtain⟨h1,h2⟩:=List.getElem?_eq_some_iff.1 hget;simp[vj,h2]
   rw[el]at hy;obtain⟨fn,tmps,asg,bd,hy1,hy2⟩:=hy;refine⟨fn,tmps,asg,bd,hy1,RoundIn.mono hy2 ?_⟩;rintro(v|c|_) w7 hv
   ·obtain⟨rfl,hJ7⟩:=hv;refine⟨true,rfl,zd (by rfl) ?_⟩;rw[hnx];refine⟨⟨n+1,by omega,by omega,rfl,?_⟩,by omega⟩;rw[qM,if_pos hf,length_append];exact hJ7
   ·exact hv
   ·exact hv
  ·have hz:=beq_eq_false_iff_ne.1 hz;rw[hnx];refine⟨⟨n+1,by omega,by omega,rfl,?_⟩,by omega⟩;rw[qM,if_neg (by
    intro hh
    simp only [Bool.and_eq_true,hfree]at hh
    omega)]
   exact hJ3
 ·refine zd (decide_eq_false (by omega)) ?_;obtain rfl:n=S.N:=by omega
  rw[hlen];exact hJ2
end V
/- Contracts of the package space:Free,take. -/
namespace V
open Go Go.Proofs Go.RowKit Crc
variable {w w':World} {b db:Nat} {S:Spa} {F Fd:Nat->Prop} {x:SLC} {hb hr nb nr:Nat} {m:MkL}
theorem SpM.qd {a c:Nat} (h:SpM w b db S F Fd x hb hr nb nr m) (hs:yN a c w w') (h1:¬F a) (h2:¬F c):SpM w' b db S F Fd x hb hr nb nr m:=by
 refine h.only (G:=fun k=>k=a\/k=c) ⟨hs.1,hs.2.1,hs.2.2.1,Nat.le_of_eq hs.2.2.2.1.symm,fun k hk hg=>hs.2.2.2.2 k (fun e=>hg (.inl e)) (fun e=>hg (.inr e))⟩ ?_;rintro j hj (rfl|rfl)
 ·exact h1 hj
 ·exact h2 hj
theorem znL (S:Spa):S.zY<=S.N:=by
 unfold Spa.zY Spa.yg;exact Nat.le_trans (List.length_filter_le _ _) (by simp)
theorem ziy (h:SpM w b db S F Fd x hb hr nb nr m):
  Calls prog 26 #[.pointer (some ⟨b,0,none⟩)] w (Ret fun v w'=>v=.int .i64 (S.zY:Int)/\Ext w w'):=by
 have hdim:=h.dims;have hN:=hdim.n;have hle:=znL S;apply zoJ;unfold S26;refine zq fun r1 w1 hb1 he1 hr1 hs1=>?_;refine zd (by rfl) ?_;refine zb (zj3 (h.ext he1)) ?_;rintro v w2 ⟨hit,hR2,hs2,he2⟩;refine⟨v,rfl,?_⟩;have hlt:=(h.ext he1).lt;have h12:=he2.size;have hr2:=hR2.1.lt;have hlen:(vj S).length=S.zY:=by simp[vj,Spa.zY]
 refine za4 (fun i w'=>zj2 b w1.heap.size (fun w=>SpM w b db S F Fd x hb hr nb nr m) w'/\Blk w' r1 [.int .i64 (i:Int)] 3/\Ext w w') hit (fun i w' hI=>hI.1) ?_ ?_ ?_ ?_ ?_
 ·rintro i w' ⟨⟨g1,g2⟩,g3,g4⟩;have hx:=(Ext.refl w').drew;exact⟨⟨g1.ext hx,g2.ext hx⟩,g3.ext hx,g4.trans hx⟩
 ·rintro i w' w'' hs ⟨⟨g1,g2⟩,g3,g4⟩;refine⟨⟨hs.blk g1 (by omega),g2.qd hs (fun hf=>?_) (fun hf=>?_)⟩,hs.blk g3 (by omega),hs.ext g4 (by have:=he1.size;omega)⟩
  ·have:=hlt _ hf;omega
  ·have:=hlt _ hf;omega
 ·intro o;have hx:Ext w2 ((w2.alloc (.deferred (some []))).alloc o):=((Ext.refl w2).alloc _).alloc _;exact⟨⟨hR2.1.ext hx,hR2.2.ext hx⟩,(hb1.ext he2).ext hx,(he1.trans he2).trans hx⟩
 ·rintro i hi w' N jump ⟨⟨g1,g2⟩,g3,g4⟩ hsz hN'
  have hi':i<S.yg.length:=by have:(vj S).length=S.yg.length:=by simp[vj]
                             omega
  refine⟨((S.yg[i]:Nat),()),by simp[vj],?_⟩;refine zl (x:=(i:Int)) g3 (by rfl) ?_;rw[wrap_i64 (by omega) (by omega)];refine zQ g3 (by show 0<1;omega) ?_;have hg:=yH w' r1 0 (.int .i64 ((i:Int)+1));refine hN' _ ⟨⟨g1.other (p:=⟨r1,0,none⟩) (by show r1≠w1.heap.size;omega) _,?_⟩,g3.set 0 (.int .i64 ((i:Int)+1)),g4.set (p:=⟨r1,0,none⟩) (by show w.heap.size<=r1;omega) _⟩ (by simp) (fun k hk=>Below.heap_setCell _ _ _ _ (by show k≠r1;omega));refine g2.only (Only.z7 (F:=fun k=>k=r1) hg (fun j hj=>.inl (by injection hj with hj;exact hj.symm))) (fun j hj e=>?_);have hF:=h.lt j hj;have:j=r1:=e;omega
 ·rintro w' ⟨⟨g1,g2⟩,g3,g4⟩ hsz hdf;rw[qG];rw[hlen]at g3;refine zl (x:=(S.zY:Int)) g3 (by rfl) ?_;refine zQ g3 (by show 0<1;omega) ?_;have g5:=g3.set 0 (.int .i64 (S.zY:Int));refine jg ?_ ?_
  ·rw[Below.heap_setCell _ _ _ _ (by show w2.heap.size≠r1;omega)];exact hdf
  have hsb:=z8 (a:=w2.heap.size) (b:=w2.heap.size+1) (w:=w'.setCell ⟨r1,0,none⟩ (.int .i64 (S.zY:Int))) (o:=.deferred none) (.inl rfl);refine zl (x:=(S.zY:Int)) (hsb.blk g5 (by omega)) (by rfl) ?_;refine⟨rfl,hsb.ext (g4.set (p:=⟨r1,0,none⟩) (by show w.heap.size<=r1;omega) _) (by have:=he1.size;omega)⟩
def subs (l:List Nat):List Nat->List Nat
 |[]=>l
 |n::r=>subs (xr l n) r
theorem zdE (l:List Nat):∀ a c:List Nat,subs l (a++c)=subs (subs l a) c
 |[],_=>rfl
 |n::r,c=>zdE (xr l n) r c
theorem zdF (l:List Nat) (n:Nat):(xr l n).length=l.length:=by unfold xr;split<;>simp
theorem zaM:∀ (a l:List Nat),(subs l a).length=l.length
 |[],l=>rfl
 |n::r,l=>by rw[subs,zaM r,zdF]
theorem zdf (h:SpM w b db S F Fd x hb hr nb nr m) {n:Nat} (hn:n<4294967296):
  Calls prog 87 #[.pointer (some ⟨nb,0,none⟩),.int .u32 (n:Int)] w (Ret fun v w'=>v=.tuple #[.int .i64 (zbL S.now n:Int),.int .i64 (atE S.now n)]/\SpM w' b db { S with now:=xr S.now n } F Fd x hb hr nb nr m/\w.grownBy w' (some nr)):=by
 obtain⟨q,c⟩:=h.nowC;refine(zlc c n hn).mono (Ret.mono ?_);rintro v w' ⟨rfl,hc,hg⟩;exact⟨rfl,h.kz hg hc (zdF _ _),hg⟩
theorem zfz {A:Option Addr} {n c r1 r2:Nat} {ns:List Nat} (h:SpM w b db S F Fd x hb hr nb nr m) (h1:Blk w r1 [.slice A n c] 54) (h2:Blk w r2 [.pointer (some ⟨b,0,none⟩)] 48) (hs:Sli (zv .u32) w A n ns)
  (hns:∀ k∈ns,k<4294967296) (hf1:r1≠nr) (hf2:r2≠nr) (hA:∀ a,A=some a->a.block≠nr):
  uJ prog 122 [.pointer (some ⟨r1,0,none⟩),.pointer (some ⟨r2,0,none⟩)] w fun _ w'=>SpM w' b db { S with now:=subs S.now ns } F Fd x hb hr nb nr m/\w.grownBy w' (some nr):=by
 apply zkS;unfold S122;have hl:=hs.len;have hle:=hs.le;refine zl (x:=(A,n,c)) h1 (by rfl) ?_;dsimp only;refine zw (fun y w'=>∃ i:Nat,i<=n/\y=((i:Int),())/\SpM w' b db { S with now:=subs S.now (ns.take i) } F Fd x hb hr nb nr m/\w.grownBy w' (some nr)) (fun y=>(n-y.1).toNat) ⟨0,by omega,rfl,h,xJ _ _⟩ ?_;rintro _ w1 ⟨i,hi,rfl,hS,hg⟩;dsimp only
 by_cases hlt:i<n
 ·refine zf (decide_eq_true (by omega)) ?_;have hs1:Sli (zv .u32) w1 A n ns:=hs.grown hg (fun a ha e=>hA a ha (by injection e));refine z6 hs1 (by omega) (by omega) ?_;rw[Int.toNat_natCast];have e:ns[i]?=some (ns.getD i 0):=by rw[getD_eq_getElem?_getD,List.getElem?_eq_getElem (by omega)];rfl
  obtain⟨t,hbx⟩:=hS.box;refine zl (x:=some ⟨b,0,none⟩) (h2.grown hg (by simpa using hf2)) (by rfl) (zr (qh (l:=.ptr) 8 (some ⟨nb,0,none⟩) hbx (by rfl) (by rfl) ?_));refine zb (zdf hS (hns _ (mem_of_getElem? e))) ?_;rintro _ w2 ⟨rfl,hS2,hg2⟩;refine⟨(_,_,()),rfl,?_⟩;have e2:subs S.now (ns.take (i+1))=xr (subs S.now (ns.take i)) (ns.getD i 0):=by
   rw[take_add_one,e,zdE];rfl
  refine⟨⟨i+1,by omega,by rw[wrap_i64 (by omega) (by omega)];rfl,by rw[e2];exact hS2,xg hg hg2 (fun j hj=>.inl hj)⟩,by rw[wrap_i64 (by omega) (by omega)];omega⟩
 ·refine zd (decide_eq_false (by omega)) ?_;rw[take_of_length_le (by omega)]at hS;exact⟨hS,hg⟩
end V
/- Contracts of the package space:take. -/
namespace V
open Go Go.Proofs Go.RowKit Crc
theorem zjg {T:Type} {x0:T} {B:T->(T->WP)->WP} {w:World} (I:T->Nat->WP) (k0:Nat) (h0:I x0 k0 w)
  (h:∀ x k w (J:T->WP),I x k w->(∀ x' k' w',k'<k->I x' k' w'->J x' w')->B x J w):zz T x0 B w:=by
 classical
 refine⟨fun x w=>∃ k,I x k w,fun x w=>if hh:∃ k,I x k w then Classical.choose (least hh) else 0,⟨k0,h0⟩,?_⟩;rintro x w ⟨k,hk⟩;have hh:∃ k,I x k w:=⟨k,hk⟩;have hs:=Classical.choose_spec (least hh);refine h x _ w _ hs.1 (fun x' k' w' hlt hI=>⟨⟨k',hI⟩,?_⟩);have hh':∃ k,I x' k w':=⟨k',hI⟩;simp only [dif_pos hh',dif_pos hh];exact Nat.lt_of_le_of_lt ((Classical.choose_spec (least hh')).2 k' hI) hlt
theorem qE {l r:List Nat} (hl:l.length=r.length) (h:∀ k,l.getD k 0=r.getD k 0):l=r:=by
 apply List.ext_getElem hl;intro k h1 h2;have:=h k;rw[getD_eq_getElem?_getD,getD_eq_getElem?_getD,List.getElem?_eq_getElem h1,List.getElem?_eq_getElem h2]at this;exact this
theorem ym (l:List Nat) (i k x:Nat):(l.set i x).getD k 0=if i=k/\k<l.length then x else l.getD k 0:=by
 rw[getD_eq_getElem?_getD,getD_eq_getElem?_getD,List.getElem?_set]
 by_cases hik:i=k
 ·subst hik
  by_cases hk:i<l.length
  ·simp[hk]
  ·simp[hk]
 ·rw[if_neg hik,if_neg (fun h=>hik h.1)]
def onL (l:List Nat) (ns:List Nat):List Nat:=ns.foldl (fun l n=>l.set n 1) l
theorem zj4 (l a:List Nat) (n:Nat):onL l (a++[n])=(onL l a).set n 1:=by simp[onL]
theorem qN:∀ (ns l:List Nat),(onL l ns).length=l.length
 |[],l=>rfl
 |n::r,l=>by rw[onL,foldl_cons];show(onL (l.set n 1) r).length=_;rw[qN r];simp
theorem zjh:∀ (ns l:List Nat) (k:Nat),(∀ n∈ns,n<l.length)->(onL l ns).getD k 0=if k∈ns then 1 else l.getD k 0
 |[],l,k,_=>by simp[onL]
 |n::r,l,k,h=>by
  show(onL (l.set n 1) r).getD k 0=_;rw[zjh r _ k (fun j hj=>by rw[length_set];exact h j (mem_cons_of_mem _ hj)),ym];have hn:=h n mem_cons_self
  by_cases hk:k∈r
  ·rw[if_pos hk,if_pos (mem_cons_of_mem _ hk)]
  ·rw[if_neg hk]
   by_cases hkn:n=k
   ·subst hkn;rw[if_pos ⟨rfl,hn⟩,if_pos mem_cons_self]
   ·rw[if_neg (fun e=>hkn e.1),if_neg (fun e=>by rcases mem_cons.1 e with e|e;exact hkn e.symm;exact hk e)]
theorem zed:∀ (ns l:List Nat) (k:Nat),ns.Nodup->(∀ n∈ns,2<=n/\n<l.length/\l.getD n 0≠0)->(subs l ns).getD k 0=if k∈ns then l.getD k 0-1 else l.getD k 0
 |[],l,k,_,_=>by simp[subs]
 |n::r,l,k,hnd,h=>by
  obtain⟨h2,hlt,h0⟩:=h n mem_cons_self;obtain⟨hnr,hnd⟩:=nodup_cons.1 hnd;have ea:atE l n=0:=by unfold atE;rw[if_neg (by omega),if_neg h0]
  have es:xr l n=l.set n (l.getD n 0-1):=by
   unfold xr;rw[if_pos ea]
  show(subs (xr l n) r).getD k 0=_;rw[es,zed r _ k hnd (fun j hj=>?_),ym]
  ·by_cases hkn:n=k
   ·subst hkn;rw[if_neg hnr,if_pos ⟨rfl,hlt⟩,if_pos mem_cons_self]
   ·rw[if_neg (show ¬(n=k/\k<l.length) from fun e=>hkn e.1)]
    by_cases hk:k∈r
    ·rw[if_pos hk,if_pos (mem_cons_of_mem _ hk)]
    ·rw[if_neg hk,if_neg (fun e=>by rcases mem_cons.1 e with e|e;exact hkn e.symm;exact hk e)]
  ·obtain⟨g1,g2,g3⟩:=h j (mem_cons_of_mem _ hj);refine⟨g1,by rw[length_set];exact g2,?_⟩;rw[ym,if_neg (show ¬(n=j/\j<l.length) from fun e=>hnr (e.1▸hj))];exact g3
structure Marked (S:Spa) (ns:List Nat):Prop where
 nodup:ns.Nodup
 each:∀ n∈ns,2<=n/\n<S.now.length/\S.now.getD n 0=0/\cnt S.mark n≠0
theorem Marked.get {S:Spa} {ns:List Nat} (h:Marked S ns) (k:Nat):(onL S.now ns).getD k 0=if k∈ns then 1 else S.now.getD k 0:=zjh _ _ _ (fun n hn=>(h.each n hn).2.1)
theorem Marked.back {S:Spa} {ns:List Nat} (h:Marked S ns):subs (onL S.now ns) ns=S.now:=by
 refine qE (by rw[zaM,qN]) (fun k=>?_);rw[zed _ _ _ h.nodup (fun n hn=>?_),h.get]
 ·split
  ·rename_i hk;have:=(h.each k hk).2.2.1;omega
  ·rfl
 ·obtain⟨g1,g2,g3,g4⟩:=h.each n hn;refine⟨g1,by rw[qN];exact g2,?_⟩;rw[h.get,if_pos hn]
  decide
theorem Marked.zpP {S:Spa} {ns:List Nat} (h:Marked S ns) {n:Nat} (hn:n∉ns):subs ((onL S.now ns).set n 1) ns=S.now.set n 1:=by
 refine qE (by rw[zaM,length_set,qN,length_set]) (fun k=>?_);rw[zed _ _ _ h.nodup (fun j hj=>?_),ym,ym,h.get,qN]
 ·by_cases hk:k∈ns
  ·rw[if_pos hk,if_neg (show ¬(n=k/\k<S.now.length) from fun e=>hn (e.1▸hk)),if_pos hk,if_neg (show ¬(n=k/\k<S.now.length) from fun e=>hn (e.1▸hk))];have:=(h.each k hk).2.2.1;omega
  ·rw[if_neg hk,if_neg hk]
 ·obtain⟨g1,g2,g3,g4⟩:=h.each j hj;refine⟨g1,by rw[length_set,qN];exact g2,?_⟩;rw[ym,if_neg (show ¬(n=j/\j<(onL S.now ns).length) from fun e=>hn (e.1▸hj)),h.get,if_pos hj]
  decide
theorem zeS {p:Nat->Bool} {n N:Nat} (hn:n<N) (hp:p n=true) (hno:∀ j,j<n->p j=false):(List.range N).findIdx p=n:=by
 have h1:(List.range N).findIdx p<(List.range N).length:=List.findIdx_lt_length_of_exists ⟨n,mem_range.2 hn,hp⟩;rw[length_range]at h1;rcases Nat.lt_trichotomy ((List.range N).findIdx p) n with h|h|h
 ·have:=List.findIdx_getElem (p:=p) (xs:=List.range N) (w:=by rw[length_range];exact h1);rw[getElem_range,hno _ h]at this;cases this
 ·exact h
 ·have:=List.not_of_lt_findIdx (p:=p) (xs:=List.range N) h;rw[getElem_range,hp]at this;simp at this
theorem zS {S:Spa} {n:Nat}:S.yv n=true↔S.now.getD n 0=0/\S.held.getD n 0=0/\cnt S.mark n=0:=by simp[Spa.yv,and_assoc]
theorem ke {l hl:List Nat} {n:Nat}:qL l hl n=true↔l.getD n 0=0/\hl.getD n 0=0:=by simp[qL]
theorem Marked.take {S:Spa} {ns:List Nat} (h:Marked S ns) (hlt:zH (onL S.now ns) S.held<S.now.length) (h0:cnt S.mark (zH (onL S.now ns) S.held)=0):S.zH=zH (onL S.now ns) S.held:=by
 have hf:=ke.1 (zd7 (l:=onL S.now ns) (hl:=S.held) (by rw[qN];exact hlt));have hg:=h.get (zH (onL S.now ns) S.held);refine zeS hlt (zS.2 ⟨?_,hf.2,h0⟩) (fun j hj=>?_)
 ·by_cases hk:zH (onL S.now ns) S.held∈ns
  ·exact absurd h0 (h.each _ hk).2.2.2
  ·rw[if_neg hk]at hg;omega
 ·have:=zcN hj;cases hq:S.yv j with
  |false=>rfl
  |true=>
   obtain⟨g1,g2,g3⟩:=zS.1 hq;have hgj:=h.get j
   by_cases hk:j∈ns
   ·exact absurd g3 (h.each _ hk).2.2.2
   ·rw[if_neg hk]at hgj;rw[ke.2 ⟨by omega,g2⟩]at this;cases this
theorem Marked.none {S:Spa} {ns:List Nat} (h:Marked S ns) (hlt:¬zH (onL S.now ns) S.held<S.now.length):¬S.zH<S.now.length:=by
 intro hh;have hp:=List.findIdx_getElem (p:=S.yv) (xs:=List.range S.now.length) (w:=by rw[length_range];exact hh);rw[getElem_range]at hp;obtain⟨g1,g2,g3⟩:=zS.1 hp;have hgj:=h.get S.zH;have hk:S.zH∉ns:=fun hk=>absurd g3 (h.each _ hk).2.2.2;have g1':S.now.getD S.zH 0=0:=g1;rw[if_neg hk]at hgj;have:=zcN (l:=onL S.now ns) (hl:=S.held) (i:=S.zH) (by omega);have hf:qL (onL S.now ns) S.held S.zH=true:=ke.2 ⟨by omega,g2⟩;rw[hf]at this;cases this
variable {w w':World} {b db:Nat} {S:Spa} {F Fd:Nat->Prop} {x:SLC} {hb hr nb nr:Nat} {m:MkL}
theorem znM (h:SpM w b db S F Fd x hb hr nb nr m):
  Calls prog 116 #[.pointer (some ⟨nb,0,none⟩),.pointer (some ⟨hb,0,none⟩)] w (Ret fun v w'=>v=.tuple #[.int .u32 ((takeN S.now S.held:Nat):Int),.int .i64 (yU S.now S.held)]/\SpM w' b db { S with now:=yV S.now S.held } F Fd x hb hr nb nr m/\w.grownBy w' (some nr)):=by
 obtain⟨q,c⟩:=h.nowC;have hnd:=h.nodup;simp only [yR,nodup_cons,mem_cons,not_or]at hnd;refine(zeQ c (.inr ⟨hb,hr,rfl,h.heldC,by rw[h.ok.held,h.ok.now],hnd.2.1.2.2.1,hnd.2.2.1.2.1⟩)).mono (Ret.mono ?_);rintro v w' ⟨rfl,hc,hg⟩;exact⟨rfl,h.kz hg hc (by unfold yV;split<;>simp),hg⟩
theorem zf6:∀ {N:Nat} {ns:List Nat},ns.Nodup->(∀ n∈ns,n<N)->ns.length<=N
 |0,ns,_,hb=>by
  cases ns with
  |nil=>exact Nat.le_refl _
  |cons a r=>have:=hb a mem_cons_self;omega
 |N+1,ns,h,hb=>by
  have h2:=zf6 (N:=N) (ns:=ns.erase N) (h.erase N) (fun n hn=>by
   have:=hb n (List.mem_of_mem_erase hn)
   have:=(h.mem_erase_iff.1 hn).1
   omega)
  rw[List.length_erase]at h2;split at h2<;>omega
theorem ziz (h:SpM w b db S F Fd x hb hr nb nr m) (h01:S.now.getD 0 0≠0/\S.now.getD 1 0≠0):
  Calls prog 77 #[.pointer (some ⟨b,0,none⟩)] w (Ret fun v w'=>v=.tuple #[.int .u32 ((S.takeN:Nat):Int),.int .i64 S.yU]/\SpM w' b db { S with now:=S.yV } F Fd x hb hr nb nr m/\Only F w w'):=by
 have hFlt:=h.lt;have hnrF:F nr:=(h.own nr).2 (.inr (by simp[yR]));have hdim:=h.dims;have hN:=hdim.n;have hlen:=h.ok.now;apply zpi;unfold S77;refine zq fun r1 w1 hb1 he1 hr1 hs1=>?_;refine zq fun r2 w2 hb2 he2 hr2 hs2=>?_;have hnr:=hFlt nr hnrF;have hb1:=hb1.ext he2;have he:=he1.trans he2;have hz:=he1.size;refine zjg (fun _ k w'=>∃ (ns:List Nat) (A:Option Addr) (c:Nat),k=S.N-ns.length/\Marked S ns/\SpM w' b db { S with now:=onL S.now ns } F Fd x hb hr nb nr m/\Blk w' r1 [.pointer (some ⟨b,0,none⟩)] 48
  /\ Blk w' r2 [.slice A ns.length c] 54/\Owni (zv .u32) 41 w' w2.heap.size A ns.length c ns/\Only F w w') (S.N-0) ⟨[],none,0,rfl,⟨List.nodup_nil,by simp⟩,h.ext he,hb1,hb2,Owni.nil _ _ _,Only.zG he⟩ ?_
 rintro⟨⟩ k w3 J ⟨ns,A,c,rfl,hM,hS,g1,g2,g3,g4⟩ hJ;refine zK fun w4 he4 _ _=>?_;have hS:=hS.ext he4;have g1:=g1.ext he4;have g2:=g2.ext he4;have g3:=g3.ext he4;have g4:=Only.trans g4 (Only.zG (F:=F) he4) (fun j hj=>.inl hj);obtain⟨t,hbx⟩:=hS.box;refine zl (x:=some ⟨b,0,none⟩) g1 (by rfl) (zr (qh (l:=.ptr) 8 (some ⟨nb,0,none⟩) hbx (by rfl) (by rfl) ?_));refine zl (x:=some ⟨b,0,none⟩) g1 (by rfl) (zr (qh (l:=.ptr) 7 (some ⟨hb,0,none⟩) hbx (by rfl) (by rfl) ?_));refine zb (znM hS) ?_;rintro _ w5 ⟨rfl,hS5,hg5⟩;refine⟨(((takeN (onL S.now ns) S.held:Nat):Int),yU (onL S.now ns) S.held,()),rfl,?_⟩;have hg5':∀ j,some nr=some j->F j\/w.heap.size<=j:=fun j hj=>.inl (by injection hj with hj;subst hj;exact hnrF);have o5:Only F w w5:=Only.trans g4 (Only.z7 (F:=F) hg5 (fun j hj=>.inl (by injection hj with hj;subst hj;exact hnrF))) (fun j hj=>.inl hj);have g1:=g1.grown hg5 (by simp;omega);have g2:=g2.grown hg5 (by simp;omega);have hge:∀ j,orow A=some j->w2.heap.size<=j:=g3.row;have g3:=g3.grown hg5 (fun j hj e=>by injection hj with hj;subst hj;have:=hge _ e;have:=he.size;omega);have hn32:∀ n∈ns,n<4294967296:=fun n hn=>by have:=(hM.each n hn).2.1;omega
 have hAnr:∀ a,A=some a->a.block≠nr:=fun a ha e=>by have:=hge a.block (by rw[ha];rfl);have:=he.size;omega
 -- the end: what was marked goes back
 have fin:∀ {l:List Nat} {l':List Nat} {w6:World} {v:Value},SpM w6 b db { S with now:=l } F Fd x hb hr nb nr m->Ext w5 w6->subs l ns=l'->v=.tuple #[.int .u32 ((S.takeN:Nat):Int),.int .i64 S.yU]->l'=S.yV->
   zO prog (⟨.fn (.func 122) #[.pointer (some ⟨r2,0,none⟩),.pointer (some ⟨r1,0,none⟩)],#[]⟩::[]) (fun w'=>v=.tuple #[.int .u32 ((S.takeN:Nat):Int),.int .i64 S.yU]/\SpM w' b db { S with now:=S.yV } F Fd x hb hr nb nr m/\Only F w w') w6:=by
  rintro l l' w6 v hS6 he6 rfl hv hl;refine .inr ⟨_,_,rfl,by kernel_rfl,?_⟩;refine CallsDIn.mono (zfz hS6 (g2.ext he6) (g1.ext he6) ((g3.ext he6).sl) hn32 (by omega) (by omega) hAnr) ?_;rintro e u' w7 ⟨hu,hR⟩;refine⟨hu,?_⟩;cases e with
  |returned v7=>
   obtain⟨hS7,hg7⟩:=hR;refine⟨hv,?_,?_⟩
   ·rw[<- hl];exact hS7
   ·exact Only.trans (Only.trans o5 (Only.zG (F:=F) he6) (fun j hj=>.inl hj)) (Only.z7 (F:=F) hg7 (fun j hj=>.inl (by injection hj with hj;subst hj;exact hnrF))) (fun j hj=>.inl hj)
  |panicked c=>exact hR.elim
  |outgrown=>exact hR.elim
 have hol:(onL S.now ns).length=S.now.length:=qN _ _
 by_cases hlt:zH (onL S.now ns) S.held<S.now.length
 ·have eN:takeN (onL S.now ns) S.held=zH (onL S.now ns) S.held:=by unfold takeN;rw[if_pos (by omega)]
  have eE:yU (onL S.now ns) S.held=0:=by unfold yU;rw[if_pos (by omega)]
  have eL:yV (onL S.now ns) S.held=(onL S.now ns).set (zH (onL S.now ns) S.held) 1:=by unfold yV;rw[if_pos (by omega)]
  dsimp only at eN eE ⊢;rw[eN,eE];rw[eL]at hS5;have hf:=ke.1 (zd7 (l:=onL S.now ns) (hl:=S.held) (by omega));have hget:=hM.get (zH (onL S.now ns) S.held);generalize hn:zH (onL S.now ns) S.held=n at *;have hnns:n∉ns:=fun hk=>by rw[if_pos hk]at hget;omega
  rw[if_neg hnns]at hget;have h2n:2<=n:=by
   rcases Nat.lt_or_ge n 2 with hh|hh
   ·have:n=0\/n=1:=by omega
    rcases this with rfl|rfl
    ·exact absurd (by omega:S.now.getD 0 0=0) h01.1
    ·exact absurd (by omega:S.now.getD 1 0=0) h01.2
   ·exact hh
  refine zd (by rfl) ?_;obtain⟨t,hbx⟩:=hS5.box;refine zl (x:=some ⟨b,0,none⟩) g1 (by rfl) (zr (qh (l:=.ptr) 9 (zj0 m) hbx (by rfl) (by rfl) ?_));refine zb (zcg hS5 n (by omega)) ?_;rintro _ w6 ⟨rfl,hw6⟩;refine⟨_,rfl,?_⟩;rw[hw6];dsimp only;refine zg (fun hz=>?_) (fun hz=>?_)
  ·have hz:cnt S.mark n=0:=by have:=beq_iff_eq.1 hz;omega
   have eT:S.zH=n:=by rw[<- hn];exact hM.take (by rw[hn];exact hlt) (by rw[hn];exact hz)
   have e1:S.takeN=n:=by unfold Spa.takeN;rw[eT,if_pos hlt]
   have e2:S.yU=0:=by unfold Spa.yU;rw[eT,if_pos hlt]
   have e3:S.yV=S.now.set n 1:=by unfold Spa.yV;rw[eT,if_pos hlt]
   exact fin hS5 (Ext.refl w5) (hM.zpP hnns) (by rw[e1,e2]) e3.symm
  ·have hz:cnt S.mark n≠0:=by have:=beq_eq_false_iff_ne.1 hz;omega
   have hM':Marked S (ns++[n]):=by
    refine⟨?_,fun k hk=>?_⟩
    ·rw[List.nodup_append];exact⟨hM.nodup,by simp,fun a ha c hc e=>by simp at hc;subst hc;subst e;exact hnns ha⟩
    ·rcases mem_append.1 hk with hk|hk
     ·exact hM.each k hk
     ·rw[mem_singleton.1 hk];exact⟨h2n,hlt,by omega,hz⟩
   have hlen1:=zf6 hM'.nodup (fun k hk=>(hM'.each k hk).2.1);rw[length_append,length_singleton]at hlen1;refine zl (x:=(A,ns.length,c)) g2 (by rfl) ?_;have hle:=g3.le;dsimp only;refine yW (E:=zv .u32) (ys:=[n]) (by rfl) rfl jT g3 (by have:=he4.size;have:=hg5.size;have:=g4.2.2.2.1;have:=he.size;have hh:=g2.lt;omega) (by omega) (by omega) ?_;intro A' c' w7 ho7 hg7;have hx7:∀ j,orow A=some j->¬F j:=fun j hj hf=>by have:=hge j hj;have:=hFlt j hf;have:=he.size;omega
   have o7:Only (fun j=>orow A=some j) w5 w7:=Only.z7 hg7.grown (fun j hj=>.inl hj);have hS7:=hS5.only o7 (fun j hj e=>hx7 j e hj);have g1:=g1.only o7 (fun e=>by have:=hge _ e;omega);have g2:=g2.only o7 (fun e=>by have:=hge _ e;omega);refine zQ g2 (by show 0<1;omega) ?_;have hg8:=yH w7 r2 0 (.slice A' (ns.length+1) c');have o8:Only (fun j=>j=r2) w7 (w7.setCell ⟨r2,0,none⟩ (.slice A' (ns.length+1) c')):=Only.z7 hg8 (fun j hj=>.inl (by injection hj with hj;exact hj.symm));have hr2F:¬F r2:=fun hf=>by have:=hFlt r2 hf;omega
   have hAr2:∀ j,orow A'=some j->j≠r2:=fun j hj e=>by
    have:=ho7.row j hj;omega
   refine hJ () (S.N-(ns++[n]).length) _ (by rw[length_append,length_singleton];omega) ⟨ns++[n],A',c',rfl,hM',?_,g1.only o8 (by omega),?_,?_,?_⟩
   ·rw[zj4];exact hS7.only o8 (fun j hj e=>hr2F (by rw[<- show j=r2 from e];exact hj))
   ·rw[length_append,length_singleton];exact g2.set 0 _
   ·rw[length_append,length_singleton];exact ho7.only o8 (fun j hj e=>hAr2 j hj e)
   ·refine Only.trans (Only.trans o5 o7 (fun j hj=>.inr (by have:=hge j hj;have:=he.size;omega))) o8 (fun j hj=>.inr (by have:j=r2:=hj;omega))
 ·have eN:takeN (onL S.now ns) S.held=0:=by unfold takeN;rw[if_neg (by omega)]
  have eE:yU (onL S.now ns) S.held=9:=by unfold yU;rw[if_neg (by omega)]
  have eL:yV (onL S.now ns) S.held=onL S.now ns:=by unfold yV;rw[if_neg (by omega)]
  dsimp only at eN eE ⊢;rw[eN,eE];rw[eL]at hS5;refine zf (by rfl) ?_;have hno:=hM.none hlt;have e1:S.takeN=0:=by unfold Spa.takeN;rw[if_neg hno]
  have e2:S.yU=9:=by unfold Spa.yU;rw[if_neg hno]
  have e3:S.yV=S.now:=by unfold Spa.yV;rw[if_neg hno]
  exact fin hS5 (Ext.refl w5) hM.back (by rw[e1,e2]) e3.symm
end V
/- Contracts of the package space:page,Get. -/
namespace V
open Go Go.Proofs Go.RowKit Crc
theorem zj5 {w:World} {lo b:Nat} {bs:List UInt8} (h:Rdr w lo b bs):
  Calls prog 178 #[.pointer (some ⟨b,0,none⟩)] w (Ret fun v w'=>v=.int .i64 (bs.length:Int)/\w'=w):=by
 obtain⟨A,n,c,t,hb,hs,hc,ha,hlo⟩:=h;have hl:=hs.blen;apply zmZ;unfold S178;refine zd (by rfl) (zr (zF (A,n,c) hb (by rfl) ⟨?_,rfl⟩));rw[hl]
theorem ziA {w:World} {lo b k:Nat} {bs:List UInt8} (h:Rdr w lo b bs) (hk:k<=1000000):
  Calls prog 177 #[.pointer (some ⟨b,0,none⟩),.int .i64 (k:Int)] w (Ret fun v w'=>∃ A n c,v=.tuple #[.slice A n c,.int .i64 (rd bs k).2.1]/\Sl w' A n (bV (if bs.length<k then [] else bs.take k))/\w.grownBy w' (some b)):=by
 apply zmY;unfold S177;refine zd (by rfl) (zd (decide_eq_false (by omega)) ?_);refine zb (zdy h hk) ?_;rintro _ w1 ⟨A,n,c,rfl,hs,hr,hg⟩;refine⟨((A,n,c),(rd bs k).2.1,()),rfl,?_⟩;have hl:=hs.blen;have hn:n<=1000000:=by
  split at hl
  ·simp only [length_nil]at hl;omega
  ·rw[length_take]at hl;omega
 refine zb (zdw hs (by dsimp only;omega)) ?_;rintro _ w2 ⟨⟨A2,n2,c2⟩,rfl,ho2,he2⟩;refine⟨(A2,n2,c2),rfl,A2,n2,c2,rfl,ho2.sl,xg hg (xX he2 none) (fun j hj=>by cases hj)⟩
def pgV (p:Page) (y:SLC):List Value:=[.int .u8 (p.1.toNat:Int),.slice y.1 y.2.1 y.2.2,.string p.2.2]
def pgT (p:Page) (y:SLC):Int×SLC×ByteArray×Unit:=((p.1.toNat:Int),y,p.2.2,())
abbrev zfA:List Lf:=[.int .u8,.slc,.str]
theorem jB (p:Page) (y:SLC):∀ v∈pgV p y,v.oneCell'=true:=by
 intro v hv;simp only [pgV,mem_cons,not_mem_nil,or_false]at hv;rcases hv with rfl|rfl|rfl<;>rfl
theorem zee {w:World} {r:Nat} {cs:List Value} {t:TypeId} {K:(Int×SLC×ByteArray×Unit)->WP} {us:Array Value} (p:Page) (y:SLC) (hb:Blk w r cs t) (hl:cs.length=3) (hu:us.size=3)
  (hK:∀ w',Blk w' r (pgV p y) t->(∀ w0,Ext w0 w->w0.heap.size<=r->Ext w0 w')->(∀ k:Nat,k≠r->w'.heap[k]?=w.heap[k]?)->w'.heap.size=w.heap.size->K (pgT p y) w'):
  (zc (us.size=3)<|zu (aD r) (pgV p y)<|zk zfA (aD r) K) w:=
 refill (vs:=pgV p y) hb (by rw[hl];rfl) (jB p y) hu fun w' hb' hx hs hz=>zZ (ls:=zfA) (pgT p y) hb' rfl (hK w' hb' hx hs hz)
theorem zj6 {w:World} {r:Nat} {t:TypeId} {K:(Int×SLC×ByteArray×Unit)->WP} (p:Page) (y:SLC) (hb:Blk w r (pgV p y) t)
  (hK:∀ w',(∀ w0,Ext w0 w->w0.heap.size<=r->Ext w0 w')->(∀ k:Nat,k≠r->w'.heap[k]?=w.heap[k]?)->w'.heap.size=w.heap.size->K (pgT p y) w'):
  (zk zfA (aD r) fun(u:Int×SLC×ByteArray×Unit)=>zc ((#[(.int .u8 u.1),(.slice u.2.1.1 u.2.1.2.1 u.2.1.2.2),(.string u.2.2.1)]:Array Value).size=3)<|zu (aD r) [(.int .u8 u.1),(.slice u.2.1.1 u.2.1.2.1 u.2.1.2.2),(.string u.2.2.1)]<|zk zfA (aD r) K) w:=
 zZ (ls:=zfA) (pgT p y) hb rfl (zee p y hb rfl rfl fun w' _ hx hs hz=>hK w' hx hs hz)
def zgK (w:World) (p:Page×Int) (v:Value) (w':World):Prop:=∃ y:SLC,v=.tuple #[.agg (pgV p.1 y).toArray,.int .i64 p.2]/\Owni (zv .u32) 41 w' w.heap.size y.1 y.2.1 y.2.2 p.1.2.1/\Ext w w'
theorem jl {w w':World} (he:Ext w w') (e:Int):zgK w (xb,e) (.tuple #[.agg (pgV xb (none,0,0)).toArray,.int .i64 e]) w':=⟨(none,0,0),rfl,Owni.nil _ _ _,he⟩
theorem Owni.xY {α:Type} {E:Enc α} {e:TypeId} {w w':World} {B:Nat} {A:Option Addr} {n c r:Nat} {xs:List α} (h:Owni E e w B A n c xs) (hr:r<B) (hz:w'.heap.size=w.heap.size) (ho:w'.os=w.os) (ht:w'.tape=w.tape) (hu:w'.output=w.output) (hs:∀ k:Nat,k≠r->w'.heap[k]?=w.heap[k]?):Owni E e w' B A n c xs:=
 h.only (F:=fun k=>k=r) ⟨ho,ht,hu,Nat.le_of_eq hz.symm,fun k _ hk=>hs k hk⟩ (fun j hj e=>by have:=h.row j hj;have:j=r:=e;omega)
variable {w w':World} {b db:Nat} {S:Spa} {F Fd:Nat->Prop} {x:SLC} {hb hr nb nr:Nat} {m:MkL}
theorem zhw (h:SpM w b db S F Fd x hb hr nb nr m) (s:ByteArray) (hs:s.size<=1000000):
  Calls prog 138 #[.pointer (some ⟨b,0,none⟩),.string s] w (Ret (zgK w (xW S.N (B s)))):=by
 have hdim:=h.dims;have hN:=hdim.n;have hbl:=hdim.blocks;apply zmy;unfold S138;refine zq fun r1 w1 hb1 he1 hr1 hz1=>?_;have hb1:Blk w1 r1 (pgV xb (none,0,0)) _:=hb1;refine zb (zjU w1 s (by omega)) ?_;rintro _ w2 ⟨rfl,he2⟩;refine⟨(fT (yn (B s)).1,(yn (B s)).2,()),rfl,?_⟩;refine boxed (f:=(yn (B s)).1) fun r3 w3 hb3 he3 hr3=>?_;have hb1:=(hb1.ext he2).ext he3;have he:=(he1.trans he2).trans he3;have hz2:=he2.size;have hz3:=he3.size;have hlt1:r1<w3.heap.size:=hb1.lt;have hlt3:r3<w3.heap.size:=hb3.lt;have hbad:∀ {w4:World},Ext w w4->(xW S.N (B s)).2≠0\/(xW S.N (B s))=(xb,10)->xW S.N (B s)=(xb,10):=by
  intro w4 _ hh;rcases hh with hh|hh
  ·unfold xW at hh ⊢;split
   ·rename_i hc;rw[if_pos hc]at hh;exact absurd rfl hh
   ·rfl
  ·exact hh
 refine zg (fun hq=>?_) (fun hq=>?_)
 ·have hq:=bne_iff_ne.1 hq;have ep:xW S.N (B s)=(xb,10):=by unfold xW;rw[if_neg (fun hc=>hq hc.1)]
  refine zj6 xb (none,0,0) hb1 fun w4 hx _ _=>?_;rw[ep];exact jl (hx w he (by omega)) 10
 have hg0:=bne_eq_false_iff_eq.1 hq;refine zF (((yn (B s)).1.1.toNat:Nat):Int) hb3 (by rfl) ?_;refine zg (fun hq=>?_) (fun hq=>?_)
 ·have hq:=of_decide_eq_true hq;have ep:xW S.N (B s)=(xb,10):=by unfold xW;rw[if_neg (fun hc=>by omega)]
  refine zj6 xb (none,0,0) hb1 fun w4 hx _ _=>?_;rw[ep];exact jl (hx w he (by omega)) 10
 have hq3:3<=(yn (B s)).1.1.toNat:=by have:=of_decide_eq_false hq;omega
 have hdl:(B (yn (B s)).1.2.2).length<=4096:=by
  obtain⟨_,_,_,q4,_⟩:=zfq (by rw[(uF hg0).2]);rw[(uF hg0).1];have hsz:=yi s;have:=zfq (size:=((B s).length:Int)) (f:=xq (B s)) (by rw[(uF hg0).2]);omega
 have hpg:xW S.N (B s)=if zbc S.N (B (yn (B s)).1.2.2) then (((yn (B s)).1.1,ky (B (yn (B s)).1.2.2),mkB ((B (yn (B s)).1.2.2).drop (2+4*lev ((B (yn (B s)).1.2.2).take 2)))),0) else (xb,10):=by
  unfold xW
  by_cases hc:zbc S.N (B (yn (B s)).1.2.2)
  ·rw[if_pos ⟨hg0,hq3,hc⟩,if_pos hc]
  ·rw[if_neg (fun hh=>hc hh.2.2),if_neg hc]
 rw[hpg];clear hpg hbad;generalize (yn (B s)).1=f at *;refine zm 2 f.2.2 hb3 (by rfl) ?_;refine vf (u:=.string) (e:=5) (by kernel_rfl) (by kernel_rfl) (by kernel_rfl) (by have:=yi f.2.2;omega) ?_;intro c w4 hsl he4 hs4 hc4;have hb1:=hb1.ext he4;have hb3:=hb3.ext he4;have he4:=he.trans he4;have hlt14:=hb1.lt;have hlt34:=hb3.lt;refine zb (zjQ hsl (by have:=yi f.2.2;dsimp only;omega)) ?_;rintro _ w5 ⟨rb,rfl,hrb,hrd,he5⟩;refine⟨some ⟨rb,0,none⟩,rfl,?_⟩;have hb1:=hb1.ext he5;have hb3:=hb3.ext he5;have he5':=he4.trans he5;generalize hd:B f.2.2=d at *;refine zb (zcF (k:=2) hrd (by omega) (by omega)) ?_;rintro _ w6 ⟨rfl,hrd6,hg6⟩;have hb1:=hb1.grown hg6 (by simp;omega);have hb3:=hb3.grown hg6 (by simp;omega);have he6:Ext w w6:=he5'.grown hg6 (fun j hj=>by injection hj with hj;have:=he4.size;omega);refine⟨(((rd d 2).1:Int),(rd d 2).2.1,()),rfl,?_⟩;dsimp only
 by_cases hl2:d.length<2
 ·have e1:rd d 2=(0,7,d):=by unfold rd;rw[if_pos hl2]
  rw[e1];refine zf (by rfl) ?_;refine zj6 xb (none,0,0) hb1 fun w7 hx _ _=>?_;rw[if_neg (fun hc=>by have:=hc.1;omega)];exact jl (hx w he6 (by omega)) 10
 have e1:rd d 2=(lev (d.take 2),0,d.drop 2):=by unfold rd;rw[if_neg hl2]
 have hk16:lev (d.take 2)<65536:=by
  have:=zqs d;rw[e1]at this;exact this
 rw[e1]at hrd6 ⊢;dsimp only at hrd6 ⊢;refine zd (by rfl) ?_;refine zF ((f.1.toNat:Nat):Int) hb3 (by rfl) ?_;refine zQ hb1 (by show 0<3;omega) ?_;have hg7:=yH w6 r1 0 (.int .u8 (f.1.toNat:Int));have hb1:Blk (w6.setCell ⟨r1,0,none⟩ (.int .u8 (f.1.toNat:Int))) r1 (pgV (f.1,[],ByteArray.empty) (none,0,0)) _:=hb1.set 0 (.int .u8 (f.1.toNat:Int));have hrd7:=hrd6.grown hg7 (fun j hj=>by injection hj with hj;left;omega);have he7:=he6.grown hg7 (fun j hj=>by injection hj with hj;omega);generalize hw7:w6.setCell ⟨r1,0,none⟩ (.int .u8 (f.1.toNat:Int))=w7 at *;generalize hk:lev (d.take 2)=k at *;have hr1w:r1<w4.heap.size:=hlt14;have h45:=he5.size;have h67:w6.heap.size<=w7.heap.size:=by rw[<- hw7];simp
 have h56:=hg6.size;refine zw (fun y w'=>∃ (i:Nat) (A:Option Addr) (c:Nat),i<=k/\y=((i:Int),())/\2+4*i<=d.length/\(∀ n∈yO i (d.drop 2),2<=n/\n<S.N)/\Ext w w'/\w7.heap.size<=w'.heap.size/\Rdr w' w4.heap.size rb (d.drop (2+4*i))/\Blk w' r1 (pgV (f.1,[],ByteArray.empty) (A,i,c)) 56
   /\ Owni (zv .u32) 41 w' w7.heap.size A i c (yO i (d.drop 2))) (fun y=>(k-y.1).toNat) ⟨0,none,0,by omega,rfl,by omega,by simp[yO],he7,Nat.le_refl _,hrd7,hb1,Owni.nil _ _ _⟩ ?_
 rintro _ w8 ⟨i,A,c,hi,rfl,hdl8,hok,he8,hz8,hrd8,hb8,ho8⟩;dsimp only
 by_cases hlt:i<k
 ·refine zf (decide_eq_true (by omega)) ?_;refine zb (zcF (k:=4) hrd8 (by omega) (by omega)) ?_;rintro _ w9 ⟨rfl,hrd9,hg9⟩;have hb9:=hb8.grown hg9 (by simp;omega);have hrdlt:=hrd8.lt;have hrb7:rb<w7.heap.size:=by have:=hrd7.lt;omega
  have ho9:=ho8.grown hg9 (fun j hj e=>by injection hj with hj;have:=ho8.row _ e;omega);have he9:Ext w w9:=he8.grown hg9 (fun j hj=>by injection hj with hj;have:=he4.size;omega);refine⟨(((rd (d.drop (2+4*i)) 4).1:Int),(rd (d.drop (2+4*i)) 4).2.1,()),rfl,?_⟩;dsimp only
  by_cases hshort:d.length<2+4*i+4
  ·have e2:rd (d.drop (2+4*i)) 4=(0,7,d.drop (2+4*i)):=by unfold rd;rw[if_pos (by rw[length_drop];omega)]
   rw[e2];refine zf (by rfl) (zee xb (none,0,0) hb9 (by rfl) (by rfl) fun w10 _ hx _ _=>?_);rw[if_neg (fun hc=>by have:=hc.2.1;rw[hk]at this;omega)];exact jl (hx w he9 (by omega)) 10
  have e2:rd (d.drop (2+4*i)) 4=(lev ((d.drop (2+4*i)).take 4),0,(d.drop (2+4*i)).drop 4):=by unfold rd;rw[if_neg (by rw[length_drop];omega)]
  have hn32:lev ((d.drop (2+4*i)).take 4)<4294967296:=by
   have:=zlh (d.drop (2+4*i));rw[e2]at this;exact this
  rw[e2]at hrd9 ⊢;dsimp only at hrd9 ⊢;refine zd (by rfl) ?_;have hmem:∀ (hlen:2+4*k<=d.length),lev ((d.drop (2+4*i)).take 4)∈ky d:=by
   intro _;unfold ky yO;rw[hk];refine mem_map.2 ⟨i,mem_range.2 hlt,?_⟩;rw[drop_drop]
  generalize hn:lev ((d.drop (2+4*i)).take 4)=n at *;refine zg (fun hq=>?_) (fun hq=>?_)
  ·have hq:=of_decide_eq_true hq;refine zee xb (none,0,0) hb9 (by rfl) (by rfl) fun w10 _ hx _ _=>?_;rw[if_neg (fun hc=>by have h1:=hc.2.1;rw[hk]at h1;have:=hc.2.2 n (hmem h1);omega)];exact jl (hx w he9 (by omega)) 10
  have hq2:=of_decide_eq_false hq;obtain⟨t,hbx⟩:=(h.ext he9).box;refine zr (qh 3 S.sup.blocks hbx (by rfl) (by rfl) ?_);have eb:wrap .u64 S.sup.blocks=(S.N:Int):=by rw[hbl,zD (by omega)]
  rw[eb];refine zg (fun hq=>?_) (fun hq=>?_)
  ·have hq:=of_decide_eq_true hq;refine zee xb (none,0,0) hb9 (by rfl) (by rfl) fun w10 _ hx _ _=>?_;rw[if_neg (fun hc=>by have h1:=hc.2.1;rw[hk]at h1;have:=hc.2.2 n (hmem h1);omega)];exact jl (hx w he9 (by omega)) 10
  have hq3:=of_decide_eq_false hq;refine zm (l:=.slc) 1 (A,i,c) hb9 (by rfl) ?_;dsimp only;rw[uQ (by omega)];have hle:=ho9.le;refine yW (E:=zv .u32) (ys:=[n]) (by rfl) rfl jT ho9 (by have:=hg9.size;omega) (by omega) (by omega) ?_;intro A' c' w10 ho10 hg10;have hx10:∀ j,orow A=some j->w7.heap.size<=j:=fun j hj=>ho9.row j hj;have hb10:=hb9.grown hg10.grown (fun e=>by have:=hx10 r1 e.symm;omega);have hrd10:=hrd9.grown hg10.grown (fun j hj=>by have:=hx10 j hj;omega);have he10:Ext w w10:=he9.grown hg10.grown (fun j hj=>by have:=hx10 j hj;have:=he7.size;omega);rw[zC];refine zQ hb10 (by show 0+1<3;omega) ?_;have hg11:=yH w10 r1 (0+1) (.slice A' (i+1) c');have hb11:=hb10.set (0+1) (.slice A' (i+1) c');have ho11:=ho10.grown hg11 (fun j hj e=>by injection hj with hj;have:=ho10.row _ e;omega);have ew:yO (i+1) (d.drop 2)=yO i (d.drop 2)++[n]:=by rw[zhr,drop_drop,hn]
  refine⟨⟨i+1,A',c',by omega,by rw[wrap_u64,show((i:Int)+1) % 18446744073709551616=((i+1:Nat):Int) by omega],by omega,?_,he10.grown hg11 (fun j hj=>by injection hj with hj;omega),?_,?_,hb11,by rw[ew];exact ho11⟩,by rw[wrap_u64];omega⟩
  ·rw[ew];intro a ha;rcases mem_append.1 ha with ha|ha
   ·exact hok a ha
   ·rw[mem_singleton.1 ha];omega
  ·exact Nat.le_trans (Nat.le_trans (Nat.le_trans hz8 hg9.size) hg10.grown.size) hg11.size
  ·have:=hrd10.grown hg11 (fun j hj=>by injection hj with hj;left;omega);rw[drop_drop]at this;rw[show 2+4*(i+1)=2+4*i+4 by omega];exact this
 obtain rfl:i=k:=by omega
 refine zd (decide_eq_false (by omega)) ?_;refine zb (zj5 hrd8) ?_;rintro _ w9 ⟨rfl,hw9⟩;refine⟨_,rfl,?_⟩;rw[hw9];refine zb (ziA hrd8 (by rw[length_drop];omega)) ?_;rintro _ w10 ⟨A2,n2,c2,rfl,hs10,hg10⟩;refine⟨((A2,n2,c2),(rd (d.drop (2+4*i)) (d.drop (2+4*i)).length).2.1,()),rfl,?_⟩;have e3:rd (d.drop (2+4*i)) (d.drop (2+4*i)).length=(lev ((d.drop (2+4*i)).take (d.drop (2+4*i)).length),0,(d.drop (2+4*i)).drop (d.drop (2+4*i)).length):=by unfold rd;rw[if_neg (by omega)]
 rw[if_neg (by omega),List.take_length]at hs10;rw[e3];dsimp only;have hrb7:rb<w7.heap.size:=by have:=hrd7.lt;omega
 have hb10:=hb8.grown hg10 (by simp;omega);have ho10:=ho8.grown hg10 (fun j hj e=>by injection hj with hj;have:=ho8.row _ e;omega);have he10:Ext w w10:=he8.grown hg10 (fun j hj=>by injection hj with hj;have:=he4.size;omega);refine qS (e:=5) (by kernel_rfl) (by kernel_rfl) (by kernel_rfl) hs10 ?_;rw[zC];refine zQ hb10 (by show 0+2<3;omega) ?_;have hg11:=yH w10 r1 (0+2) (.string (mkB (d.drop (2+4*i))));have hb11:Blk (w10.setCell ⟨r1,0+2,none⟩ (.string (mkB (d.drop (2+4*i))))) r1 (pgV (f.1,yO i (d.drop 2),mkB (d.drop (2+4*i))) (A,i,c)) _:=hb10.set (0+2) (.string (mkB (d.drop (2+4*i))));have ho11:=ho10.grown hg11 (fun j hj e=>by injection hj with hj;have:=ho10.row _ e;omega);have he11:=he10.grown hg11 (fun j hj=>by injection hj with hj;omega);refine zj6 _ (A,i,c) hb11 fun w12 hx hs12 hz12=>?_;have hxx:=hx _ (Ext.refl _);have ekd:ky d=yO i (d.drop 2):=by unfold ky;rw[hk]
 rw[if_pos ⟨by omega,by rw[hk];omega,by rw[ekd];exact hok⟩,ekd];have he12:=hx w he11 (by omega);refine⟨(A,i,c),rfl,?_,he12⟩;refine Owni.lower ?_ (show w.heap.size<=w7.heap.size from he7.size);refine ho11.xY (r:=r1) (by omega) hz12 ?_ ?_ ?_ hs12
 ·exact he12.os.trans he11.os.symm
 ·exact he12.tape.trans he11.tape.symm
 ·exact he12.output.trans he11.output.symm
theorem ziB (h:SpM w b db S F Fd x hb hr nb nr m) (k:Int):
  Calls prog 137 #[.pointer (some ⟨db,0,none⟩),.int .i64 k] w (Ret fun v w'=>v=.tuple #[.string (S.dev.read k).1,.int .i64 (S.dev.read k).2]/\Ext w w'):=zjS h.dev k
theorem Dev.Ok.read {d:Dev} (h:d.Ok) {k:Int} (h0:0<=k) (h1:k<d.blocks):(d.read k).2=0/\((d.read k).1.size:Int)=d.size:=by
 unfold Dev.read;rw[if_neg (fun hh=>hh ⟨h0,h1⟩)];refine⟨rfl,?_⟩;have hl:=zaa d.pen d.dur;have hlen:=h.len;have he:=zcG (n:=d.size) d.pen d.dur h.each (fun p hp=>(h.pend p hp).2.2);have hk:k.toNat<(d.pen.foldl Go.Proofs.YtplgodmmmppmeaaGreat.V.put d.dur).length:=by rw[hl];omega
 show(((d.pen.foldl Go.Proofs.YtplgodmmmppmeaaGreat.V.put d.dur).getD k.toNat ByteArray.empty).size:Int)=_;rw[getD_eq_getElem?_getD,List.getElem?_eq_getElem hk];exact he _ (getElem_mem hk)
theorem kW {S:Spa} {n:Nat}:S.asked n=true↔2<=n/\n<S.N/\n∉S.sup.pages:=by simp[Spa.asked]
theorem vk (h:SpM w b db S F Fd x hb hr nb nr m) {n:Nat} (hn:n<4294967296):
  Calls prog 88 #[.pointer (some ⟨b,0,none⟩),.int .u32 (n:Int)] w (Ret (zgK w (S.get n))):=by
 have hdim:=h.dims;have hN:=hdim.n;have hbl:=hdim.blocks;have hsz:=hdim.size;apply zpt;unfold S88 Spa.get;refine zq fun r1 w1 hb1 he1 hr1 hz1=>?_;have hb1:Blk w1 r1 (pgV xb (none,0,0)) _:=hb1;refine zd (by rfl) ?_;refine zb (vT (h.ext he1) hn) ?_;rintro _ w2 ⟨rfl,hw2⟩;refine⟨_,rfl,?_⟩;rw[hw2];refine zg (fun hq=>?_) (fun hq=>?_)
 ·have hq:S.asked n=false:=by simpa using hq
  rw[if_pos hq];refine zee xb (none,0,0) hb1 (by rfl) (by rfl) fun w3 _ hx _ _=>?_;exact jl (hx w he1 (by omega)) 2
 have hq:S.asked n=true:=by simpa using hq
 rw[if_neg (by rw[hq];simp)];obtain⟨t,hbx⟩:=(h.ext he1).box;refine zr (qh (l:=.ptr) 8 (some ⟨nb,0,none⟩) hbx (by rfl) (by rfl) ?_);refine zb (vi (h.ext he1) n hn) ?_;rintro _ w3 ⟨rfl,hw3⟩;refine⟨_,rfl,?_⟩;rw[hw3];refine zg (fun hz=>?_) (fun hz=>?_)
 ·have hz:S.now.getD n 0=0:=by have:=beq_iff_eq.1 hz;omega
  rw[if_pos hz];refine zee xb (none,0,0) hb1 (by rfl) (by rfl) fun w3 _ hx _ _=>?_;exact jl (hx w he1 (by omega)) 8
 have hz:¬S.now.getD n 0=0:=by have:=beq_eq_false_iff_ne.1 hz;omega
 rw[if_neg hz];refine zr (zF (l:=.ptr) (some ⟨db,0,none⟩) hbx (by rfl) ?_);rw[wrap_i64 (by omega) (by omega)];refine zb (ziB (h.ext he1) (n:Int)) ?_;rintro _ w4 ⟨rfl,he4⟩;obtain⟨a1,a2,a3⟩:=kW.1 hq;have hrd:=h.dev.ok.read (k:=(n:Int)) (by omega) (by rw[<- h.ok.blocks];omega);refine⟨((S.dev.read n).1,(S.dev.read n).2,()),rfl,?_⟩;rw[hrd.1];refine zd (by rfl) ?_;have hb1:=hb1.ext he4;have he14:=he1.trans he4;have hr14:r1<w4.heap.size:=hb1.lt;refine zb (zhw (h.ext he14) (S.dev.read n).1 (by have:=hrd.2;have:=h.ok.size;omega)) ?_;rintro _ w5 ⟨y,rfl,ho5,he5⟩;refine⟨(pgT (xW S.N (B (S.dev.read n).1)).1 y,(xW S.N (B (S.dev.read n).1)).2,()),rfl,?_⟩;have he15:=he14.trans he5;refine zee (xW S.N (B (S.dev.read n).1)).1 y (hb1.ext he5) (by rfl) (by rfl) fun w6 _ hx hs6 hz6=>?_;have he16:=hx w he15 (by omega);refine⟨y,rfl,?_,he16⟩;refine Owni.lower ?_ (show w.heap.size<=w4.heap.size from he14.size);exact ho5.xY (r:=r1) (by omega) hz6 (he16.os.trans he15.os.symm) (he16.tape.trans he15.tape.symm) (he16.output.trans he15.output.symm) hs6
end V
/- Contracts of the package space:write,Put. -/
namespace V
open Go Go.Proofs Go.RowKit Crc
theorem zcS {w:World} {db:Nat} {d:Dev} {Fd:Nat->Prop} (h:xh w db d Fd) (k:Nat) (hk:k<4294967296) (f:Fra) (hg:f.2.1<18446744073709551616) (hn:d.pen.length<=1000000):
  Calls prog 78 #[.pointer (some ⟨db,0,none⟩),.int .u32 (k:Int),.agg (fV f).toArray] w (Ret fun v w'=>v=.int .i64 (yp d k f).2/\Step w db Fd (yp d k f).1 w'):=by
 apply zpj;unfold S78 yp;refine zq fun r1 w1 hb1 he1 _ _=>?_;have hb1:Blk w1 r1 (fV f) 127:=hb1;refine zK fun w2 he2 _ _=>?_;have hb2:=hb1.ext he2;have he:=he1.trans he2;refine zZ (ls:=fLs) (fT f) hb2 rfl ?_;refine zb (vY (h.ext he)) ?_;rintro _ w3 ⟨rfl,he3⟩;refine⟨(d.size,d.blocks,()),rfl,?_⟩;have hb3:=hb2.ext he3;have he3:=he.trans he3;refine⟨fun l hl p hp=>?_,?_⟩
 ·simp only [mem_singleton]at hl;subst hl;simp only [mem_cons,not_mem_nil,or_false]at hp;rcases hp with rfl|rfl|rfl
  ·exact(hb3.cell 0).trans rfl
  ·exact(hb3.cell 1).trans rfl
  ·exact(hb3.cell 2).trans rfl
 refine zb (zbH w3 d.size hg) ?_;rintro _ w4 ⟨rfl,he4⟩;refine⟨(mkB (xy d.size f).1,(xy d.size f).2,()),rfl,?_⟩;have he4:=he3.trans he4;have stay:∀ {w':World},Ext w w'->Step w db Fd d w':=fun e=>⟨Fd,h.ext e,fun k hk=>.inl hk,Only.zG e⟩;refine zg (fun hq=>?_) (fun hq=>?_)
 ·have hq:=bne_iff_ne.1 hq;rw[if_pos hq];exact⟨rfl,stay he4⟩
 ·have hq:=bne_eq_false_iff_eq.1 hq;rw[if_neg (fun hh=>hh hq)];rw[wrap_i64 (by omega) (by omega)];refine zb (zaG (h.ext he4) (k:Int) (mkB (xy d.size f).1) hn) ?_;rintro _ w5 ⟨rfl,F',g1,g2,g3⟩;refine⟨_,rfl,rfl,F',g1,fun j hj=>?_,Only.trans (Only.zG he4) g3 (fun j hj=>.inl hj)⟩;rcases g2 j hj with e|e
  ·exact .inl e
  ·exact .inr (Nat.le_trans he4.size e)
variable {w w':World} {b db:Nat} {S:Spa} {F Fd:Nat->Prop} {x:SLC} {hb hr nb nr:Nat} {m:MkL}
theorem zj7 (h:SpM w b db S F Fd x hb hr nb nr m) {r k:Nat} (hr1:Blk w r [.pointer (some ⟨b,0,none⟩)] 48) (hk:k<4294967296):
  Calls prog 72 ([Value.int .u32 (k:Int)]++(#[Value.pointer (some ⟨r,0,none⟩)]:Array Value).toList).toArray w (Ret fun v w'=>v=.bool (!S.asked k)/\w'=w):=by
 apply zpe;unfold S72;refine zl (x:=some ⟨b,0,none⟩) hr1 (by rfl) ?_;refine zb (vT h hk) ?_;rintro _ w1 ⟨rfl,rfl⟩;exact⟨_,rfl,rfl,rfl⟩
theorem zj8 (h:SpM w b db S F Fd x hb hr nb nr m) {r k:Nat} (hr1:Blk w r [.pointer (some ⟨b,0,none⟩)] 48) (hk:k<4294967296):
  Calls prog 74 ([Value.int .u32 (k:Int)]++(#[Value.pointer (some ⟨r,0,none⟩)]:Array Value).toList).toArray w (Ret fun v w'=>v=.bool (decide (S.now.getD k 0=0))/\w'=w):=by
 apply zpg;unfold S74;obtain⟨t,hbx⟩:=h.box;refine zl (x:=some ⟨b,0,none⟩) hr1 (by rfl) (zr (qh (l:=.ptr) 8 (some ⟨nb,0,none⟩) hbx (by rfl) (by rfl) ?_));refine zb (vi h k hk) ?_;rintro _ w1 ⟨rfl,rfl⟩;refine⟨_,rfl,?_,rfl⟩;congr 1;rw[Bool.eq_iff_iff,beq_iff_eq,decide_eq_true_iff];omega
theorem zlk {S:Spa} {l:List Nat}:l.any (fun k=>!S.asked k)=true↔∃ k∈l,S.asked k=false:=by simp
theorem any_zero {S:Spa} {l:List Nat}:l.any (fun k=>decide (S.now.getD k 0=0))=true↔∃ k∈l,S.now.getD k 0=0:=by simp
theorem Sli.only' {α:Type} {E:Enc α} {F:Nat->Prop} {w w':World} {A:Option Addr} {n:Nat} {xs:List α} (h:Sli E w A n xs) (k:Only F w w') (hr:0<n->∀ a,A=some a->¬F a.block):Sli E w' A n xs:=by
 rcases Nat.eq_zero_or_pos n with e|e
 ·subst e;have:=h.len;rw[eq_nil_of_length_eq_zero this];exact Sli.nil w' A
 ·exact h.only k (hr e)
theorem ziC (h:SpM w b db S F Fd x hb hr nb nr m) (h01:S.now.getD 0 0≠0/\S.now.getD 1 0≠0) (hgen:S.sup.gen+1<18446744073709551616) (hpen:S.dev.pen.length<=1000000)
  {A:Option Addr} {n c:Nat} (p:Page) (hs:Sli (zv .u32) w A n p.2.1) (hk32:∀ k∈p.2.1,k<4294967296) (hA:0<n->∀ a,A=some a->¬F a.block) (hds:p.2.2.size<=1000000000):
  Calls prog 24 #[.pointer (some ⟨b,0,none⟩),.agg (pgV p (A,n,c)).toArray] w (Ret fun v w'=>v=.tuple #[.int .u32 ((S.put p).2.1:Int),.int .i64 (S.put p).2.2]/\yD w b db F (S.put p).1 w'):=by
 have hdim:=h.dims;have hN:=hdim.n;have hsz:=hdim.size;have hroom:=hdim.room;have hFlt:=h.lt;have hl:=hs.len;have hle:=hs.le;apply zoI;unfold S24;refine zq fun r1 w1 hb1 he1 hr1 hz1=>?_;refine zq fun r2 w2 hb2 he2 hr2 hz2=>?_;have hb1:=hb1.ext he2;have he:=he1.trans he2;have hb2:Blk w2 r2 (pgV p (A,n,c)) 56:=hb2;have hS:=h.ext he;have hs2:=hs.ext he;have hz:=he1.size;have stay:∀ {w':World},Ext w w'->yD w b db F S w':=fun e=>⟨F,⟨Fd,x,hb,hr,nb,nr,m,h.ext e⟩,fun k hk=>.inl hk,Only.zG e⟩;refine zl (x:=some ⟨b,0,none⟩) hb1 (by rfl) (zd (by rfl) ?_);have e1:∀ e:Int,S.jS p=e->e≠0->(fun v w'=>v=Value.tuple #[.int .u32 ((S.put p).2.1:Int),.int .i64 (S.put p).2.2]/\yD w b db F (S.put p).1 w')=fun v w'=>v=Value.tuple #[.int .u32 (0:Int),.int .i64 e]/\yD w b db F S w':=by
  intro e he0 hne;unfold Spa.put;rw[if_pos (by rw[he0];exact hne),he0];rfl
 refine yu (fun y w'=>y=(decide (p.1.toNat<3\/p.2.1.length>65535\/(∃ k∈p.2.1,S.asked k=false)),())/\w'=w2) ?_ (fun J hJ=>?_);rotate_left
 ·refine zF ((p.1.toNat:Nat):Int) hb2 (by rfl) ?_;refine zg (fun hq=>?_) (fun hq=>?_)
  ·have hq:=of_decide_eq_true hq;exact hJ _ _ ⟨by rw[decide_eq_true (.inl (by omega))],rfl⟩
  have hq:=of_decide_eq_false hq;refine zm (l:=.slc) 1 (A,n,c) hb2 (by rfl) (zg (fun hq2=>?_) (fun hq2=>?_))
  ·have hq2:=of_decide_eq_true hq2;exact hJ _ _ ⟨by rw[decide_eq_true (.inr (.inl (by dsimp only at hq2;omega)))],rfl⟩
  have hq2:=of_decide_eq_false hq2;refine zm (l:=.slc) 1 (A,n,c) hb2 (by rfl) ?_;refine zb (zcR (c:=c) (q:=fun k=>!S.asked k) hs2 (by kernel_rfl) (fun k hk=>zj7 hS hb1 (hk32 k hk))) ?_;rintro _ w3 ⟨rfl,hw3⟩;refine⟨_,rfl,hJ _ _ ⟨?_,hw3⟩⟩;congr 1;rw[Bool.eq_iff_iff,decide_eq_true_iff,zlk];dsimp only at hq2;constructor
  ·intro hh;exact .inr (.inr hh)
  ·rintro(hh|hh|hh)
   ·omega
   ·omega
   ·exact hh
 rintro y w3 ⟨rfl,hw3⟩;rw[hw3];refine zg (fun hq=>?_) (fun hq=>?_)
 ·have hq:=of_decide_eq_true hq;have:=e1 2 (by unfold Spa.jS;rw[if_pos hq]) (by decide);rw[show(Value.tuple #[.int .u32 (0:Int),.int .i64 (2:Int)])=Value.tuple #[.int .u32 (0:Int),.int .i64 (2:Int)] from rfl];exact(congrFun (congrFun this _) _).mpr ⟨rfl,stay he⟩
 have hq1:=of_decide_eq_false hq;refine zm (l:=.slc) 1 (A,n,c) hb2 (by rfl) ?_;refine zb (zcR (c:=c) (q:=fun k=>decide (S.now.getD k 0=0)) hs2 (by kernel_rfl) (fun k hk=>zj8 hS hb1 (hk32 k hk))) ?_;rintro _ w4 ⟨rfl,hw4⟩;refine⟨_,rfl,?_⟩;rw[hw4];refine zg (fun hq=>?_) (fun hq=>?_)
 ·have:=e1 8 (by unfold Spa.jS;rw[if_neg hq1,if_pos (any_zero.1 hq)]) (by decide);exact(congrFun (congrFun this _) _).mpr ⟨rfl,stay he⟩
 have hq2:¬ ∃ k∈p.2.1,S.now.getD k 0=0:=fun hh=>by rw[any_zero.2 hh]at hq;cases hq
 have hr0:S.room 0=S.sup.size-18:=by unfold Spa.room;rw[hroom,if_neg (by omega)];omega
 refine yu (fun y w'=>y=(decide ((p.2.1.length:Int)>S.room 0 / 4\/(p.2.2.size:Int)>S.room p.2.1.length),())/\Ext w2 w') ?_ (fun J hJ=>?_);rotate_left
 ·refine zK fun w5 he5 _ _=>?_;refine zm (l:=.slc) 1 (A,n,c) (hb2.ext he5) (by rfl) ?_;refine zl (x:=some ⟨b,0,none⟩) (hb1.ext he5) (by rfl) ?_;refine zb (qU (hS.ext he5) (k:=0) (by omega) (by omega)) ?_;rintro _ w6 ⟨rfl,he6⟩;have he56:=he5.trans he6;refine⟨_,rfl,zgI (hb2.ext he56) (by rfl) ?_⟩;rw[Int.tdiv_eq_ediv_of_nonneg (by omega),wrap_i64 (x:=S.room 0 / 4) (by omega) (by omega)];dsimp only;refine zg (fun hq=>?_) (fun hq=>?_)
  ·have hq:=of_decide_eq_true hq;exact hJ _ _ ⟨by rw[decide_eq_true (.inl (by omega))],he56⟩
  have hq:=of_decide_eq_false hq;refine zm 2 p.2.2 (hb2.ext he56) (by rfl) ?_;refine zl (x:=some ⟨b,0,none⟩) (hb1.ext he56) (by rfl) ?_;refine zm (l:=.slc) 1 (A,n,c) (hb2.ext he56) (by rfl) ?_;dsimp only;refine zb (qU (hS.ext he56) (k:=(n:Int)) (by omega) (by omega)) ?_;rintro _ w7 ⟨rfl,he7⟩;have he57:=he56.trans he7;refine⟨_,rfl,zgI (hb2.ext he57) (by rfl) ?_⟩;refine hJ _ _ ⟨?_,he57⟩;congr 1;rw[hl];exact decide_eq_decide.2 ⟨fun hh=>.inr hh,fun hh=>by rcases hh with hh|hh;omega;exact hh⟩
 rintro y w5 ⟨rfl,he25⟩;have he5:=he.trans he25;have hb1:=hb1.ext he25;have hb2:=hb2.ext he25;refine zg (fun hq=>?_) (fun hq=>?_)
 ·have hq:=of_decide_eq_true hq;have:=e1 3 (by unfold Spa.jS;rw[if_neg hq1,if_neg hq2,if_pos hq]) (by decide);exact(congrFun (congrFun this _) _).mpr ⟨rfl,stay he5⟩
 have hq3:=of_decide_eq_false hq;refine zK fun w6 he6 _ _=>?_;have hb1:=hb1.ext he6;have hb2:=hb2.ext he6;have he6:=he5.trans he6;obtain⟨t,hbx⟩:=(h.ext he6).box;refine zl (x:=some ⟨b,0,none⟩) hb1 (by rfl) ?_;refine zl (x:=some ⟨b,0,none⟩) hb1 (by rfl) (zr (qh (l:=.slc) 5 x hbx (by rfl) (by rfl) ?_));refine zb (ziy (h.ext he6)) ?_;rintro _ w7 ⟨rfl,he7⟩;refine⟨_,rfl,?_⟩;have hb1:=hb1.ext he7;have hb2:=hb2.ext he7;have he7:=he6.trans he7;obtain⟨t,hbx⟩:=(h.ext he7).box;refine⟨fun l hl' q hq'=>?_,?_⟩
 ·simp only [mem_cons,not_mem_nil,or_false]at hl';rcases hl' with rfl|rfl<;>(simp only [mem_cons,not_mem_nil,or_false]at hq';subst hq')
  ·exact(hbx.cell 5).trans rfl
  ·exact(hb1.cell 0).trans rfl
 have hpl:=h.pgs.len;refine zg (fun hq=>?_) (fun hq=>?_)
 ·have hq:=of_decide_eq_true hq;have:=e1 9 (by unfold Spa.jS;rw[if_neg hq1,if_neg hq2,if_neg hq3,if_pos (by omega)]) (by decide);exact(congrFun (congrFun this _) _).mpr ⟨rfl,stay he7⟩
 have hq4:=of_decide_eq_false hq;have hE0:S.jS p=0:=by unfold Spa.jS;rw[if_neg hq1,if_neg hq2,if_neg hq3,if_neg (by omega)]
 refine zl (x:=some ⟨b,0,none⟩) hb1 (by rfl) ?_;refine zb (ziz (h.ext he7) h01) ?_;rintro _ w8 ⟨rfl,hS8,hO8⟩;refine⟨((S.takeN:Int),S.yU,()),rfl,?_⟩;dsimp only;have hnF:∀ j,w.heap.size<=j->¬F j:=fun j hj hf=>by have:=hFlt j hf;omega
 have hb1:=hb1.only hO8 (hnF r1 (by omega));have hb2:=hb2.only hO8 (hnF r2 (by omega));have hr1lt:r1<w8.heap.size:=hb1.lt;have hr2lt:r2<w8.heap.size:=hb2.lt;have hs8:=(hs.ext he7).only' hO8 hA;have o8:Only F w w8:=Only.trans (Only.zG he7) hO8 (fun j hj=>.inl hj);refine zg (fun hq=>?_) (fun hq=>?_)
 ·have hq:=bne_iff_ne.1 hq;have e2:S.put p=(S,0,S.yU):=by unfold Spa.put;rw[if_neg (by rw[hE0];simp),if_pos hq]
  have e3:S.yV=S.now:=by
   unfold Spa.yU at hq;unfold Spa.yV;split at hq
   ·exact absurd rfl hq
   ·rename_i hh;rw[if_neg hh]
  rw[e2];rw[e3]at hS8;exact⟨rfl,F,⟨Fd,x,hb,hr,nb,nr,m,hS8⟩,fun k hk=>.inl hk,o8⟩
 have hT0:=bne_eq_false_iff_eq.1 hq;have hTN:S.takeN<S.N:=by
  unfold Spa.yU at hT0;unfold Spa.takeN;have:=h.ok.now;split at hT0
  ·rename_i hh;rw[if_pos hh];omega
  ·cases hT0
 have hkl:(p.2.1.length:Int)<=S.room 0 / 4:=by
  by_cases hh:S.room 0 / 4<p.2.1.length
  ·exact absurd (Or.inl hh) hq3
  ·omega
 refine zm (l:=.slc) 1 (A,n,c) hb2 (by rfl) ?_;dsimp only;rw[zD (by omega)];refine zb (xp (bs:=[]) (v:=n) (k:=2) (Own.nil 5 w8 w8.heap.size) (Nat.le_refl _) (by omega) (by omega) (by omega) (by omega)) ?_;rintro _ w9 ⟨⟨A1,n1,c1⟩,rfl,ho9,hg9⟩;refine⟨(A1,n1,c1),rfl,?_⟩;have hg9':Ext w8 w9:=(Ext.refl w8).grown hg9.grown (fun j hj=>by cases hj);have hb1:=hb1.ext hg9';have hb2:=hb2.ext hg9';refine zm (l:=.slc) 1 (A,n,c) hb2 (by rfl) ?_;dsimp only;have h8:w.heap.size<=w8.heap.size:=o8.2.2.2.1;have ez:(([]:List UInt8)++le 2 n)=le 2 p.2.1.length++yx (p.2.1.take 0):=by rw[hl];simp[yx]
 rw[ez]at ho9;refine zw (fun y w'=>∃ (i:Nat) (A2:Option Addr) (n2 c2:Nat),i<=n/\y=((A2,n2,c2),(i:Int),())/\Ext w8 w'/\Own 5 w' w8.heap.size A2 n2 c2 (bV (le 2 p.2.1.length++yx (p.2.1.take i)))) (fun y=>(n-y.2.1).toNat) ⟨0,A1,n1,c1,by omega,rfl,hg9',ho9⟩ ?_;rintro _ w10 ⟨i,A2,n2,c2,hi,rfl,he10,ho10⟩;dsimp only;have hn2:n2=2+4*i:=by
  have:=ho10.len;rw[yX,length_append,zx,xw,length_take]at this;omega
 by_cases hlt:i<n
 ·refine zf (decide_eq_true (by omega)) ?_;refine z6 (hs8.ext he10) (by omega) (by omega) ?_;rw[Int.toNat_natCast];have e:p.2.1[i]?=some (p.2.1.getD i 0):=by rw[getD_eq_getElem?_getD,List.getElem?_eq_getElem (by omega)];rfl
  have hk:=hk32 _ (mem_of_getElem? e);rw[zD (by omega)];refine zb (xp (v:=p.2.1.getD i 0) (k:=4) ho10 he10.size (by omega) (by omega) (by omega) (by omega)) ?_;rintro _ w11 ⟨⟨A3,n3,c3⟩,rfl,ho11,hg11⟩;refine⟨(A3,n3,c3),rfl,?_⟩;rw[append_assoc,<- zdD (by omega)]at ho11;refine⟨⟨i+1,A3,n3,c3,by omega,by rw[wrap_i64 (by omega) (by omega)];rfl,he10.grown hg11.grown (fun j hj=>ho10.row' j hj),ho11⟩,by rw[wrap_i64 (by omega) (by omega)];omega⟩
 obtain rfl:i=n:=by omega
 refine zd (decide_eq_false (by omega)) ?_;rw[take_of_length_le (by omega)]at ho10;refine zK fun w11 he11 _ _=>?_;have ho11:=ho10.ext he11;have he11:=he10.trans he11;have hb1:Blk w11 r1 _ _:=(Blk.at_ hb1 (show w11.heap[r1]?=w9.heap[r1]? by rw[he11.block r1 hr1lt,hg9'.block r1 hr1lt]));have hb2:Blk w11 r2 _ _:=(Blk.at_ hb2 (show w11.heap[r2]?=w9.heap[r2]? by rw[he11.block r2 hr2lt,hg9'.block r2 hr2lt]));obtain⟨t,hbx⟩:=(hS8.ext he11).box;refine zl (x:=some ⟨b,0,none⟩) hb1 (by rfl) (zr (zF (l:=.ptr) (some ⟨db,0,none⟩) hbx (by rfl) ?_));refine zF ((p.1.toNat:Nat):Int) hb2 (by rfl) ?_;refine zl (x:=some ⟨b,0,none⟩) hb1 (by rfl) (zr (qh 1 (S.sup.gen:Int) hbx (by rfl) (by rfl) ?_));refine zm 2 p.2.2 hb2 (by rfl) ?_;refine qS (e:=5) (by kernel_rfl) (by kernel_rfl) (by kernel_rfl) ho11.sl ?_;refine⟨fun l hl' q hq'=>?_,?_⟩
 ·simp only [mem_cons,not_mem_nil,or_false]at hl';rcases hl' with rfl|rfl|rfl|rfl|rfl|rfl<;>(simp only [mem_cons,not_mem_nil,or_false]at hq';subst hq')
  ·exact(hb2.cell 2).trans rfl
  ·exact(hbx.cell 1).trans rfl
  ·exact(hb1.cell 0).trans rfl
  ·exact(hb2.cell 0).trans rfl
  ·exact(hbx.cell 0).trans rfl
  ·exact(hb1.cell 0).trans rfl
 have hsz1:(mkB (le 2 p.2.1.length++yx p.2.1)).size=2+4*i:=by rw[xz,length_append,zx,xw];omega
 have hsz1':(⟨(le 2 p.2.1.length++yx p.2.1).toArray⟩:ByteArray).size=2+4*i:=hsz1;refine zL (by rw[hsz1'];show _<=(9223372036854775807:Int);omega) ?_;have ecat:(⟨(le 2 p.2.1.length++yx p.2.1).toArray⟩:ByteArray)++p.2.2=mkB (pgB p):=kD (by rw[zl9,jN,xv,pgB,append_assoc]);rw[ecat,show(S.sup.gen:Int)+1=((S.sup.gen+1:Nat):Int) by omega,zD (by omega)];refine zb (zcS (hS8.ext he11).dev S.takeN (by omega) (S.frame p) hgen hpen) ?_;rintro _ w12 ⟨rfl,hst⟩;refine⟨_,rfl,?_⟩;have hdim2:(yp S.dev S.takeN (S.frame p)).1.size=S.dev.size/\(yp S.dev S.takeN (S.frame p)).1.blocks=S.dev.blocks:=by
  unfold yp Dev.write;split
  ·exact⟨rfl,rfl⟩
  ·split
   ·exact⟨rfl,rfl⟩
   ·split<;>exact⟨rfl,rfl⟩
 obtain⟨F',Fd',hS12,hF12,hO12⟩:=(hS8.ext he11).zqt hst hdim2;have o11:Only F w w11:=Only.trans o8 (Only.zG (F:=F) he11) (fun j hj=>.inl hj);have fin:yD w b db F { S with now:=S.yV,dev:=(yp S.dev S.takeN (S.frame p)).1 } w12:=by
  refine⟨F',⟨Fd',x,hb,hr,nb,nr,m,hS12⟩,fun k hk=>?_,Only.trans o11 hO12 (fun j hj=>.inl hj)⟩;rcases hF12 k hk with e|e
  ·exact .inl e
  ·exact .inr (Nat.le_trans o11.2.2.2.1 e)
 refine zg (fun hq=>?_) (fun hq=>?_)
 ·have hq:=bne_iff_ne.1 hq;have e2:S.put p=({ S with now:=S.yV,dev:=(yp S.dev S.takeN (S.frame p)).1 },0,(yp S.dev S.takeN (S.frame p)).2):=by
   unfold Spa.put;rw[if_neg (by rw[hE0];simp),if_neg (by rw[hT0];simp),if_pos hq]
  rw[e2];exact⟨rfl,fin⟩
 ·have hq:=bne_eq_false_iff_eq.1 hq;have e2:S.put p=({ S with now:=S.yV,dev:=(yp S.dev S.takeN (S.frame p)).1 },S.takeN,0):=by
   unfold Spa.put;rw[if_neg (by rw[hE0];simp),if_neg (by rw[hT0];simp),if_neg (by rw[hq];simp)]
  rw[e2];exact⟨rfl,fin⟩
theorem zbO (h:SpM w b db S F Fd x hb hr nb nr m) (h01:S.now.getD 0 0≠0/\S.now.getD 1 0≠0) (hgen:S.sup.gen+1<18446744073709551616) (hpen:S.dev.pen.length<=1000000)
  {A:Option Addr} {n c:Nat} (p:Page) (hs:Sli (zv .u32) w A n p.2.1) (hk32:∀ k∈p.2.1,k<4294967296) (hA:∀ a,A=some a->¬F a.block) (hds:p.2.2.size<=1000000000):
  Calls prog 24 #[.pointer (some ⟨b,0,none⟩),.agg (pgV p (A,n,c)).toArray] w (Ret fun v w'=>v=.tuple #[.int .u32 ((S.put p).2.1:Int),.int .i64 (S.put p).2.2]/\yD w b db F (S.put p).1 w'):=ziC h h01 hgen hpen p hs hk32 (fun _=>hA) hds
end V
/- Counts of references:plain. -/
namespace V
open Go Go.Proofs Go.RowKit Crc
abbrev PgF:=Nat->Page×Int
def zE (ps c:List Nat) (n:Nat):Bool:=decide (2<=n)&&(!(decide (n∈ps))&&decide (0<c.getD n 0))
theorem zA {ps c:List Nat} {n:Nat}:zE ps c n=true↔2<=n/\n∉ps/\0<c.getD n 0:=by simp[zE]
abbrev zU (pg:PgF) (n:Nat):List Nat:=(pg n).1.2.1
def xt (ps:List Nat) (pg:PgF) (c:List Nat) (x m:Nat):Nat:=if zE ps c m then (zU pg m).count x else 0
def ji (N:Nat) (ps:List Nat) (pg:PgF) (c:List Nat) (x:Nat):Nat:=((List.range N).map (xt ps pg c x)).sum
structure yf (N:Nat) (ps:List Nat) (pg:PgF) (c R:List Nat):Prop where
 len:c.length=N
 two:2<=N
 head:c.getD 0 0=1/\c.getD 1 0=1
 pgs:∀ p∈ps,2<=p/\p<N/\c.getD p 0=1
 root:∀ n∈R,zE ps c n=true
 good:∀ n,zE ps c n=true->(pg n).2=0/\∀ k∈zU pg n,zE ps c k=true
 rank:∃ r:Nat->Nat,∀ n,zE ps c n=true->∀ k∈zU pg n,r k<r n
 sum:∀ n,2<=n->n∉ps->c.getD n 0=R.count n+ji N ps pg c n
theorem zbf {f g:Nat->Nat} {n:Nat}:∀ {N:Nat},(∀ m,m≠n->g m=f m)->((List.range N).map g).sum+(if n<N then f n else 0)=((List.range N).map f).sum+(if n<N then g n else 0)
 |0,_=>by simp
 |N+1,h=>by
  have ih:=zbf (f:=f) (g:=g) (n:=n) (N:=N) h;simp only [range_succ,map_append,map_cons,List.map_nil,List.sum_append,List.sum_cons,List.sum_nil,Nat.add_zero]
  by_cases hn:n<N
  ·rw[if_pos hn,if_pos hn]at ih;rw[if_pos (by omega),if_pos (by omega),h N (by omega)];omega
  ·rw[if_neg hn,if_neg hn]at ih
   by_cases hN:n=N
   ·subst hN;rw[if_pos (by omega),if_pos (by omega)];omega
   ·rw[if_neg (by omega),if_neg (by omega),h N (by omega)];omega
theorem ur {x:Nat}:∀ {l:List Nat},x∈l->x<=l.sum
 |a::r,h=>by
  rcases mem_cons.1 h with rfl|h
  ·simp
  ·have:=ur h;simp only [List.sum_cons];omega
theorem znN {f:Nat->Nat} {N:Nat} (h:((List.range N).map f).sum=0):∀ m,m<N->f m=0:=by
 intro m hm;have:f m<=((List.range N).map f).sum:=ur (mem_map.2 ⟨m,mem_range.2 hm,rfl⟩);omega
theorem yY (l:List Nat) (i k x:Nat):(l.set i x).getD k 0=if i=k/\k<l.length then x else l.getD k 0:=by
 rw[getD_eq_getElem?_getD,getD_eq_getElem?_getD,List.getElem?_set]
 by_cases hik:i=k
 ·subst hik
  by_cases hk:i<l.length
  ·simp[hk]
  ·simp[hk]
 ·rw[if_neg hik,if_neg (fun h=>hik h.1)]
theorem ziD {l:List Nat} {n:Nat} (h:0<l.getD n 0):n<l.length:=by
 by_cases hn:n<l.length
 ·exact hn
 ·rw[getD_eq_getElem?_getD,List.getElem?_eq_none (by omega)]at h;simp at h
section
variable {N:Nat} {ps:List Nat} {pg pg':PgF} {c R:List Nat}
theorem yf.lt (h:yf N ps pg c R) {n:Nat} (hn:zE ps c n=true):n<N:=by
 have:=ziD (zA.1 hn).2.2;rw[h.len]at this;exact this
theorem yf.perm {R':List Nat} (h:yf N ps pg c R) (hp:R.Perm R'):yf N ps pg c R':=
 ⟨h.len,h.two,h.head,h.pgs,fun n hn=>h.root n (hp.mem_iff.2 hn),h.good,h.rank,fun n h1 h2=>by rw[h.sum n h1 h2,hp.count_eq]⟩
theorem yf.none (h:yf N ps pg c R) {n:Nat} (h2:2<=n) (hp:n∉ps) (h0:c.getD n 0=0):n∉R/\∀ m,zE ps c m=true->n∉zU pg m:=by
 have hs:=h.sum n h2 hp;refine⟨fun hn=>?_,fun m hm hn=>?_⟩
 ·have:=(zA.1 (h.root n hn)).2.2;omega
 ·have:=(zA.1 ((h.good m hm).2 n hn)).2.2;omega
theorem yf.put {ks:List Nat} {n:Nat} (h:yf N ps pg c (ks++R)) (h2:2<=n) (hN:n<N) (hp:n∉ps) (h0:c.getD n 0=0) (hn:(pg' n).2=0) (hk:zU pg' n=ks) (ho:∀ m,m≠n->m<N->pg' m=pg m):
  yf N ps pg' (c.set n 1) (n::R):=by
 obtain⟨hnR,hnk⟩:=h.none h2 hp h0;have hl:=h.len;have hu:∀ m,zE ps (c.set n 1) m=(zE ps c m||decide (m=n)):=by
  intro m;unfold zE;rw[yY]
  by_cases hm:m=n
  ·subst hm;simp[hl,hN,h2,hp]
  ·rw[if_neg (fun e=>hm e.1.symm)];simp[hm]
 have hun:zE ps c n=false:=by
  cases hq:zE ps c n with
  |false=>rfl
  |true=>have:=(zA.1 hq).2.2;omega
 have hne:∀ m,zE ps c m=true->m≠n:=fun m hm e=>by rw[e,hun]at hm;cases hm
 obtain⟨r,hr⟩:=h.rank;refine⟨by simpa using hl,h.two,?_,?_,?_,?_,⟨fun m=>if m=n then (ks.map r).sum+1 else r m,?_⟩,?_⟩
 ·rw[yY,yY,if_neg (by omega),if_neg (by omega)];exact h.head
 ·intro p hpp;obtain⟨g1,g2,g3⟩:=h.pgs p hpp;refine⟨g1,g2,?_⟩;rw[yY,if_neg (fun e:n=p/\p<c.length=>hp (e.1▸hpp))];exact g3
 ·intro m hm;rw[hu];rcases mem_cons.1 hm with rfl|hm
  ·simp
  ·rw[h.root m (List.mem_append_right _ hm)];rfl
 ·intro m hm;rw[hu]at hm
  by_cases hmn:m=n
  ·subst hmn;refine⟨hn,fun k hk'=>?_⟩;rw[hk]at hk';rw[hu,h.root k (mem_append_left _ hk')];rfl
  ·have hm':zE ps c m=true:=by simpa [hmn] using hm
   rw[zU,ho m hmn (h.lt hm')];refine⟨(h.good m hm').1,fun k hk'=>?_⟩;rw[hu,(h.good m hm').2 k hk'];rfl
 ·intro m hm k hk';rw[hu]at hm;dsimp only
  by_cases hmn:m=n
  ·subst hmn;rw[hk]at hk';rw[if_pos rfl,if_neg (hne k (h.root k (mem_append_left _ hk')))];have:r k<=(ks.map r).sum:=ur (mem_map.2 ⟨k,hk',rfl⟩);omega
  ·have hm':zE ps c m=true:=by simpa [hmn] using hm
   rw[zU,ho m hmn (h.lt hm')]at hk';rw[if_neg hmn,if_neg (hne k ((h.good m hm').2 k hk'))];exact hr m hm' k hk'
 ·intro x h2x hpx;have hg:∀ m,m<N->m≠n->xt ps pg' (c.set n 1) x m=xt ps pg c x m:=by
   intro m hm hmn;unfold xt;rw[hu,zU,zU,ho m hmn hm];simp[hmn]
  have hone:=zbf (f:=xt ps pg c x) (g:=fun m=>if m=n then xt ps pg' (c.set n 1) x n else xt ps pg c x m) (n:=n) (N:=N) (fun m hm=>if_neg hm);rw[if_pos hN,if_pos hN]at hone;have e1:((List.range N).map fun m=>if m=n then xt ps pg' (c.set n 1) x n else xt ps pg c x m)=(List.range N).map (xt ps pg' (c.set n 1) x):=by
   apply map_congr_left;intro m hm;split
   ·rename_i e;rw[e]
   ·rename_i e;exact(hg m (mem_range.1 hm) e).symm
  rw[e1]at hone;have e2:xt ps pg c x n=0:=by unfold xt;rw[hun];rfl
  have e3:xt ps pg' (c.set n 1) x n=ks.count x:=by unfold xt;rw[hu,hk];simp
  simp only [if_true,e2,e3,Nat.add_zero]at hone;have hs:=h.sum x h2x hpx;rw[List.count_append]at hs;show _=_+((List.range N).map (xt ps pg' (c.set n 1) x)).sum;rw[hone];unfold ji at hs;rw[yY,count_cons]
  by_cases hx:x=n
  ·subst hx;rw[if_pos ⟨rfl,by omega⟩];simp only [beq_self_eq_true,if_true];omega
  ·rw[if_neg (fun e=>hx e.1.symm),if_neg (by simpa using fun e=>hx e.symm)];omega
theorem yf.setPos {n v:Nat} {R':List Nat} (h:yf N ps pg c R) (hn:zE ps c n=true) (hv:0<v) (hR:∀ m∈R',zE ps c m=true) (hc:∀ x,x≠n->R'.count x=R.count x) (hv':v+R.count n=c.getD n 0+R'.count n):
  yf N ps pg (c.set n v) R':=by
 obtain⟨h2,hp,h0⟩:=zA.1 hn;have hl:=h.len;have hN:=h.lt hn;have hu:∀ m,zE ps (c.set n v) m=zE ps c m:=by
  intro m;unfold zE;rw[yY]
  by_cases hm:m=n
  ·subst hm;rw[if_pos ⟨rfl,by omega⟩];rw[decide_eq_true hv,decide_eq_true h0]
  ·rw[if_neg (fun e=>hm e.1.symm)]
 have hs:∀ x,ji N ps pg (c.set n v) x=ji N ps pg c x:=by
  intro x;unfold ji;congr 1;apply map_congr_left;intro m _;unfold xt;rw[hu]
 refine⟨by simpa using hl,h.two,?_,?_,fun m hm=>by rw[hu];exact hR m hm,fun m hm=>?_,?_,?_⟩
 ·rw[yY,yY,if_neg (by omega),if_neg (by omega)];exact h.head
 ·intro p hpp;obtain⟨g1,g2,g3⟩:=h.pgs p hpp;refine⟨g1,g2,?_⟩;rw[yY,if_neg (fun e:n=p/\p<c.length=>hp (e.1▸hpp))];exact g3
 ·rw[hu]at hm;exact⟨(h.good m hm).1,fun k hk=>by rw[hu];exact(h.good m hm).2 k hk⟩
 ·obtain⟨r,hr⟩:=h.rank;exact⟨r,fun m hm=>hr m (by rw[hu]at hm;exact hm)⟩
 ·intro x h2x hpx;have:=h.sum x h2x hpx;rw[hs,yY]
  by_cases hx:x=n
  ·subst hx;rw[if_pos ⟨rfl,by omega⟩];omega
  ·rw[if_neg (fun e=>hx e.1.symm),hc x hx];omega
theorem yf.share {n:Nat} (h:yf N ps pg c R) (hn:zE ps c n=true):yf N ps pg (c.set n (c.getD n 0+1)) (n::R):=
 h.setPos hn (by omega) (fun m hm=>by rcases mem_cons.1 hm with rfl|hm;exact hn;exact h.root m hm) (fun x hx=>by rw[count_cons,if_neg (by simpa using fun e=>hx e.symm)];rfl) (by rw[List.count_cons_self];omega)
theorem yf.dec {n:Nat} (h:yf N ps pg c (n::R)) (h1:c.getD n 0≠1):yf N ps pg (c.set n (c.getD n 0-1)) R:=by
 have hn:=h.root n mem_cons_self;have:=(zA.1 hn).2.2;exact h.setPos hn (by omega) (fun m hm=>h.root m (mem_cons_of_mem _ hm)) (fun x hx=>by rw[count_cons,if_neg (by simpa using fun e=>hx e.symm)];rfl) (by rw[List.count_cons_self];omega)
theorem yf.last {n:Nat} (h:yf N ps pg c (n::R)) (h1:c.getD n 0=1):yf N ps pg (c.set n 0) (zU pg n++R):=by
 have hn:=h.root n mem_cons_self;obtain⟨h2,hp,h0⟩:=zA.1 hn;have hl:=h.len;have hN:=h.lt hn;have hsn:=h.sum n h2 hp;rw[h1,List.count_cons_self]at hsn;have hcR:R.count n=0:=by omega
 have hz:∀ m,m<N->xt ps pg c n m=0:=znN (by unfold ji at hsn;omega);have hnR:n∉R:=count_eq_zero.1 hcR;have hnk:∀ m,zE ps c m=true->n∉zU pg m:=by
  intro m hm;have:=hz m (h.lt hm);unfold xt at this;rw[if_pos hm]at this;exact count_eq_zero.1 this
 have hu:∀ m,zE ps (c.set n 0) m=(zE ps c m&&!(decide (m=n))):=by
  intro m;unfold zE;rw[yY]
  by_cases hm:m=n
  ·subst hm;rw[if_pos ⟨rfl,by omega⟩];simp
  ·rw[if_neg (fun e=>hm e.1.symm)];simp[hm]
 have hu2:∀ {m},zE ps c m=true->m≠n->zE ps (c.set n 0) m=true:=fun hm hmn=>by rw[hu,hm];simp[hmn]
 refine⟨by simpa using hl,h.two,?_,?_,?_,fun m hm=>?_,?_,?_⟩
 ·rw[yY,yY,if_neg (by omega),if_neg (by omega)];exact h.head
 ·intro p hpp;obtain⟨g1,g2,g3⟩:=h.pgs p hpp;refine⟨g1,g2,?_⟩;rw[yY,if_neg (fun e:n=p/\p<c.length=>hp (e.1▸hpp))];exact g3
 ·intro m hm;rcases mem_append.1 hm with hm|hm
  ·exact hu2 ((h.good n hn).2 m hm) (fun e=>hnk n hn (e▸hm))
  ·exact hu2 (h.root m (mem_cons_of_mem _ hm)) (fun e=>hnR (e▸hm))
 ·rw[hu]at hm;have hm':zE ps c m=true:=by simp at hm;exact hm.1
  exact⟨(h.good m hm').1,fun k hk=>hu2 ((h.good m hm').2 k hk) (fun e=>hnk m hm' (e▸hk))⟩
 ·obtain⟨r,hr⟩:=h.rank;exact⟨r,fun m hm=>hr m (by rw[hu]at hm;simp at hm;exact hm.1)⟩
 ·intro x h2x hpx;have hone:=zbf (f:=xt ps pg c x) (g:=xt ps pg (c.set n 0) x) (n:=n) (N:=N) (fun m hm=>by unfold xt;rw[hu];simp[hm]);rw[if_pos hN,if_pos hN]at hone;have e2:xt ps pg c x n=(zU pg n).count x:=by unfold xt;rw[if_pos hn]
  have e3:xt ps pg (c.set n 0) x n=0:=by unfold xt;rw[hu];simp
  rw[e2,e3]at hone;have hs:=h.sum x h2x hpx;unfold ji at hs ⊢;rw[yY,List.count_append]
  by_cases hx:x=n
  ·subst hx;rw[if_pos ⟨rfl,by omega⟩];have:(zU pg x).count x=0:=count_eq_zero.2 (hnk x hn);rw[List.count_cons_self]at hs;omega
  ·rw[if_neg (fun e=>hx e.1.symm)];rw[count_cons,if_neg (by simpa using fun e=>hx e.symm)]at hs;omega
theorem yf.zaf (h:yf N ps pg c R) (ho:∀ m,zE ps c m=true->pg' m=pg m):yf N ps pg' c R:=by
 have hs:∀ x,ji N ps pg' c x=ji N ps pg c x:=by
  intro x;unfold ji;congr 1;apply map_congr_left;intro m _;unfold xt
  by_cases hm:zE ps c m=true
  ·rw[if_pos hm,if_pos hm,zU,ho m hm]
  ·rw[if_neg hm,if_neg hm]
 refine⟨h.len,h.two,h.head,h.pgs,h.root,fun n hn=>?_,?_,fun n h2 hp=>by rw[hs];exact h.sum n h2 hp⟩
 ·rw[zU,ho n hn];exact h.good n hn
 ·obtain⟨r,hr⟩:=h.rank;exact⟨r,fun n hn k hk=>hr n hn k (by rw[zU,ho n hn]at hk;exact hk)⟩
end
inductive Drp (ask:Nat->Bool) (pg:PgF):List Nat->List Nat->List Nat->Int->Prop
 |nil (c:List Nat):Drp ask pg c [] c 0
 |bad {c st:List Nat} {n:Nat}:c.getD n 0≠1->atE c n≠0->Drp ask pg c (n::st) c (atE c n)
 |dec {c c' st:List Nat} {n:Nat} {e:Int}:c.getD n 0≠1->atE c n=0->Drp ask pg (xr c n) st c' e->Drp ask pg c (n::st) c' e
 |noask {c st:List Nat} {n:Nat}:c.getD n 0=1->ask n=false->Drp ask pg c (n::st) c 2
 |err {c st:List Nat} {n:Nat} {e:Int}:c.getD n 0=1->ask n=true->(pg n).2=e->e≠0->Drp ask pg c (n::st) c e
 |last {c c' st:List Nat} {n:Nat} {e:Int}:c.getD n 0=1->ask n=true->(pg n).2=0->Drp ask pg (xr c n) (zU pg n++st) c' e->Drp ask pg c (n::st) c' e
theorem zfB (l:List Nat):∀ (i x:Nat),i<l.length->(l.set i x).sum+l.getD i 0=l.sum+x:=by
 induction l with
 |nil=>intro i x h;simp at h
 |cons a r ih=>
  intro i x h;cases i with
  |zero=>simp[List.sum_cons];omega
  |succ i=>
   have:=ih i x (by simpa using h);simp only [List.set_cons_succ,List.sum_cons,List.getD_cons_succ];omega
theorem zbP {N:Nat} {ps:List Nat} {pg:PgF} {c R:List Nat} (h:yf N ps pg c R) {n:Nat} (hn:zE ps c n=true):atE c n=0:=by
 obtain⟨h2,hp,h0⟩:=zA.1 hn;have:=h.lt hn;have:=h.len;unfold atE;rw[if_neg (by omega),if_neg (by omega)]
theorem zcT {N:Nat} {ps:List Nat} {pg:PgF} {c R:List Nat} (h:yf N ps pg c R) {n:Nat} (hn:zE ps c n=true):xr c n=c.set n (c.getD n 0-1):=by
 unfold xr;rw[if_pos (zbP h hn)]
theorem yf.drop {N:Nat} {ps:List Nat} {pg:PgF} {ask:Nat->Bool} (hask:∀ n,2<=n->n<N->n∉ps->ask n=true):∀ (z:Nat) {c R:List Nat} (st:List Nat),c.sum<=z->yf N ps pg c (st++R)->∃ c',Drp ask pg c st c' 0/\yf N ps pg c' R/\c'.length=c.length/\∀ n,c'.getD n 0<=c.getD n 0:=by
 intro z
 induction z with
 |zero=>
  intro c R st hz h;have h0:=h.head.1;have hl:=h.len;have h2:=h.two;have:=zfB c 0 0 (by omega);omega
 |succ z ih=>
  intro c R st hz h;cases st with
  |nil=>exact⟨c,.nil c,h,rfl,fun _=>Nat.le_refl _⟩
  |cons n st=>
   have hn:=h.root n (by simp);obtain⟨h2,hp,h0⟩:=zA.1 hn;have hN:=h.lt hn;have hl:=h.len;have hsum:=zfB c n (c.getD n 0-1) (by omega);have hle:∀ v,v<=c.getD n 0->∀ k,(c.set n v).getD k 0<=c.getD k 0:=by
    intro v hv k;rw[yY];split
    ·rename_i e;rw[<- e.1];exact hv
    ·exact Nat.le_refl _
   by_cases h1:c.getD n 0=1
   ·have hw:yf N ps pg (c.set n 0) (zU pg n++st++R):=by
     rw[append_assoc];exact yf.last (R:=st++R) h h1
    have es:xr c n=c.set n 0:=by rw[zcT h hn,h1]
    rw[h1]at hsum;obtain⟨c',g1,g2,g3,g4⟩:=ih _ (by simp only [Nat.sub_self]at hsum;omega) hw;exact⟨c',.last h1 (hask n h2 hN hp) (h.good n hn).1 (by rw[es];exact g1),g2,by rw[g3];simp,fun k=>Nat.le_trans (g4 k) (hle 0 (by omega) k)⟩
   ·have hw:yf N ps pg (c.set n (c.getD n 0-1)) (st++R):=yf.dec h h1;obtain⟨c',g1,g2,g3,g4⟩:=ih _ (by omega) hw;exact⟨c',.dec h1 (zbP h hn) (by rw[zcT h hn];exact g1),g2,by rw[g3];simp,fun k=>Nat.le_trans (g4 k) (hle _ (by omega) k)⟩
inductive Vis (get:PgF):Nat->List Bool->List Nat->List Nat->List Bool->Int->Prop
 |nil (d:Nat) (s:List Bool):Vis get d s [] [] s 0
 |zero {d:Nat} {s s':List Bool} {l ys:List Nat} {e:Int}:Vis get d s l ys s' e->Vis get d s (0::l) ys s' e
 |err {d:Nat} {s:List Bool} {l:List Nat} {n:Nat} {e:Int}:n≠0->(get n).2=e->e≠0->Vis get d s (n::l) [] s e
 |seen {d:Nat} {s s':List Bool} {l ys:List Nat} {n:Nat} {e:Int}:n≠0->(get n).2=0->s.getD n false=true->Vis get d s l ys s' e->Vis get d s (n::l) (n::ys) s' e
 |new {d:Nat} {s s1 s2:List Bool} {l ys1 ys2:List Nat} {n:Nat} {e:Int}:n≠0->(get n).2=0->s.getD n false=false->Vis get d (s.set n true) (zU get n) ys1 s1 0->Vis get (d+1) s1 l ys2 s2 e->Vis get (d+1) s (n::l) (n::(ys1++ys2)) s2 e
 |newE {d:Nat} {s s1:List Bool} {l ys1:List Nat} {n:Nat} {e:Int}:n≠0->(get n).2=0->s.getD n false=false->Vis get d (s.set n true) (zU get n) ys1 s1 e->e≠0->Vis get (d+1) s (n::l) (n::ys1) s1 e
theorem Vis.len {get:PgF} {d:Nat} {s s':List Bool} {l ys:List Nat} {e:Int} (h:Vis get d s l ys s' e):s'.length=s.length:=by
 induction h with
 |nil=>rfl
 |zero _ ih=>exact ih
 |err=>rfl
 |seen _ _ _ _ ih=>exact ih
 |new _ _ _ _ _ ih1 ih2=>rw[ih2,ih1];simp
 |newE _ _ _ _ _ ih1=>rw[ih1];simp
theorem Vis.inv {get:PgF} {d:Nat} {s s':List Bool} {l ys:List Nat} {n:Nat} {e:Int} (h:Vis get d s (n::l) ys s' e) (hn:n≠0):
  ((get n).2=e/\e≠0/\ys=[]/\s'=s)\/
  ((get n).2=0/\s.getD n false=true/\∃ ys',ys=n::ys'/\Vis get d s l ys' s' e)\/
  ((get n).2=0/\s.getD n false=false/\∃ d1 ys1 s1 e1,d1<d/\Vis get d1 (s.set n true) (zU get n) ys1 s1 e1/\((e1=0/\∃ ys2,ys=n::(ys1++ys2)/\Vis get d s1 l ys2 s' e)\/(e1≠0/\e1=e/\ys=n::ys1/\s'=s1))):=by
 cases h with
 |zero=>exact absurd rfl hn
 |err _ h2 h3=>exact .inl ⟨h2,h3,rfl,rfl⟩
 |seen _ h2 h3 h4=>exact .inr (.inl ⟨h2,h3,_,rfl,h4⟩)
 |new _ h2 h3 h4 h5=>exact .inr (.inr ⟨h2,h3,_,_,_,0,Nat.lt_succ_self _,h4,.inl ⟨rfl,_,rfl,h5⟩⟩)
 |newE _ h2 h3 h4 h5=>exact .inr (.inr ⟨h2,h3,_,_,_,_,Nat.lt_succ_self _,h4,.inr ⟨h5,rfl,rfl,rfl⟩⟩)
end V
end Go.Proofs.YtplgodmmmppmeaaGreat
