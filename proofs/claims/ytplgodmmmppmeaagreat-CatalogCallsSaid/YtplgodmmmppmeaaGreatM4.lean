/- Texts of mine, merged (wip/tool/mergep.py): HH, CatP, HM, HB, KRef02, KKit2, HD, Shelf, KRead, KDev, HR2, KDev2, KDev3, KDev4, KFrame2, KSup, Spa, KCounts, KCounts2, HW, KCounts3, KSuper1, KSuper2, KSuper3, KSuper4, KSpa, KCat1, DecCat, KSpa2, KSpa3, KSpa4, KSpa5, KSpa6. -/
import Derived.Test.YtplgodmmmppmeaaGreatM1
import Derived.Laws.CopyRow
import Derived.Test.YtplgodmmmppmeaaGreatM3
import Derived.MapKept
import Derived.Shelf.Strings.Builder1
import Derived.Shelf.Strings.Builder2
import Derived.Shelf.Strings.OnBuilder
import Derived.Shelf.Strings.BuilderF
import Derived.Shelf.Strings.BuilderK
import Derived.Shelf.Strings.Builder2Cap
import Derived.Shelf.Strings.Prefix
import Derived.Shelf.Bits.Mul64
import Derived.Shelf.Strings.Repeat
import Derived.Shelf.Strings.BuilderCap
import Derived.Shelf.Slices.Equal
import Derived.Shelf.Slices.Empties2
import Derived.Ground.SlgnProg
import Derived.Shelf.SlicesE.Reverse
import Derived.Shelf.SlicesE.Clone
import Derived.Test.YtplgodmmmppmeaaGreatProg
open Go.IntKind (wrap)
open Go.Proofs.Tryz (prog)
open List (mem_cons_self mem_cons_of_mem mem_cons length_cons map_map mem_append mem_append_left drop_drop mem_range mem_of_getElem? getElem_mem mem_iff_getElem map_cons mem_map append_assoc nodup_cons foldl_cons length_nil append_nil length_map length_set eq_nil_of_length_eq_zero range_succ map_congr_left length_append drop_of_length_le take_of_length_le getD_eq_getElem?_getD drop_eq_getElem_cons mem_singleton not_mem_nil take_succ_eq_append_getElem all_eq_true flatMap_cons length_take length_drop take_add_one length_replicate take_left' drop_left' length_singleton map_append length_range getElem_range flatMap_append)
set_option linter.unusedVariables false
set_option linter.unusedSimpArgs false
namespace Go.Proofs.YtplgodmmmppmeaaGreat
/- Rules and words that several seats share. -/
namespace V
open Go Go.Proofs Go.RowKit
section
variable {α:Type} {P:Program} {t e:TypeId} {z:Value} {bytes:Nat} {E:Enc α}
theorem zfp {w:World} {A:Option Addr} {n c:Nat} {xs:List α} {K:Value->WP} (hE:j9 P t e z E.k bytes) (h:Sli E w A n xs) (hlen:n*bytes<=140737488355328) (hb:0<bytes)
  (hK:∀ A' c' w',Owni E e w' w.heap.size A' n c' xs->Ext w w'->K (.slice A' n c') w'):
  (za (Option.isNone A) (K (.slice none 0 0))<|
   zi (.cells #[] e) fun(r1:Nat)=>zv P (Builtin.append_ #[t,t] t #[.slice (some (aD r1)) 0 0,.slice A n c]) .slc fun(u2:SLC)=>K (.slice u2.1 u2.2.1 u2.2.2)) w:=by
 refine zg (fun hA=>?_) (fun hA=>?_)
 ·have hA:A=none:=by simpa using hA
  subst hA;obtain rfl:n=0:=by
   rcases Nat.eq_zero_or_pos n with h0|h0
   ·exact h0
   ·obtain⟨a,h1,_⟩:=h.2.2 h0;cases h1
  obtain rfl:xs=[]:=eq_nil_of_length_eq_zero h.1;exact hK none 0 w (Owni.nil _ _ _) (Ext.refl w)
 ·apply yE;have he:Ext w (w.alloc (.cells #[] e)):=(Ext.refl w).alloc _;have ho:Owni E e (w.alloc (.cells #[] e)) w.heap.size (some ⟨w.heap.size,0,none⟩) 0 0 ([]:List α):=Owni.lit (xs:=[]) (n:=0) rfl (Nat.le_refl _) (by omega);refine xw hE ho (by simp) (h.ext he) (by rw[Nat.zero_add];exact hlen) hb ?_;intro A' c' w' ho' hg _;rw[Nat.zero_add]at ho' ⊢;exact hK A' c' w' (by simpa using ho') (Ext.grown he hg.1 (fun j hj=>by injection hj with hj;subst hj;exact Nat.le_refl _))
theorem zi5 {w:World} {b o n c m d:Nat} {ty u t2:TypeId} {X:Option Addr} {cs ys:List Value} {K:Int->WP} (hE:Elem P t e z bytes) (hb:Blk w b cs t2) (hx:Sl w X m ys) (hys:∀ y∈ys,y.oneCell'=true) (ho:o+min m n<=cs.length) (hX:X≠none)
  (hK:∀ w',Blk w' b (cs.take o++ys.take (min m n)++cs.drop (o+min m n)) t2->w.grownBy w' (some b)->K ((min m n:Nat):Int) w'):
  zv P (Builtin.copy_ #[t,u] ty #[.slice (some ⟨b,o,none⟩) n c,.slice X m d]) (.int .i64) K w:=by
 obtain⟨ht,hi,hz⟩:=hE;obtain⟨i,hi,hii⟩:=Option.map_eq_some_iff.1 hi;simp only [Prod.mk.injEq]at hii;obtain⟨hz0,hz1,hz2⟩:=hii;have hl:=hx.len;obtain⟨a,rfl⟩:=Option.ne_none_iff_exists'.1 hX;have hlen:(ys.take (min m n)).length=min m n:=by rw[length_take];omega
 have hsrc:∀ j v,(ys.take (min m n))[j]?=some v->w.cell? (a.add j)=some v:=fun j v hj=>by
  rw[List.getElem?_take]at hj;split at hj
  ·rcases Nat.eq_zero_or_pos m with h0|h0
   ·omega
   ·obtain⟨a',h1,h2⟩:=hx.2.2 h0;cases h1;exact h2 j v hj
  ·cases hj
 have hr:=run_copy_row (P:=P) w t u ty e b o n c a m d cs.toArray t2 (ys.take (min m n)) ht (by rw[hi];simp[hz1]) hb hlen hsrc (by rw[hlen];simpa using ho) (fun v hv=>hys v (List.mem_of_mem_take hv));rw[hlen]at hr;refine⟨((min m n:Nat):Int),_,hr,hK _ ?_ ?_⟩
 ·have hb':w.heap[b]?=some (.cells cs.toArray t2 (0,0)):=hb;show(w.heap.modify b _)[b]?=_;rw[Array.getElem?_modify,if_pos rfl,hb'];simp
 ·refine⟨rfl,rfl,rfl,by simp[World.setRow],fun k hk hne=>?_⟩;simp[World.setRow];rw[Array.getElem?_modify];split
  ·exact absurd (by subst_vars;rfl) hne
  ·rfl
end
theorem kC {α:Type} {E:Enc α} {e:TypeId} {w:World} {B b n:Nat} {xs:List α} (h:Blk w b (E.flat xs) e) (hn:xs.length=n) (hm:n<=9223372036854775807) (hB:B<=b):Owni E e w B (some ⟨b,0,none⟩) n n xs:=by
 refine⟨by rw[E.xm,hn],.inr ⟨b,n,(E.flat xs).toArray,rfl,hB,h,Nat.le_refl _,by simpa [maxLen] using hm,by simp[E.xm,hn],?_⟩⟩;rw[take_of_length_le (by simp[E.xm,hn])]
def mkB (bs:List UInt8):ByteArray:=⟨bs.toArray⟩
theorem yV (bs:List UInt8):B (mkB bs)=bs:=qo bs
theorem zc3 (s:ByteArray):mkB (B s)=s:=jy (yV _)
theorem xb (bs:List UInt8):(mkB bs).size=bs.length:=by rw[zP,yV]
theorem uF {w:World} {b:Nat} {x y:Value} {t:TypeId} (h:Blk w b [x,y] t):∀ p∈[((aD b).add 0,x),((aD b).add 1,y)],w.cell? p.1=some p.2:=by
 intro p hp;simp only [mem_cons,not_mem_nil,or_false]at hp;rcases hp with rfl|rfl<;>simp[zx,h.cell]
theorem yF {w:World} {b o:Nat} {cs:List Value} {v:Value} {t:TypeId} (h:Blk w b cs t) (hv:cs[o]?=some v):∀ p∈[((aD b).add o,v)],w.cell? p.1=some p.2:=by
 intro p hp;obtain rfl:=mem_singleton.1 hp;show w.cell? ((aD b).add o)=_;rw[zx,h.cell,Nat.zero_add,hv]
theorem yd {w:World} {b:Nat} {cs:List Value} {v:Value} {t:TypeId} (h:Blk w b cs t) (hv:cs[0]?=some v):∀ p∈[((aD b),v)],w.cell? p.1=some p.2:=by
 intro p hp;obtain rfl:=mem_singleton.1 hp;show w.cell? (aD b)=_;rw[h.cell,hv]
abbrev HL (w:World) (l:List (Addr×Value)):Prop:=∀ p∈l,w.cell? p.1=some p.2
theorem xz {w:World} {a:List (Addr×Value)} {K:WP} (ha:HL w a) (hK:K w):zr [a] K w:=
 ⟨fun l hl=>by rw[mem_singleton.1 hl];exact ha,hK⟩
theorem jo {w:World} {a b:List (Addr×Value)} {K:WP} (ha:HL w a) (hb:HL w b) (hK:K w):zr [a,b] K w:=
 ⟨fun l hl=>by
  simp only [mem_cons,not_mem_nil,or_false]at hl
  rcases hl with rfl|rfl
  ·exact ha
  ·exact hb,hK⟩
theorem zpT {w:World} {a b c:List (Addr×Value)} {K:WP} (ha:HL w a) (hb:HL w b) (hc:HL w c) (hK:K w):zr [a,b,c] K w:=
 ⟨fun l hl=>by
  simp only [mem_cons,not_mem_nil,or_false]at hl
  rcases hl with rfl|rfl|rfl
  ·exact ha
  ·exact hb
  ·exact hc,hK⟩
theorem zkK {α:Type} {l:List α} {i:Nat} {p:α} (h:l[i]?=some p):l.take (i+1)=l.take i++[p]:=by
 rw[take_add_one,h];rfl
theorem heldc {w:World} {a:List (Addr×Value)} {H:List (List (Addr×Value))} {K:WP} (ha:HL w a) (h:zr H K w):zr (a::H) K w:=
 ⟨fun l hl=>by
  rcases mem_cons.1 hl with rfl|hl
  ·exact ha
  ·exact h.1 l hl,h.2⟩
theorem zqi {w:World} {K:WP} (h:K w):zr [] K w:=⟨(fun l hl=>by cases hl),h⟩
end V
/- Catalogs:plain. -/
namespace V
open Go Go.Proofs Go.RowKit Crc
abbrev Ent:=ByteArray×List Col×Nat×Nat×Int
abbrev Snp:=ByteArray×Nat
abbrev Cat:=List Ent×List Snp
def zaE:Cat:=([],[])
def zdX (s:ByteArray):Bool:=decide (yz (B s)=0)
def ltB (a b:List UInt8):Bool:=match a,b with
 |_,[]=>false
 |[],_::_=>true
 |x::a,y::b=>decide (x.toNat<y.toNat)||(decide (x=y)&&ltB a b)
def yO {α:Type} (f:α->ByteArray):List α->Bool
 |[]=>true
 |[_]=>true
 |x::y::r=>ltB (B (f x)) (B (f y))&&yO f (y::r)
def jA (e:Ent):Bool:=decide (yL e.2.1=0)&&(decide (0<=e.2.2.2.2/\e.2.2.2.2<=4096)&&(decide (e.2.2.1=0↔e.2.2.2.2=0)&&decide (e.2.2.2.1<1099511627776)))
def yv {α:Type} (f:α->ByteArray) (l:List α):Bool:=(l.all fun x=>zdX (f x))&&yO f l
def qp (c:Cat):Bool:=decide (c.1.length<=16/\c.2.length<=16)&&(yv (fun e:Ent=>e.1) c.1&&(yv (fun s:Snp=>s.1) c.2&&c.1.all jA))
def jq (n:Nat):UInt8:=UInt8.ofNat (min n 1)
def nmB (s:ByteArray):List UInt8:=UInt8.ofNat s.size::B s
def xP (e:Ent):List UInt8:=nmB e.1++(yq e.2.1++(le 8 e.2.2.2.1++(le 4 e.2.2.2.2.toNat++[jq e.2.2.1])))
def ql (s:Snp):List UInt8:=nmB s.1++[jq s.2]
def xV (c:Cat):List UInt8:=UInt8.ofNat c.1.length::(c.1.flatMap xP++UInt8.ofNat c.2.length::c.2.flatMap ql)
def kg (e:Ent):Ent:=(e.1,e.2.1,min e.2.2.1 1,e.2.2.2.1,e.2.2.2.2)
def kI (s:Snp):Snp:=(s.1,min s.2 1)
def ones (c:Cat):Cat:=(c.1.map kg,c.2.map kI)
def zA (n:Nat) (s:List UInt8):Option (List UInt8×List UInt8):=if s.length<n then none else some (s.take n,s.drop n)
def nmR (s:List UInt8):Option (ByteArray×List UInt8):=match zA 1 s with
 |none=>none
 |some (b,r)=>match zA (lev b) r with
  |none=>none
  |some (t,r')=>some (mkB t,r')
def jr (s:List UInt8):Option (Nat×List UInt8):=match zA 1 s with
 |none=>none
 |some (b,r)=>if lev b<=1 then some (lev b,r) else none
def jB (s:List UInt8):Option (Ent×List UInt8):=match nmR s with
 |none=>none
 |some (n,r1)=>match yf r1 with
  |none=>none
  |some (cs,r2)=>match zA 8 r2 with
   |none=>none
   |some (x,r3)=>match zA 4 r3 with
    |none=>none
    |some (y,r4)=>match jr r4 with
     |none=>none
     |some (o,r5)=>some ((n,cs,o,lev x,(lev y:Int)),r5)
def jM (s:List UInt8):Option (Snp×List UInt8):=match nmR s with
 |none=>none
 |some (n,r1)=>match jr r1 with
  |none=>none
  |some (o,r2)=>some ((n,o),r2)
def xd {α:Type} (f:List UInt8->Option (α×List UInt8)):Nat->List UInt8->Option (List α×List UInt8)
 |0,s=>some ([],s)
 |n+1,s=>match f s with
  |none=>none
  |some (x,r)=>match xd f n r with
   |none=>none
   |some (l,r')=>some (x::l,r')
def zbu (s:List UInt8):Option Cat:=match zA 1 s with
 |none=>none
 |some (b,r)=>match xd jB (lev b) r with
  |none=>none
  |some (ts,r2)=>match zA 1 r2 with
   |none=>none
   |some (b2,r3)=>match xd jM (lev b2) r3 with
    |none=>none
    |some (ss,r4)=>if r4=[] then some (ts,ss) else none
def xH (s:List UInt8):Cat×Int:=match zbu s with
 |none=>(zaE,240)
 |some c=>if qp c then (c,0) else (zaE,240)
def jG (c:Cat):ByteArray×Int:=if qp c then (mkB (xV c),0) else (ByteArray.empty,240)
theorem kM {n:Nat} {a:List UInt8} (h:a.length=n) (t:List UInt8):zA n (a++t)=some (a,t):=by
 unfold zA;rw[if_neg (by rw[length_append];omega),take_left' h,drop_left' h]
theorem qm {n:Nat} {s a t:List UInt8} (h:zA n s=some (a,t)):a.length=n/\a++t=s:=by
 unfold zA at h;split at h
 ·cases h
 ·injection h with h
  injection h with h1 h2
  subst h1 h2;exact⟨by rw[length_take];omega,List.take_append_drop n s⟩
theorem zfq (b:UInt8):lev [b]=b.toNat:=by simp[lev]
theorem za2 {n:Nat} (h:n<256):(UInt8.ofNat n).toNat=n:=by rw[UInt8.toNat_ofNat'];omega
theorem zi6 {s:ByteArray} (h:s.size<256) (t:List UInt8):nmR (nmB s++t)=some (s,t):=by
 have e:nmB s++t=[UInt8.ofNat s.size]++(B s++t):=rfl;unfold nmR;rw[e,kM (n:=1) rfl];dsimp only;rw[zfq,za2 h,kM (n:=s.size) (zP s).symm];dsimp only;rw[zc3]
theorem zfr {s r:List UInt8} {n:ByteArray} (h:nmR s=some (n,r)):nmB n++r=s:=by
 unfold nmR at h;split at h
 ·cases h
 rename_i b q hb;split at h
 ·cases h
 rename_i t r' ht;injection h with h
 injection h with h1 h2
 subst h1 h2;obtain⟨h1,h2⟩:=qm hb;obtain⟨h3,h4⟩:=qm ht
 match b,h1 with
 |[x],_=>
  rw[zfq]at h3;unfold nmB;rw[yV,xb,h3,<- h2,<- h4];have:UInt8.ofNat x.toNat=x:=by apply UInt8.toNat_inj.1;exact za2 x.toNat_lt
  rw[this];rfl
theorem zhb (n:Nat) (t:List UInt8):jr ([jq n]++t)=some (min n 1,t):=by
 unfold jr;rw[kM (n:=1) rfl];dsimp only;have e:lev [jq n]=min n 1:=by rw[zfq];unfold jq;exact za2 (by omega)
 rw[e,if_pos (by omega)]
theorem zhc {s r:List UInt8} {n:Nat} (h:jr s=some (n,r)):n<=1/\[jq n]++r=s:=by
 unfold jr at h;split at h
 ·cases h
 rename_i b q hb;split at h
 ·rename_i hl;injection h with h
  injection h with h1 h2
  subst h1 h2;obtain⟨h1,h2⟩:=qm hb
  match b,h1 with
  |[x],_=>
   rw[zfq]at hl ⊢;refine⟨hl,?_⟩;rw[<- h2];have:jq x.toNat=x:=by
    unfold jq;apply UInt8.toNat_inj.1;rw[za2 (by omega)];omega
   rw[this]
 ·cases h
def zkL (e:Ent):Prop:=e.1.size<256/\yL e.2.1=0/\e.2.2.2.1<18446744073709551616/\0<=e.2.2.2.2/\e.2.2.2.2<4294967296
theorem zpc {n:Nat} (h:n<4294967296):lev (le 4 n)=n:=by rw[uT];omega
theorem zmV {e:Ent} (h:zkL e) (t:List UInt8):jB (xP e++t)=some (kg e,t):=by
 obtain⟨h1,h2,h3,h4,h5⟩:=h;unfold jB xP;simp only [append_assoc];rw[zi6 h1];dsimp only;rw[zil h2];dsimp only;rw[kM (n:=8) (zy _ _)];dsimp only;rw[kM (n:=4) (zy _ _)];dsimp only;rw[zhb];dsimp only;rw[zi4 h3,zpc (by omega)];unfold kg;rw[show((e.2.2.2.2.toNat:Nat):Int)=e.2.2.2.2 by omega]
theorem zi7 {n:Nat} {a:List UInt8} (h:a.length=n):le n (lev a)=a:=by rw[<- h];exact zkz a
theorem zmW {s r:List UInt8} {e:Ent} (h:jB s=some (e,r)):xP e++r=s/\kg e=e/\yL e.2.1=0/\0<=e.2.2.2.2:=by
 unfold jB at h;split at h
 ·cases h
 rename_i n r1 g1;split at h
 ·cases h
 rename_i cs r2 g2;split at h
 ·cases h
 rename_i x r3 g3;split at h
 ·cases h
 rename_i y r4 g4;split at h
 ·cases h
 rename_i o r5 g5;injection h with h
 injection h with h1 h2
 subst h1 h2;have k1:=zfr g1;obtain⟨k2,k3⟩:=zap g2;obtain⟨k4,k5⟩:=qm g3;obtain⟨k6,k7⟩:=qm g4;obtain⟨k8,k9⟩:=zhc g5;refine⟨?_,?_,k2,by show(0:Int)<=((lev y:Nat):Int);omega⟩
 ·unfold xP;dsimp only;rw[Int.toNat_natCast,zi7 k4,zi7 k6];simp only [append_assoc];rw[k9,k7,k5,k3,k1]
 ·unfold kg;dsimp only;rw[show min o 1=o by omega]
theorem zmX {s:Snp} (h:s.1.size<256) (t:List UInt8):jM (ql s++t)=some (kI s,t):=by
 unfold jM ql;rw[append_assoc,zi6 h];dsimp only;rw[zhb];rfl
theorem zmY {s r:List UInt8} {x:Snp} (h:jM s=some (x,r)):ql x++r=s/\kI x=x:=by
 unfold jM at h;split at h
 ·cases h
 rename_i n r1 g1;split at h
 ·cases h
 rename_i o r2 g2;injection h with h
 injection h with h1 h2
 subst h1 h2;have k1:=zfr g1;obtain⟨k8,k9⟩:=zhc g2;refine⟨?_,?_⟩
 ·unfold ql;dsimp only;rw[append_assoc,k9,k1]
 ·unfold kI;dsimp only;rw[show min o 1=o by omega]
theorem zco {α:Type} {f:List UInt8->Option (α×List UInt8)} {g:α->List UInt8} {u:α->α}:∀ {l:List α},(∀ x∈l,∀ t,f (g x++t)=some (u x,t))->∀ t,xd f l.length (l.flatMap g++t)=some (l.map u,t)
 |[],_,t=>rfl
 |x::r,h,t=>by
  rw[length_cons,flatMap_cons,append_assoc,xd,h x mem_cons_self];dsimp only;rw[zco (fun y hy=>h y (mem_cons_of_mem _ hy))];rfl
structure kJ (c:Cat):Prop where
 tabs:c.1.length<=16
 snaps:c.2.length<=16
 ents:∀ e∈c.1,yz (B e.1)=0/\yL e.2.1=0/\(0<=e.2.2.2.2/\e.2.2.2.2<=4096)/\(e.2.2.1=0↔e.2.2.2.2=0)/\e.2.2.2.1<1099511627776
 snps:∀ s∈c.2,yz (B s.1)=0
 rt:yO (fun e:Ent=>e.1) c.1=true
 rs:yO (fun s:Snp=>s.1) c.2=true
theorem vX {c:Cat}:qp c=true↔kJ c:=by
 unfold qp yv jA zdX;simp only [Bool.and_eq_true,decide_eq_true_iff,all_eq_true];constructor
 ·rintro⟨⟨h1,h2⟩,⟨h3,h4⟩,⟨h5,h6⟩,h7⟩;exact⟨h1,h2,fun e he=>⟨h3 e he,(h7 e he).1,(h7 e he).2.1,(h7 e he).2.2.1,(h7 e he).2.2.2⟩,h5,h4,h6⟩
 ·rintro⟨h1,h2,h3,h4,h5,h6⟩;exact⟨⟨h1,h2⟩,⟨fun e he=>(h3 e he).1,h5⟩,⟨h4,h6⟩,fun e he=>⟨(h3 e he).2.1,(h3 e he).2.2.1,(h3 e he).2.2.2.1,(h3 e he).2.2.2.2⟩⟩
theorem kJ.fit {c:Cat} (h:kJ c):∀ e∈c.1,zkL e:=fun e he=>by
 obtain⟨h1,h2,h3,h4,h5⟩:=h.ents e he;have:=qh h1;have hs:=zP e.1;exact⟨by omega,h2,by omega,h3.1,by omega⟩
theorem zkM {c:Cat} (h:kJ c):zbu (xV c)=some (ones c):=by
 have l1:lev [UInt8.ofNat c.1.length]=c.1.length:=by rw[zfq];exact za2 (by have:=h.tabs;omega)
 have l2:lev [UInt8.ofNat c.2.length]=c.2.length:=by rw[zfq];exact za2 (by have:=h.snaps;omega)
 have e:xV c=[UInt8.ofNat c.1.length]++(c.1.flatMap xP++([UInt8.ofNat c.2.length]++(c.2.flatMap ql++[]))):=by unfold xV;simp
 rw[e];unfold zbu;rw[kM (n:=1) rfl];dsimp only;rw[l1,zco (u:=kg) (fun x hx t=>zmV (h.fit x hx) t)];dsimp only;rw[kM (n:=1) rfl];dsimp only;rw[l2,zco (u:=kI) (fun x hx t=>zmX (by have:=qh (h.snps x hx);have:=zP x.1;omega) t)];rfl
theorem zcp {α:Type} {f:α->ByteArray} {u:α->α} (hu:∀ x,f (u x)=f x):∀ l:List α,yO f (l.map u)=yO f l
 |[]=>rfl
 |[_]=>rfl
 |x::y::r=>by
  have ih:=zcp hu (y::r);simp only [map_cons,yO,hu]at ih ⊢;rw[ih]
theorem kJ.ones {c:Cat} (h:kJ c):kJ (ones c):=by
 refine⟨by simp[V.ones,h.tabs],by simp[V.ones,h.snaps],fun e he=>?_,fun s hs=>?_,?_,?_⟩
 ·obtain⟨x,hx,rfl⟩:=mem_map.1 he;obtain⟨h1,h2,h3,h4,h5⟩:=h.ents x hx;exact⟨h1,h2,h3,by show min x.2.2.1 1=0↔x.2.2.2.2=0;omega,h5⟩
 ·obtain⟨x,hx,rfl⟩:=mem_map.1 hs;exact h.snps x hx
 ·exact(zcp (u:=kg) (fun _=>rfl) c.1).trans h.rt
 ·exact(zcp (u:=kI) (fun _=>rfl) c.2).trans h.rs
theorem zjD {c:Cat} (h:kJ c):xH (xV c)=(ones c,0):=by
 unfold xH;rw[zkM h];dsimp only;rw[if_pos (vX.2 h.ones)]
theorem ki (s:ByteArray):(nmB s).length=s.size+1:=by unfold nmB;rw[length_cons,zP]
theorem kJ.len {c:Cat} (h:kJ c):(xV c).length<=11000:=by
 have h1:(c.1.flatMap xP).length<=c.1.length*646:=by
  have:∀ l:List Ent,(∀ e∈l,e∈c.1)->(l.flatMap xP).length<=l.length*646:=by
   intro l
   induction l with
   |nil=>intro _;simp
   |cons e r ih=>
    intro hl;have he:=h.ents e (hl e mem_cons_self);have n1:=qh he.1;have n2:=zbV he.2.1;have hs:=zP e.1;have:=ih (fun x hx=>hl x (mem_cons_of_mem _ hx));rw[flatMap_cons,length_append,length_cons];have:(xP e).length<=646:=by
     unfold xP;simp only [length_append,ki,zy,length_singleton];omega
    omega
  exact this c.1 (fun _ hx=>hx)
 have h2:(c.2.flatMap ql).length<=c.2.length*34:=by
  have:∀ l:List Snp,(∀ e∈l,e∈c.2)->(l.flatMap ql).length<=l.length*34:=by
   intro l
   induction l with
   |nil=>intro _;simp
   |cons e r ih=>
    intro hl;have n1:=qh (h.snps e (hl e mem_cons_self));have hs:=zP e.1;have:=ih (fun x hx=>hl x (mem_cons_of_mem _ hx));rw[flatMap_cons,length_append,length_cons];have:(ql e).length<=34:=by
     unfold ql;simp only [length_append,ki,length_singleton];omega
    omega
  exact this c.2 (fun _ hx=>hx)
 have:=h.tabs;have:=h.snaps;have e:=Nat.mul_le_mul_right 646 h.tabs;have e2:=Nat.mul_le_mul_right 34 h.snaps;unfold xV;rw[length_cons,length_append,length_cons];omega
end V
/- Maps from ints to empty structs:sets of ints. -/
namespace V
open Go Go.Proofs Go.RowKit Go.MapKept
section
variable {P:Program} {t kt et:TypeId}
end
end V
/- []byte(s) of a string,written into:the row bears the mark of a conversion behind its cells. -/
namespace V
open Go Go.Proofs Go.RowKit
variable {w w':World} {b:Nat} {cs:List Value} {t:TypeId}
section
variable {P:Program} {e:TypeId} {z:Value} {bytes:Nat} {src dst:TypeId}
end
end V
/- Contracts of the document's answer,chapter 2. -/
namespace V
open Go Go.Proofs Crc
end V
/- Contracts of the kit:Times,Str,Num,Row,Pair. -/
namespace V
open Go Go.Proofs Go.RowKit
end V
/- Devices:plain,and in memory. -/
namespace V
open Go Go.Proofs Go.RowKit Crc
def Only (F:Nat->Prop) (w w':World):Prop:=w'.os=w.os/\w'.tape=w.tape/\w'.output=w.output/\w.heap.size<=w'.heap.size/\∀ k:Nat,k<w.heap.size->¬F k->w'.heap[k]?=w.heap[k]?
theorem Only.zG {F:Nat->Prop} {w w':World} (h:Ext w w'):Only F w w':=⟨h.os,h.tape,h.output,h.size,fun k hk _=>h.block k hk⟩
theorem Only.refl (F:Nat->Prop) (w:World):Only F w w:=Only.zG (Ext.refl w)
theorem Only.z8 {F:Nat->Prop} {w w':World} {row:Option Nat} (h:w.grownBy w' row) (hr:∀ j,row=some j->F j\/w.heap.size<=j):Only F w w':=by
 refine⟨h.os,h.tape,h.output,h.size,fun k hk hF=>h.block k hk (fun e=>?_)⟩;rcases hr k e.symm with h1|h1
 ·exact hF h1
 ·omega
theorem Only.trans {F G:Nat->Prop} {a b c:World} (h:Only F a b) (k:Only G b c) (hG:∀ j,G j->F j\/a.heap.size<=j):Only F a c:=by
 obtain⟨h1,h2,h3,h4,h5⟩:=h;obtain⟨k1,k2,k3,k4,k5⟩:=k;refine⟨k1.trans h1,k2.trans h2,k3.trans h3,Nat.le_trans h4 k4,fun j hj hF=>?_⟩;rw[k5 j (by omega) (fun hg=>by rcases hG j hg with x|x;exact hF x;omega),h5 j hj hF]
theorem Only.ext {F:Nat->Prop} {a w w':World} (h:Ext a w) (k:Only F w w') (hF:∀ j,F j->a.heap.size<=j):Ext a w':=by
 obtain⟨k1,k2,k3,k4,k5⟩:=k;refine⟨k1.trans h.os,k2.trans h.tape,k3.trans h.output,Nat.le_trans h.size k4,fun j hj=>?_⟩;rw[k5 j (by have:=h.size;omega) (fun hg=>by have:=hF j hg;omega)];exact h.block j hj
theorem Blk.only {F:Nat->Prop} {w w':World} {b:Nat} {cs:List Value} {t:TypeId} (h:Blk w b cs t) (k:Only F w w') (hb:¬F b):Blk w' b cs t:=(k.2.2.2.2 b h.lt hb).trans h
theorem Owni.only {α:Type} {E:Enc α} {e:TypeId} {F:Nat->Prop} {w w':World} {B:Nat} {A:Option Addr} {n c:Nat} {xs:List α} (h:Owni E e w B A n c xs) (k:Only F w w') (hr:∀ j,orow A=some j->¬F j):Owni E e w' B A n c xs:=by
 refine⟨h.1,?_⟩;rcases h.2 with hn|⟨g,cap,cur,hv,hb,hgg,rest⟩
 ·exact .inl hn
 ·refine .inr ⟨g,cap,cur,hv,hb,?_,rest⟩;have ha:orow A=some g:=by
   injection hv with hv
   rw[hv];rfl
  rw[k.2.2.2.2 g (Array.getElem?_eq_some_iff.1 hgg).1 (hr g ha)];exact hgg
structure Dev where
 size:Int
 blocks:Int
 dur:List ByteArray
 pen:List (Int×ByteArray)
 ops:Int
 fuse:Int
def vf:Enc (Int×ByteArray) where
 k:=2
 f x:=[.int .i64 x.1,.string x.2]
 len _:=rfl
 one _:=by
  intro v hv
  simp only [mem_cons,not_mem_nil,or_false]at hv
  rcases hv with rfl|rfl<;>rfl
 pos:=by decide
structure Dev.Ok (d:Dev):Prop where
 geo:zZ d.size d.blocks=true
 len:(d.dur.length:Int)=d.blocks
 each:∀ s∈d.dur,(s.size:Int)=d.size
 pend:∀ p∈d.pen,0<=p.1/\p.1<d.blocks/\(p.2.size:Int)=d.size
 fuse:-1<=d.fuse/\d.fuse<9223372036854775808
def Dev.there (d:Dev) (k:Int):Bool:=decide (0<=k/\k<d.blocks)
def Dev.burnt (d:Dev):Dev:={ d with fuse:=max (-1) (d.fuse-1),ops:=wrap .i64 (d.ops+1) }
def Dev.write (d:Dev) (k:Int) (s:ByteArray):Dev×Int:=
 if ¬(0<=k/\k<d.blocks)\/(s.size:Int)≠d.size then (d,2)
 else if d.fuse=0 then (d,8)
 else ({ d.burnt with pen:=d.pen++[(k,s)] },0)
def put (l:List ByteArray) (p:Int×ByteArray):List ByteArray:=l.set p.1.toNat p.2
def Dev.flush (d:Dev):Dev×Int:=if d.fuse=0 then (d,8) else ({ d.burnt with dur:=d.pen.foldl put d.dur,pen:=[] },0)
def Dev.read (d:Dev) (k:Int):ByteArray×Int:=
 if ¬(0<=k/\k<d.blocks) then (ByteArray.empty,2)
 else ((d.pen.foldl put d.dur).getD k.toNat ByteArray.empty,0)
structure xp (w:World) (b:Nat) (d:Dev) (F:Nat->Prop):Prop where
 mem:∃ (Ad Ap:Option Addr) (nd cd np cp:Nat) (t:TypeId),Blk w b [.int .i64 d.size,.int .i64 d.blocks,.slice Ad nd cd,.slice Ap np cp,.int .i64 d.ops,.int .i64 d.fuse] t
  /\ Owni xM 9 w 0 Ad nd cd d.dur/\Owni vf 230 w 0 Ap np cp d.pen/\(∀ k,F k↔k=b\/orow Ad=some k\/orow Ap=some k)/\orow Ad≠some b/\orow Ap≠some b/\(∀ j,orow Ad=some j->orow Ap≠some j)
 ok:d.Ok
theorem xp.lt {w:World} {b:Nat} {d:Dev} {F:Nat->Prop} (h:xp w b d F):∀ k,F k->k<w.heap.size:=by
 obtain⟨Ad,Ap,nd,cd,np,cp,t,hb,hd,hp,hF,_⟩:=h.mem;intro k hk;rcases (hF k).1 hk with rfl|h|h
 ·exact hb.lt
 ·exact hd.yg k h
 ·exact hp.yg k h
theorem xp.apart {w w':World} {b:Nat} {d:Dev} {F G:Nat->Prop} (h:xp w b d F) (k:Only G w w') (hFG:∀ j,F j->¬G j):xp w' b d F:=by
 refine⟨?_,h.ok⟩;obtain⟨Ad,Ap,nd,cd,np,cp,t,hb,hd,hp,hF,h1,h2,h3⟩:=h.mem;exact⟨Ad,Ap,nd,cd,np,cp,t,hb.only k (hFG b ((hF b).2 (.inl rfl))),hd.only k (fun j hj=>hFG j ((hF j).2 (.inr (.inl hj)))),hp.only k (fun j hj=>hFG j ((hF j).2 (.inr (.inr hj)))),hF,h1,h2,h3⟩
end V
/- Contracts of the library at this dump:written by the kit's own tools (lay-shelf,lay-plain),pruned to what is used. -/
namespace Go.Proofs
open Go.Shelf
def Tryz.lays169_ren:Go.Shelf.Ren:=⟨fun|169=>129|n=>n,fun|70=>202|9=>9|0=>0|72=>204|37=>85|127=>259|3=>3|5=>5|n=>n,fun|n=>n⟩
theorem Tryz.lays169:Go.Proofs.Lays.n169 prog Tryz.lays169_ren:={
 mixed:=by kernel_rfl
 f169:=Tryz.func129.trans (congrArg some (by kernel_rfl))
 t0:=Tryz.underlying0
 a0:=Tryz.isAgg0
 z0:=Tryz.sizeOf0
 v0:=Tryz.zeroValue0
 t3:=Tryz.underlying3
 a3:=Tryz.isAgg3
 z3:=Tryz.sizeOf3
 v3:=Tryz.zeroValue3
 t9:=Tryz.underlying9
 a9:=Tryz.isAgg9
 z9:=Tryz.sizeOf9
 v9:=Tryz.zeroValue9
 t37:=Tryz.underlying85
 a37:=Tryz.isAgg85
 z37:=Tryz.sizeOf85
 v37:=Tryz.zeroValue85
 t70:=Tryz.underlying202
 a70:=Tryz.isAgg202
 z70:=Tryz.sizeOf202
 v70:=Tryz.zeroValue202
 t72:=Tryz.underlying204
 a72:=Tryz.isAgg204
 z72:=Tryz.sizeOf204
 v72:=Tryz.zeroValue204
 t127:=Tryz.underlying259
 a127:=Tryz.isAgg259
 z127:=Tryz.sizeOf259
 v127:=Tryz.zeroValue259 }
theorem Tryz.Builder_Extra_169:Builder.Extra prog Tryz.lays169_ren:={
 sizeBuilder:=by kernel_rfl
 liesBuilder:=by kernel_rfl
 t5:=Tryz.underlying5
 a5:=Tryz.isAgg5
 z5:=Tryz.sizeOf5
 v5:=Tryz.zeroValue5
 infoByte:=by kernel_rfl
 cellsByte:=by kernel_rfl
 sizeByte:=by kernel_rfl
 neB5:=by decide }
open Go.RowKit in
open Go.RowKit in
theorem Tryz.Builder_String_any_k (B b:Nat) (l:List UInt8) (w:World) (h:Lib.IsBuilderF 204 5 B b (Lib.byteCells l) w) (hBw:B<=w.heap.size):
  Calls prog 129 #[.pointer (some ⟨b,0,none⟩)] w fun e w'=>e=.returned (.string ⟨l.toArray⟩)/\(Lib.IsBuilderF 204 5 B b (Lib.byteCells l) w'/\Below B w w'/\Lib.OthersKept 5 (some b) w w'):=Any.Builder_String_any_k Tryz.lays169 Tryz.Builder_Extra_169 B b l w h hBw
def Tryz.lays212_ren:Go.Shelf.Ren:=⟨fun|212=>158|263=>197|264=>198|n=>n,fun|46=>180|51=>41|146=>282|53=>42|148=>284|n=>n,fun|n=>n⟩
theorem Tryz.lays212:Go.Proofs.Lays.n212 prog Tryz.lays212_ren:={
 mixed:=by kernel_rfl
 f212:=Tryz.func158.trans (congrArg some (by kernel_rfl))
 f263:=Tryz.func197.trans (congrArg some (by kernel_rfl))
 f264:=Tryz.func198.trans (congrArg some (by kernel_rfl))
 t46:=Tryz.underlying180
 a46:=Tryz.isAgg180
 z46:=Tryz.sizeOf180
 v46:=Tryz.zeroValue180
 t51:=Tryz.underlying41
 a51:=Tryz.isAgg41
 z51:=Tryz.sizeOf41
 v51:=Tryz.zeroValue41
 t53:=Tryz.underlying42
 a53:=Tryz.isAgg42
 z53:=Tryz.sizeOf42
 v53:=Tryz.zeroValue42
 t146:=Tryz.underlying282
 a146:=Tryz.isAgg282
 z146:=Tryz.sizeOf282
 v146:=Tryz.zeroValue282
 t148:=Tryz.underlying284
 a148:=Tryz.isAgg284
 z148:=Tryz.sizeOf284
 v148:=Tryz.zeroValue284 }
open Go.RowKit Go.Lib in
theorem Tryz.bits_Mul (x y:Nat) (hx:x<18446744073709551616) (hy:y<18446744073709551616) (w:World):
  Calls prog 158 #[.int .u64 x,.int .u64 y] w fun e w'=>e=.returned (.tuple #[.int .u64 ((x*y / 18446744073709551616:Nat):Int),.int .u64 ((x*y % 18446744073709551616:Nat):Int)])/\w'=w:=Any.bits_Mul Tryz.lays212 x y hx hy w
def Tryz.lays105_ren:Go.Shelf.Ren:=⟨fun|105=>113|212=>158|99=>159|165=>145|166=>128|170=>160|169=>129|263=>197|264=>198|206=>199|240=>171|241=>182|276=>204|277=>212|n=>n,fun|9=>9|3=>3|4=>4|20=>20|0=>0|46=>180|109=>248|5=>5|72=>204|76=>210|51=>41|146=>282|53=>42|148=>284|70=>202|37=>85|75=>209|127=>259|164=>290|80=>74|n=>n,fun|n=>n⟩
theorem Tryz.lays105:Go.Proofs.Lays.n105 prog Tryz.lays105_ren:={
 mixed:=by kernel_rfl
 f99:=Tryz.func159.trans (congrArg some (by kernel_rfl))
 f105:=Tryz.func113.trans (congrArg some (by kernel_rfl))
 f165:=Tryz.func145.trans (congrArg some (by kernel_rfl))
 f166:=Tryz.func128.trans (congrArg some (by kernel_rfl))
 f169:=Tryz.func129.trans (congrArg some (by kernel_rfl))
 f170:=Tryz.func160.trans (congrArg some (by kernel_rfl))
 f206:=Tryz.func199.trans (congrArg some (by kernel_rfl))
 f212:=Tryz.func158.trans (congrArg some (by kernel_rfl))
 f240:=Tryz.func171.trans (congrArg some (by kernel_rfl))
 f241:=Tryz.func182.trans (congrArg some (by kernel_rfl))
 f263:=Tryz.func197.trans (congrArg some (by kernel_rfl))
 f264:=Tryz.func198.trans (congrArg some (by kernel_rfl))
 f276:=Tryz.func204.trans (congrArg some (by kernel_rfl))
 f277:=Tryz.func212.trans (congrArg some (by kernel_rfl))
 t0:=Tryz.underlying0
 a0:=Tryz.isAgg0
 z0:=Tryz.sizeOf0
 v0:=Tryz.zeroValue0
 t3:=Tryz.underlying3
 a3:=Tryz.isAgg3
 z3:=Tryz.sizeOf3
 v3:=Tryz.zeroValue3
 t4:=Tryz.underlying4
 a4:=Tryz.isAgg4
 z4:=Tryz.sizeOf4
 v4:=Tryz.zeroValue4
 t5:=Tryz.underlying5
 a5:=Tryz.isAgg5
 z5:=Tryz.sizeOf5
 v5:=Tryz.zeroValue5
 t9:=Tryz.underlying9
 a9:=Tryz.isAgg9
 z9:=Tryz.sizeOf9
 v9:=Tryz.zeroValue9
 t20:=Tryz.underlying20
 a20:=Tryz.isAgg20
 z20:=Tryz.sizeOf20
 v20:=Tryz.zeroValue20
 t37:=Tryz.underlying85
 a37:=Tryz.isAgg85
 z37:=Tryz.sizeOf85
 v37:=Tryz.zeroValue85
 t46:=Tryz.underlying180
 a46:=Tryz.isAgg180
 z46:=Tryz.sizeOf180
 v46:=Tryz.zeroValue180
 t51:=Tryz.underlying41
 a51:=Tryz.isAgg41
 z51:=Tryz.sizeOf41
 v51:=Tryz.zeroValue41
 t53:=Tryz.underlying42
 a53:=Tryz.isAgg42
 z53:=Tryz.sizeOf42
 v53:=Tryz.zeroValue42
 t70:=Tryz.underlying202
 a70:=Tryz.isAgg202
 z70:=Tryz.sizeOf202
 v70:=Tryz.zeroValue202
 t72:=Tryz.underlying204
 a72:=Tryz.isAgg204
 z72:=Tryz.sizeOf204
 v72:=Tryz.zeroValue204
 t75:=Tryz.underlying209
 a75:=Tryz.isAgg209
 z75:=Tryz.sizeOf209
 v75:=Tryz.zeroValue209
 t76:=Tryz.underlying210
 a76:=Tryz.isAgg210
 z76:=Tryz.sizeOf210
 v76:=Tryz.zeroValue210
 t109:=Tryz.underlying248
 a109:=Tryz.isAgg248
 z109:=Tryz.sizeOf248
 v109:=Tryz.zeroValue248
 t127:=Tryz.underlying259
 a127:=Tryz.isAgg259
 z127:=Tryz.sizeOf259
 v127:=Tryz.zeroValue259
 t146:=Tryz.underlying282
 a146:=Tryz.isAgg282
 z146:=Tryz.sizeOf282
 v146:=Tryz.zeroValue282
 t148:=Tryz.underlying284
 a148:=Tryz.isAgg284
 z148:=Tryz.sizeOf284
 v148:=Tryz.zeroValue284
 t164:=Tryz.underlying290
 a164:=Tryz.isAgg290
 z164:=Tryz.sizeOf290
 v164:=Tryz.zeroValue290 }
theorem Tryz.Builder_Extra_105:Builder.Extra prog Tryz.lays105_ren:={
 sizeBuilder:=by kernel_rfl
 liesBuilder:=by kernel_rfl
 t5:=Tryz.underlying5
 a5:=Tryz.isAgg5
 z5:=Tryz.sizeOf5
 v5:=Tryz.zeroValue5
 infoByte:=by kernel_rfl
 cellsByte:=by kernel_rfl
 sizeByte:=by kernel_rfl
 neB5:=by decide }
open Go.RowKit Go.Lib in
theorem Tryz.strings_Repeat (s:ByteArray) (c:Nat) (w:World) (hc:c<=9223372036854775807) (hlen:s.size*c<=140737488355328):
  Calls prog 113 #[.string s,.int .i64 c] w fun e w'=>e=.returned (.string ⟨(Lib.repeatL s.data.toList c).toArray⟩)/\Below w.heap.size w w':=Any.strings_Repeat Tryz.lays105 Tryz.Builder_Extra_105 s c w hc hlen
def Tryz.lays166_ren:Go.Shelf.Ren:=⟨fun|166=>128|240=>171|276=>204|n=>n,fun|0=>0|3=>3|4=>4|5=>5|9=>9|20=>20|37=>85|70=>202|72=>204|75=>209|80=>74|164=>290|n=>n,fun|n=>n⟩
theorem Tryz.lays166:Go.Proofs.Lays.n166 prog Tryz.lays166_ren:={
 mixed:=by kernel_rfl
 f166:=Tryz.func128.trans (congrArg some (by kernel_rfl))
 f240:=Tryz.func171.trans (congrArg some (by kernel_rfl))
 f276:=Tryz.func204.trans (congrArg some (by kernel_rfl))
 t0:=by kernel_rfl
 a0:=fun w=>by kernel_rfl
 z0:=fun w=>by kernel_rfl
 v0:=fun w=>by kernel_rfl
 t3:=by kernel_rfl
 a3:=fun w=>by kernel_rfl
 z3:=fun w=>by kernel_rfl
 v3:=fun w=>by kernel_rfl
 t4:=by kernel_rfl
 a4:=fun w=>by kernel_rfl
 z4:=fun w=>by kernel_rfl
 v4:=fun w=>by kernel_rfl
 t9:=by kernel_rfl
 a9:=fun w=>by kernel_rfl
 z9:=fun w=>by kernel_rfl
 v9:=fun w=>by kernel_rfl
 t20:=by kernel_rfl
 a20:=fun w=>by kernel_rfl
 z20:=fun w=>by kernel_rfl
 v20:=fun w=>by kernel_rfl
 t37:=by kernel_rfl
 a37:=fun w=>by kernel_rfl
 z37:=fun w=>by kernel_rfl
 v37:=fun w=>by kernel_rfl
 t70:=by kernel_rfl
 a70:=fun w=>by kernel_rfl
 z70:=fun w=>by kernel_rfl
 v70:=fun w=>by kernel_rfl
 t72:=by kernel_rfl
 a72:=fun w=>by kernel_rfl
 z72:=fun w=>by kernel_rfl
 v72:=fun w=>by kernel_rfl
 t75:=by kernel_rfl
 a75:=fun w=>by kernel_rfl
 z75:=fun w=>by kernel_rfl
 v75:=fun w=>by kernel_rfl
 t164:=by kernel_rfl
 a164:=fun w=>by kernel_rfl
 z164:=fun w=>by kernel_rfl
 v164:=fun w=>by kernel_rfl }
theorem Tryz.Builder_X72_166:Builder.X72 prog Tryz.lays166_ren where
 sizeBuilder:=by kernel_rfl
 liesBuilder:=by kernel_rfl
theorem Tryz.Builder_Extra_166b:Builder.Extra prog Tryz.lays166_ren where
 toX72:=Tryz.Builder_X72_166
 t5:=by kernel_rfl
 a5:=fun w=>by kernel_rfl
 z5:=fun w=>by kernel_rfl
 v5:=fun w=>by kernel_rfl
 infoByte:=by kernel_rfl
 cellsByte:=by kernel_rfl
 sizeByte:=by kernel_rfl
 neB5:=by decide
open Go.RowKit in
theorem Tryz.Builder_WriteString_k (B b:Nat) (bs:List Value) (s:ByteArray) (w:World) (h:Lib.IsBuilderF 204 5 B b bs w) (hlen:bs.length+s.size<=140737488355328) (hBw:B<=w.heap.size):
  Calls prog 128 #[.pointer (some ⟨b,0,none⟩),.string s] w fun e w'=>e=.returned (.tuple #[.int .i64 s.size,.nilIface])/\(Lib.BuilderAtF 204 5 B b (.pointer (some ⟨b,0,none⟩)) (bs++Lib.strCells s) w'/\Below B w w'/\Lib.OthersKept 5 (some b) w w'):=Any.Builder_WriteString_k Tryz.lays166 Tryz.Builder_Extra_166b B b bs s w h hlen hBw
end Go.Proofs
/- Contracts of octet.Reader. -/
namespace V
open Go Go.Proofs Go.RowKit
theorem yP (w:World) (b o:Nat) (v:Value):w.grownBy (w.setCell ⟨b,o,none⟩ v) (some b):=by
 refine⟨rfl,rfl,rfl,by simp,fun k hk hne=>Below.heap_setCell _ _ _ _ ?_⟩;intro e;exact hne (by rw[e])
def Rdr (w:World) (lo b:Nat) (bs:List UInt8):Prop:=∃ (A:Option Addr) (n c:Nat) (t:TypeId),Blk w b [.slice A n c] t/\Sl w A n (bV bs)/\n<=c/\(∀ a,A=some a->lo<=a.block/\a.block<b)/\lo<=b
theorem Rdr.lt {w:World} {lo b:Nat} {bs:List UInt8} (h:Rdr w lo b bs):b<w.heap.size:=by
 obtain⟨A,n,c,t,hb,_⟩:=h;exact hb.lt
theorem Rdr.ext {w w':World} {lo b:Nat} {bs:List UInt8} (h:Rdr w lo b bs) (he:Ext w w'):Rdr w' lo b bs:=by
 obtain⟨A,n,c,t,hb,hs,hc,ha,hlo⟩:=h;exact⟨A,n,c,t,hb.ext he,hs.ext he,hc,ha,hlo⟩
theorem Rdr.grown {w w':World} {lo b:Nat} {bs:List UInt8} {row:Option Nat} (h:Rdr w lo b bs) (hg:w.grownBy w' row) (hr:∀ j,row=some j->j<lo\/b<j):Rdr w' lo b bs:=by
 obtain⟨A,n,c,t,hb,hs,hc,ha,hlo⟩:=h;refine⟨A,n,c,t,hb.grown hg ?_,hs.grown hg ?_,hc,ha,hlo⟩
 ·intro e;have:=hr b e.symm;omega
 ·intro a e e2;have:=hr a.block e2.symm;have:=ha a e;omega
def rd (bs:List UInt8) (k:Nat):Nat×Int×List UInt8:=if bs.length<k then (0,7,bs) else (lev (bs.take k),0,bs.drop k)
theorem zjE {w:World} {A:Option Addr} {n c:Nat} {bs:List UInt8} (h:Sl w A n (bV bs)) (hn:n<=140737488355328):
  Calls prog 175 #[.slice A n c] w (Ret fun v w'=>∃ b,v=.pointer (some ⟨b,0,none⟩)/\w.heap.size<=b/\Rdr w' w.heap.size b bs/\Ext w w'):=by
 apply zmr;unfold S175;refine zb (zdp h hn) ?_;rintro _ w1 ⟨⟨A1,n1,c1⟩,rfl,ho1,he1⟩;refine⟨(A1,n1,c1),rfl,?_⟩;refine zs fun r2 w2 hb2 he2 hr2 _=>?_;have hsz:=he1.size;refine⟨r2,rfl,by omega,⟨A1,n1,c1,_,hb2,(ho1.ext he2).sl,ho1.le.1,fun a ha=>?_,by omega⟩,he1.trans he2⟩;have hge:=ho1.row a.block (by rw[xC];dsimp only;subst ha;rfl);have hlt:=(zlE ho1 (k:=a.block) (by rw[xC];dsimp only;subst ha;rfl)).2;omega
theorem zdr {w:World} {lo b k:Nat} {bs:List UInt8} (h:Rdr w lo b bs) (hk:k<=1000000):
  Calls prog 210 #[.pointer (some ⟨b,0,none⟩),.int .i64 (k:Int)] w (Ret fun v w'=>∃ A n c,v=.tuple #[.slice A n c,.int .i64 (rd bs k).2.1]/\Sl w' A n (bV (if bs.length<k then [] else bs.take k))/\Rdr w' lo b (rd bs k).2.2/\w.grownBy w' (some b)):=by
 obtain⟨A,n,c,t,hb,hs,hc,ha,hlo⟩:=h;have hl:=hs.blen;apply zmH;unfold S210 rd;refine zp (zC (A,n,c) hb (by rfl) ?_);refine zg (fun hq=>?_) (fun hq=>?_)
 ·have hq:(n:Int)<(k:Int):=of_decide_eq_true hq;rw[if_pos (by omega),if_pos (by omega)];exact⟨none,0,0,rfl,Sl.nil w none,⟨A,n,c,t,hb,hs,hc,ha,hlo⟩,xL _ _⟩
 have hq:¬(n:Int)<(k:Int):=of_decide_eq_false hq;rw[if_neg (by omega),if_neg (by omega)];refine zp (zC (A,n,c) hb (by rfl) (zE ⟨by omega,by omega,by dsimp only;omega⟩ ?_));refine zp (zC (A,n,c) hb (by rfl) (zE ⟨by omega,by dsimp only;omega⟩ ?_));dsimp only;rw[Int.toNat_natCast];refine zp (zU hb (by simp) ?_);have hg:=yP w b 0 (.slice (zn A k c 1) (n-k) (c-k));have hb':=hb.set 0 (.slice (zn A k c 1) (n-k) (c-k));have keep:∀ {A':Option Addr} {n':Nat} {bs':List UInt8},Sl w A' n' (bV bs')->(∀ a,A'=some a->lo<=a.block/\a.block<b)->Sl (w.setCell ⟨b,0,none⟩ (.slice (zn A k c 1) (n-k) (c-k))) A' n' (bV bs'):=fun hs ha=>hs.grown hg (fun a e e2=>by injection e2 with e2;have:=ha a e;omega);have cut:∀ (l m:Nat) (a:Addr),zn A l m 1=some a->lo<=a.block/\a.block<b:=by
  intro l m a e;unfold zn at e;cases A with
  |none=>revert e;split<;>simp
  |some a0=>
   have:=ha a0 rfl
   revert e
   split
   ·intro e;first|(injection e with e;subst e;exact this)|cases e
   ·intro e;simp only [Option.map_some,Option.some.injEq]at e;subst e;unfold Addr.add;split<;>exact this
 refine⟨zn A 0 k 1,k,k,rfl,?_,⟨zn A k c 1,n-k,c-k,t,hb',?_,by omega,cut k c,hlo⟩,hg⟩
 ·refine keep ?_ (cut 0 k);have:=hs.zfl (k:=k) (m:=k) (by omega) (by omega);rw[jm]at this;exact this
 ·refine keep ?_ (cut k c);have:=hs.cut (l:=k) (k:=n-k) (m:=c) (by omega) (by omega);rw[vC,jm,take_of_length_le (by rw[length_drop];omega)]at this;exact this
theorem zcq {w:World} {lo b k:Nat} {bs:List UInt8} (h:Rdr w lo b bs) (hk1:1<=k) (hk:k<=8):
  Calls prog 176 #[.pointer (some ⟨b,0,none⟩),.int .i64 (k:Int)] w (Ret fun v w'=>v=.tuple #[.int .u64 ((rd bs k).1:Int),.int .i64 (rd bs k).2.1]/\Rdr w' lo b (rd bs k).2.2/\w.grownBy w' (some b)):=by
 apply zms;unfold S176;refine zd (by rfl) (zd (decide_eq_false (by omega)) (zd (decide_eq_false (by omega)) ?_));refine zb (zdr h (by omega)) ?_;rintro _ w1 ⟨A,n,c,rfl,hs,hr,hg⟩;refine⟨((A,n,c),(rd bs k).2.1,()),rfl,?_⟩;have hl:=hs.blen;have hn:n<=8:=by
  split at hl
  ·simp only [length_nil]at hl;omega
  ·rw[length_take]at hl;omega
 refine zb (ja hs hn) ?_;rintro _ w2 ⟨rfl,he2⟩;refine⟨_,rfl,⟨?_,hr.ext he2,xn hg (xZ he2 none) (fun j hj=>by cases hj)⟩⟩;dsimp only;unfold rd;split<;>rfl
end V
/- Contracts of the package device. -/
namespace V
open Go Go.Proofs Go.RowKit Crc
def Step (w:World) (b:Nat) (F:Nat->Prop) (d':Dev) (w':World):Prop:=∃ F':Nat->Prop,xp w' b d' F'/\(∀ k,F' k->F k\/w.heap.size<=k)/\Only F w w'
theorem zds {w:World} {b:Nat} {d:Dev} {F:Nat->Prop} (h:xp w b d F) (k:Int):
  Calls prog 162 #[.pointer (some ⟨b,0,none⟩),.int .i64 k] w (Ret fun v w'=>v=.bool (d.there k)/\w'=w):=by
 obtain⟨Ad,Ap,nd,cd,np,cp,t,hb,hd,hp,hF,h1,h2,h3⟩:=h.mem;apply zmf;unfold S162 Dev.there;refine zg (fun hz=>?_) (fun hz=>?_)
 ·have hz:=of_decide_eq_true hz;refine zp (zk 1 d.blocks hb (by rfl) ⟨?_,rfl⟩);congr 1;exact decide_eq_decide.2 (by omega)
 ·have hz:=of_decide_eq_false hz;refine⟨?_,rfl⟩;congr 1;exact(decide_eq_false (by omega)).symm
theorem xp.put {w:World} {b o:Nat} {d d':Dev} {F:Nat->Prop} {v:Value} (h:xp w b d F) (ho:∀ Ad nd cd Ap np cp,([.int .i64 d.size,.int .i64 d.blocks,.slice Ad nd cd,.slice Ap np cp,.int .i64 d.ops,.int .i64 d.fuse]:List Value).set o v=[.int .i64 d'.size,.int .i64 d'.blocks,.slice Ad nd cd,.slice Ap np cp,.int .i64 d'.ops,.int .i64 d'.fuse])
  (hd':d'.dur=d.dur) (hp':d'.pen=d.pen) (hok:d'.Ok):xp (w.setCell ⟨b,o,none⟩ v) b d' F:=by
 obtain⟨Ad,Ap,nd,cd,np,cp,t,hb,hd,hp,hF,h1,h2,h3⟩:=h.mem;have hg:=yP w b o v;refine⟨⟨Ad,Ap,nd,cd,np,cp,t,?_,?_,?_,hF,h1,h2,h3⟩,hok⟩
 ·rw[<- ho Ad nd cd Ap np cp];exact hb.set o v
 ·rw[hd'];exact hd.grown hg (fun j hj e=>by injection hj with hj;subst hj;exact h1 e)
 ·rw[hp'];exact hp.grown hg (fun j hj e=>by injection hj with hj;subst hj;exact h2 e)
theorem Dev.Ok.burnt {d:Dev} (h:d.Ok):d.burnt.Ok:=by
 refine⟨h.geo,h.len,h.each,h.pend,?_⟩;have:=h.fuse;show -1<=max (-1) (d.fuse-1)/\max (-1) (d.fuse-1)<9223372036854775808;omega
theorem zeQ {w:World} {b:Nat} {d:Dev} {F:Nat->Prop} (h:xp w b d F):
  Calls prog 163 #[.pointer (some ⟨b,0,none⟩)] w (Ret fun v w'=>(d.fuse=0/\v=.bool false/\w'=w)\/(d.fuse≠0/\v=.bool true/\xp w' b d.burnt F/\w.grownBy w' (some b))):=by
 obtain⟨Ad,Ap,nd,cd,np,cp,t,hb,hd,hp,hF,h1,h2,h3⟩:=h.mem;have hf:=h.ok.fuse;apply zmg;unfold S163;refine zp (zk 5 d.fuse hb (by rfl) (zg (fun hz=>.inl ⟨beq_iff_eq.1 hz,rfl,rfl⟩) (fun hz=>?_)));have hz:=beq_eq_false_iff_ne.1 hz;have ef:(if wrap .i64 (d.fuse-1) > -1 then wrap .i64 (d.fuse-1) else -1)=max (-1) (d.fuse-1):=by
  rw[wrap_i64 (by omega) (by omega)];split<;>omega
 refine zp (zk 5 d.fuse hb (by rfl) ?_);rw[ef];refine zp ?_;rw[zx];refine zU hb (by show 0+5<6;omega) ?_;have hg1:=yP w b (0+5) (.int .i64 (max (-1) (d.fuse-1)));have hD:=h.put (d':={ d with fuse:=max (-1) (d.fuse-1) }) (o:=0+5) (v:=.int .i64 (max (-1) (d.fuse-1))) (fun _ _ _ _ _ _=>rfl) rfl rfl ⟨h.ok.geo,h.ok.len,h.ok.each,h.ok.pend,by dsimp only;omega⟩;have hb1:=hb.set (0+5) (.int .i64 (max (-1) (d.fuse-1)));generalize w.setCell ⟨b,0+5,none⟩ (.int .i64 (max (-1) (d.fuse-1)))=w1 at hg1 hD hb1 ⊢;refine zp (zk 4 d.ops hb1 (by rfl) (zp ?_));rw[zx];refine zU hb1 (by show 0+4<6;omega) ?_;have hg2:=yP w1 b (0+4) (.int .i64 (wrap .i64 (d.ops+1)));have hD2:=hD.put (d':=d.burnt) (o:=0+4) (v:=.int .i64 (wrap .i64 (d.ops+1))) (fun _ _ _ _ _ _=>rfl) rfl rfl h.ok.burnt;exact .inr ⟨hz,rfl,hD2,xn hg1 hg2 (fun j hj=>.inl hj)⟩
theorem zjF:j9 prog 159 230 (.agg #[.int .i64 0,.string ByteArray.empty]) 2 24:=⟨by kernel_rfl,by kernel_rfl,by kernel_rfl⟩
theorem zaF {w:World} {b:Nat} {d:Dev} {F:Nat->Prop} (h:xp w b d F) (k:Int) (s:ByteArray) (hn:d.pen.length<=1000000):
  Calls prog 118 #[.pointer (some ⟨b,0,none⟩),.int .i64 k,.string s] w (Ret fun v w'=>v=.int .i64 (d.write k s).2/\Step w b F (d.write k s).1 w'):=by
 have stay:∀ {w':World},w'=w->Step w b F d w':=fun e=>by subst e;exact⟨F,h,fun k hk=>.inl hk,Only.refl F _⟩
 apply zlR;unfold S118 Dev.write;refine zd (by rfl) ?_;refine zb (zds h k) ?_;rintro _ w1 ⟨rfl,hw⟩;refine⟨_,rfl,?_⟩;subst hw;obtain⟨Ad,Ap,nd,cd,np,cp,t,hb,hd,hp,hF,h1,h2,h3⟩:=h.mem;refine zg (fun hz=>?_) (fun hz=>?_)
 ·have hz:¬(0<=k/\k<d.blocks):=of_decide_eq_false (show d.there k=false by simpa using hz);rw[if_pos (.inl hz)];exact⟨rfl,stay rfl⟩
 have hth:0<=k/\k<d.blocks:=of_decide_eq_true (show d.there k=true by simpa using hz);refine zp (zC d.size hb (by rfl) (zg (fun hz=>?_) (fun hz=>?_)))
 ·rw[if_pos (.inr (bne_iff_ne.1 hz))];exact⟨rfl,stay rfl⟩
 have hsz:=bne_eq_false_iff_eq.1 hz;rw[if_neg (by rintro(x|x);exact x hth;exact x hsz)];refine zb (zeQ h) ?_;rintro _ w2 (⟨hz,rfl,hw⟩|⟨hz,rfl,hD,hg⟩)
 ·refine⟨_,rfl,zf (by rfl) ?_⟩;rw[if_pos hz];exact⟨rfl,stay hw⟩
 refine⟨_,rfl,zd (by rfl) ?_⟩;rw[if_neg hz];obtain⟨Ad,Ap,nd,cd,np,cp,t,hb,hd,hp,hF,h1,h2,h3⟩:=hD.mem;have hlp:=hp.len;have hlp2:d.burnt.pen=d.pen:=rfl;refine zp (zk 3 (Ap,np,cp) hb (by rfl) ?_);refine yG (E:=vf) (ys:=[(k,s)]) (by rfl) rfl zjF hp (Nat.zero_le _) (by dsimp only;rw[hlp2]at hlp;omega) (by omega) ?_;intro A' c' w3 hp3 hg3;have hb3:=hb.grown hg3.grown (fun e=>h2 e.symm);have hd3:=hd.grown hg3.grown (fun j hj e=>h3 j e hj);refine zp ?_;rw[zx];refine zU hb3 (by show 0+3<6;omega) ?_;have hg4:=yP w3 b (0+3) (.slice A' (np+1) c');have hb4:=hb3.set (0+3) (.slice A' (np+1) c');have hb5:=(hF b).2 (.inl rfl);have hnew:∀ j,orow A'=some j->orow Ap=some j\/w2.heap.size<=j:=hg3.2;have hbl:=hb.lt;have n1:orow A'≠some b:=fun e=>by rcases hnew b e with x|x;exact h2 x;omega
 have n2:∀ j,orow Ad=some j->orow A'≠some j:=fun j hj e=>by
  rcases hnew j e with x|x
  ·exact h3 j hj x
  ·have:=hd.yg j hj;omega
 refine⟨rfl,fun j=>j=b\/orow Ad=some j\/orow A'=some j,⟨⟨Ad,A',nd,cd,np+1,c',t,hb4,hd3.grown hg4 (fun j hj e=>by injection hj with hj;subst hj;exact h1 e),hp3.grown hg4 (fun j hj e=>by injection hj with hj;subst hj;exact n1 e),fun _=>Iff.rfl,h1,n1,n2⟩,?_⟩,?_,?_⟩
 ·refine⟨hD.ok.geo,hD.ok.len,hD.ok.each,fun p hp=>?_,hD.ok.fuse⟩;rcases mem_append.1 hp with hp|hp
  ·exact hD.ok.pend p hp
  ·rw[mem_singleton.1 hp];exact⟨hth.1,hth.2,hsz⟩
 ·rintro j (rfl|hj|hj)
  ·exact .inl hb5
  ·exact .inl ((hF j).2 (.inr (.inl hj)))
  ·rcases hnew j hj with x|x
   ·exact .inl ((hF j).2 (.inr (.inr x)))
   ·exact .inr (Nat.le_trans hg.size x)
 ·refine Only.trans (Only.trans (Only.z8 hg (fun j hj=>by injection hj with hj;subst hj;exact .inl hb5)) (Only.z8 (F:=F) hg3.grown (fun j hj=>.inl ((hF j).2 (.inr (.inr hj))))) (fun j hj=>.inl hj)) (Only.z8 (F:=F) hg4 (fun j hj=>by injection hj with hj;subst hj;exact .inl hb5)) (fun j hj=>.inl hj)
theorem qw (l:List ByteArray):xM.flat l=l.map Value.string:=by
 induction l with
 |nil=>rfl
 |cons a r ih=>rw[map_cons,<- ih];rfl
theorem zmZ {w:World} {e:TypeId} {B:Nat} {A:Option Addr} {n c:Nat} {xs:List ByteArray} {i:Int} {s:ByteArray} {K:WP} (h:Owni xM e w B A n c xs) (h0:0<=i) (h1:i<(n:Int))
  (hK:∀ w',Owni xM e w' B A n c (xs.set i.toNat s)->w.grownBy w' (orow A)->K w'):
  (zc (0<=i/\i<((n:Nat):Int))<|zh A fun p=>stW (p.add (Int.toNat i*1)) (.string s) K) w:=by
 refine ziX (e:=e) (B:=B) (c:=c) (vs:=xM.flat xs) h h0 h1 fun w' ho hg=>hK w' ?_ (by rw[xC]at hg;exact hg);have e1:(xM.flat xs).set i.toNat (.string s)=xM.flat (xs.set i.toNat s):=by rw[qw,qw,List.map_set]
 rw[e1]at ho;exact ho
theorem zab (l:List (Int×ByteArray)):∀ dur:List ByteArray,(l.foldl Go.Proofs.YtplgodmmmppmeaaGreat.V.put dur).length=dur.length:=by
 induction l with
 |nil=>intro dur;rfl
 |cons p r ih=>intro dur;rw[foldl_cons,ih];simp[Go.Proofs.YtplgodmmmppmeaaGreat.V.put]
theorem zcr {n:Int} (l:List (Int×ByteArray)):∀ dur:List ByteArray,(∀ s∈dur,(s.size:Int)=n)->(∀ p∈l,(p.2.size:Int)=n)->∀ s∈l.foldl Go.Proofs.YtplgodmmmppmeaaGreat.V.put dur,(s.size:Int)=n:=by
 induction l with
 |nil=>intro dur h _;exact h
 |cons p r ih=>
  intro dur h hl;rw[foldl_cons];refine ih _ (fun s hs=>?_) (fun q hq=>hl q (mem_cons_of_mem _ hq));rcases List.mem_or_eq_of_mem_set hs with hs|rfl
  ·exact h s hs
  ·exact hl p mem_cons_self
theorem zdt {w:World} {b:Nat} {d:Dev} {F:Nat->Prop} (h:xp w b d F):
  Calls prog 142 #[.pointer (some ⟨b,0,none⟩)] w (Ret fun v w'=>v=.int .i64 d.flush.2/\Step w b F d.flush.1 w'):=by
 have stay:∀ {w':World},w'=w->Step w b F d w':=fun e=>by subst e;exact⟨F,h,fun k hk=>.inl hk,Only.refl F _⟩
 apply zl7;unfold S142 Dev.flush;refine zd (by rfl) ?_;refine zb (zeQ h) ?_;rintro _ w2 (⟨hz,rfl,hw⟩|⟨hz,rfl,hD,hg⟩)
 ·refine⟨_,rfl,zf (by rfl) ?_⟩;rw[if_pos hz];exact⟨rfl,stay hw⟩
 refine⟨_,rfl,zd (by rfl) ?_⟩;rw[if_neg hz];obtain⟨Ad,Ap,nd,cd,np,cp,t,hb,hd,hp,hF,h1,h2,h3⟩:=hD.mem;have hlp:d.pen.length=np:=hp.len;have hld:d.dur.length=nd:=hd.len;have hpl:=hp.sl.le;have hok:=h.ok;refine zp (zk 3 (Ap,np,cp) hb (by rfl) ?_);refine zu (fun y w'=>∃ i:Nat,i<=np/\y=((i:Int),())/\Only F w2 w'/\Blk w' b [.int .i64 d.size,.int .i64 d.blocks,.slice Ad nd cd,.slice Ap np cp,.int .i64 d.burnt.ops,.int .i64 d.burnt.fuse] t
   /\ Owni xM 9 w' 0 Ad nd cd ((d.pen.take i).foldl Go.Proofs.YtplgodmmmppmeaaGreat.V.put d.dur)/\Owni vf 230 w' 0 Ap np cp d.pen) (fun y=>(np-y.1).toNat) ⟨0,by omega,rfl,Only.refl F w2,hb,hd,hp⟩ ?_
 rintro _ w3 ⟨i,hi,rfl,hO,hb,hd,hp⟩;dsimp only
 by_cases hlt:i<np
 ·refine zf (decide_eq_true (by omega)) ?_;refine vM (ls:=[.int .i64,.str]) (fun x:Int×ByteArray=>(x.1,x.2,())) (0,ByteArray.empty) hp.sl (fun _=>rfl) rfl (by omega) (by omega) ?_;rw[Int.toNat_natCast];have e:d.pen[i]?=some (d.pen.getD i (0,ByteArray.empty)):=by rw[getD_eq_getElem?_getD,List.getElem?_eq_getElem (by omega)];rfl
  have hq:=hok.pend _ (mem_of_getElem? e);generalize d.pen.getD i (0,ByteArray.empty)=q at e hq ⊢;have hlen:=hok.len;refine yt (vs:=vf.f q) (by rfl) (vf.one q) ?_ (by rfl);intro r8 w4 hb8 he4 hr8;refine zK fun w5 he5 _ _=>?_;have he35:=he4.trans he5;have hb8:=hb8.ext he5;have hb5:=hb.ext he35;have hd5:=hd.ext he35;refine zp (zk 2 (Ad,nd,cd) hb5 (by rfl) (zC q.1 hb8 (by rfl) (zk 1 q.2 hb8 (by rfl) ?_)));dsimp only;refine zmZ hd5 hq.1 (by have:=hq.2.1;omega) ?_;intro w6 hd6 hg6;have hb6:=hb5.grown hg6 (fun e=>h1 e.symm);have hp6:=(hp.ext he35).grown hg6 (fun j hj e=>h3 j hj e);have efold:(d.pen.take (i+1)).foldl Go.Proofs.YtplgodmmmppmeaaGreat.V.put d.dur=Go.Proofs.YtplgodmmmppmeaaGreat.V.put ((d.pen.take i).foldl Go.Proofs.YtplgodmmmppmeaaGreat.V.put d.dur) q:=by
   rw[take_add_one,e,List.foldl_append];rfl
  refine⟨⟨i+1,by omega,by rw[wrap_i64 (by omega) (by omega)];rfl,?_,hb6,by rw[efold];exact hd6,hp6⟩,by rw[wrap_i64 (by omega) (by omega)];omega⟩;exact Only.trans (Only.trans hO (Only.zG (F:=F) he35) (fun j hj=>.inl hj)) (Only.z8 (F:=F) hg6 (fun j hj=>.inl ((hF j).2 (.inr (.inl hj))))) (fun j hj=>.inl hj)
 ·obtain rfl:i=np:=by omega
  refine zd (decide_eq_false (by omega)) (zp ?_);rw[zx];refine zU hb (by show 0+3<6;omega) ?_;have hg7:=yP w3 b (0+3) (.slice none 0 0);have hb7:=hb.set (0+3) (.slice none 0 0);rw[take_of_length_le (by omega)]at hd;have hbF:=(hF b).2 (.inl rfl);refine⟨rfl,fun j=>j=b\/orow Ad=some j\/orow none=some j,⟨⟨Ad,none,nd,cd,0,0,t,hb7,hd.grown hg7 (fun j hj e=>by injection hj with hj;subst hj;exact h1 e),Owni.nil _ _ _,fun _=>Iff.rfl,h1,(fun e=>by cases e),(fun j hj e=>by cases e)⟩,?_⟩,?_,?_⟩
  ·exact⟨hok.geo,by show(((d.pen.foldl Go.Proofs.YtplgodmmmppmeaaGreat.V.put d.dur).length:Nat):Int)=d.blocks;rw[zab];exact hok.len,zcr _ _ hok.each (fun p hp=>(hok.pend p hp).2.2),(fun p hp=>by cases hp),hD.ok.fuse⟩
  ·rintro j (rfl|hj|hj)
   ·exact .inl hbF
   ·exact .inl ((hF j).2 (.inr (.inl hj)))
   ·cases hj
  ·exact Only.trans (Only.trans (Only.z8 (F:=F) hg (fun j hj=>by injection hj with hj;subst hj;exact .inl hbF)) hO (fun j hj=>.inl hj)) (Only.z8 (F:=F) hg7 (fun j hj=>by injection hj with hj;subst hj;exact .inl hbF)) (fun j hj=>.inl hj)
end V
/- Ranges over functions that may be left early;iterators with a state of their own;what loops over functions leave as it was. -/
namespace V
open Go
def znC (P:Program) (v:Value) (L:List (List Value)) (R:Nat->WP) (T:Nat->World->World):Prop:=
 ∃ f cap,v=.func (.func f) #[] cap/\enterable P f=true/\∀ (l:Nat) (J:Nat->WP) (E:WP) (w:World),J 0 w->(∀ i w',J i w'->R i w')->(∀ i w',J i w'->J i w'.drew)->
  (∀ i w' (h:i<L.length),J i w'->jI P l L[i] w' fun v w''=>(v=.bool true/\R i w''/\J (i+1) (T i w''))\/(v=.bool false/\E w''))->
  Calls P f (.func (.yield l) #[] #[]::cap.toList).toArray w (Ret fun _ w'=>J L.length w'\/E w')
theorem zm0 {P:Program} {v:Value} {T:Type} {vals:T->List Value} {Body:T->(WP->WP)->WP->(Code->WP)->WP} {done:Nat->Option Code->WP} {w:World} {L:List (List Value)} {R:Nat->WP} {Tr:Nat->World->World} (I:Nat->WP) (D:Code->WP) (tv:Nat->T) (htv:∀ i (hi:i<L.length),vals (tv i)=L[i])
  (hit:znC P v L R Tr) (hR:∀ i w',I i w'->R i w') (hdr:∀ i w',I i w'->I i w'.drew)
  (hst:∀ i w' w'',yY w.heap.size (w.heap.size+1) w' w''->I i w'->I i w'')
  (hRst:∀ i w' w'',yY w.heap.size (w.heap.size+1) w' w''->R i w'->R i w'')
  (hDst:∀ c w' w'',yY w.heap.size (w.heap.size+1) w' w''->D c w'->D c w'')
  (hT:∀ i w' w'',yY w.heap.size (w.heap.size+1) w' w''->yY w.heap.size (w.heap.size+1) (Tr i w') (Tr i w''))
  (hTk:∀ i w' (k:Nat),w.heap.size<=k->(Tr i w').heap[k]?=w'.heap[k]?)
  (h0:∀ o,I 0 ((w.alloc (.deferred (some []))).alloc o))
  (hbody:∀ (i:Nat) (hi:i<L.length) (w':World) (G:WP->WP) (N:WP) (jump:Code->WP),I i w'->w.heap.size+2<=w'.heap.size->
   (∀ (K:WP) w1,I i w1->w'.heap.size<=w1.heap.size->(∀ k,k=w.heap.size\/k=w.heap.size+1->w1.heap[k]?=w'.heap[k]?)->(∀ w2,I i w2->w1.heap.size=w2.heap.size->(∀ k:Nat,k≠w.heap.size->k≠w.heap.size+1->w2.heap[k]?=w1.heap[k]?)->
    (∀ w'',R i w''/\I (i+1) (Tr i w'')->w2.heap.size<=w''.heap.size->(∀ k,k=w.heap.size\/k=w.heap.size+1->w''.heap[k]?=w2.heap[k]?)->N w'')->
    (∀ c w'',D c w''->w2.heap.size<=w''.heap.size->(∀ k,k=w.heap.size\/k=w.heap.size+1->w''.heap[k]?=w2.heap[k]?)->jump c w'')->K w2)->G K w1)->
   Body (tv i) G N jump w')
  (hdone:∀ w',I L.length w'->w.heap.size+2<=w'.heap.size->w'.heap[w.heap.size]?=some (.deferred (some []))->done w.heap.size none w')
  (hjump:∀ c w',D c w'->w.heap.size+2<=w'.heap.size->w'.heap[w.heap.size]?=some (.deferred (some []))->done w.heap.size (some c) w'):
  jE P v T vals Body done w:=by
 obtain⟨f,cap,rfl,hen,hcalls⟩:=hit;refine⟨f,cap,rfl,hen,fun rec hrec hY=>?_⟩;have hlt:∀ {w':World} {o:Obj},w'.heap[w.heap.size+1]?=some o->w.heap.size+1<w'.heap.size:=fun h=>(Array.getElem?_eq_some_iff.1 h).1;refine Calls.mono (hcalls (w.heap.size+1) (fun i w'=>I i w'/\w'.heap[w.heap.size+1]?=some (rec .ready none)/\w'.heap[w.heap.size]?=some (.deferred (some [])))
  (fun w'=>∃ c,D c w'/\w'.heap[w.heap.size+1]?=some (rec .done (some c))/\w'.heap[w.heap.size]?=some (.deferred (some []))) _ ⟨h0 _,?_,?_⟩ (fun i w' h=>hR i w' h.1) (fun i w' h=>⟨hdr i w' h.1,h.2.1,h.2.2⟩) ?_) ?_
 ·show((w.heap.push _).push _)[w.heap.size+1]?=_;rw[Array.getElem?_push];simp
 ·show((w.heap.push _).push _)[w.heap.size]?=_;rw[Array.getElem?_push,Array.getElem?_push];simp
 ·rintro i w' hi ⟨hI,hl,hd⟩
  let Q:Bool->WP:=fun b w''=>(b=true/\R i w''/\I (i+1) (Tr i w'')/\w''.heap[w.heap.size+1]?=some (rec .ready none)/\w''.heap[w.heap.size]?=some (.deferred (some [])))
   \/ (b=false/\∃ c,D c w''/\w''.heap[w.heap.size+1]?=some (rec .done (some c))/\w''.heap[w.heap.size]?=some (.deferred (some [])))
  have hb:=hbody i hi w' (fun K w1=>w1.heap[w.heap.size+1]?=some (rec .ready none)/\K (yA w1 (w.heap.size+1) (rec .busy none)))
   (fun w2=>w2.heap[w.heap.size+1]?=some (rec .busy none)/\Q true (yA w2 (w.heap.size+1) (rec .ready none)))
   (fun c w2=>w2.heap[w.heap.size+1]?=some (rec .busy none)/\Q false (yA w2 (w.heap.size+1) (rec .done (some c)))) hI (by have:=hlt hl;omega)
   (fun K w1 hI1 hs1 hk1 hG=>by
    have hl1:=hk1 (w.heap.size+1) (.inr rfl)
    rw[hl]at hl1
    have hd1:=hk1 w.heap.size (.inl rfl)
    rw[hd]at hd1
    refine⟨hl1,hG _ (hst i w1 _ (ya (o:=rec .busy none) (.inr rfl)) hI1) (by rw[xD]) (fun k h1 h2=>zQ (fun e=>h2 e.symm)) ?_ ?_⟩
    ·intro w'' hI3 hs hk
     have h1:=hk (w.heap.size+1) (.inr rfl)
     rw[xU (hlt hl1)]at h1
     have h2:=hk w.heap.size (.inl rfl)
     rw[zQ (by omega),hd1]at h2
     refine⟨h1,.inl ⟨rfl,hRst _ _ _ (ya (.inr rfl)) hI3.1,hst _ _ _ (hT i _ _ (ya (.inr rfl))) hI3.2,xU (hlt h1),?_⟩⟩
     rw[zQ (by omega)];exact h2
    ·intro c w'' hD hs hk
     have h1:=hk (w.heap.size+1) (.inr rfl)
     rw[xU (hlt hl1)]at h1
     have h2:=hk w.heap.size (.inl rfl)
     rw[zQ (by omega),hd1]at h2
     refine⟨h1,.inr ⟨rfl,c,hDst _ _ _ (ya (.inr rfl)) hD,xU (hlt h1),?_⟩⟩
     rw[zQ (by omega)];exact h2)
  have:=hY (tv i) w' Q hl hb;rw[htv i hi]at this;obtain⟨fn,tmps,asg,bd,h1,h2⟩:=this;refine⟨fn,tmps,asg,bd,h1,RoundIn.mono h2 ?_⟩;rintro(v|c|_) w2 he
  ·obtain⟨b,rfl,⟨rfl,hh1,hh2,hh3,hh4⟩|⟨rfl,hh⟩⟩:=he
   ·exact .inl ⟨rfl,hh1,hh2,by rw[hTk i _ _ (by omega)];exact hh3,by rw[hTk i _ _ (by omega)];exact hh4⟩
   ·exact .inr ⟨rfl,hh⟩
  ·exact he
  ·exact he
 ·rintro(v|c|_) w3 he
  ·rcases he with ⟨hI,hl,hd⟩|⟨c,hD,hl,hd⟩
   ·refine⟨.ready,none,by simp,hl,hdone _ (hst _ _ _ (ya (.inr rfl)) hI) (by rw[xD];have:=hlt hl;omega) ?_⟩;rw[zQ (by omega)];exact hd
   ·refine⟨.done,some c,by simp,hl,hjump c _ (hDst _ _ _ (ya (.inr rfl)) hD) (by rw[xD];have:=hlt hl;omega) ?_⟩;rw[zQ (by omega)];exact hd
  ·exact he
  ·exact he
def znD (P:Program) (v:Value) (L:List (List Value)) (R:WP):Prop:=znC P v L (fun _=>R) (fun _ w=>w)
theorem yY.ext {a:Nat} {w0 w w':World} (h:yY a (a+1) w w') (he:Ext w0 w) (ha:w0.heap.size<=a):Ext w0 w':=by
 obtain⟨h1,h2,h3,h4,h5⟩:=h;exact⟨h1.trans he.os,h2.trans he.tape,h3.trans he.output,by have:=he.size;omega,fun k hk=>(h5 k (by omega) (by omega)).trans (he.block k hk)⟩
theorem yY.blk {a r:Nat} {w w':World} {cs:List Value} {t:TypeId} (h:yY a (a+1) w w') (hb:Blk w r cs t) (hr:r<a):Blk w' r cs t:=
 (h.2.2.2.2 r (by omega) (by omega)).trans hb
theorem yY.size {a b:Nat} {w w':World} (h:yY a b w w'):w'.heap.size=w.heap.size:=h.2.2.2.1
theorem Blk.at_ {w w':World} {r:Nat} {cs:List Value} {t:TypeId} (hb:Blk w r cs t) (h:w'.heap[r]?=w.heap[r]?):Blk w' r cs t:=h.trans hb
end V
/- Contracts of the package device:Read,Image,Pending,Geo. -/
namespace V
open Go Go.Proofs Go.RowKit Crc
theorem xp.ext {w w':World} {b:Nat} {d:Dev} {F:Nat->Prop} (h:xp w b d F) (k:Ext w w'):xp w' b d F:=
 h.apart (G:=fun _=>False) (Only.zG k) (fun _ _ h=>h)
abbrev w00:Int×ByteArray:=(0,ByteArray.empty)
def zhd (r1:Nat) (A:Option Addr) (n c:Nat) (ps:List (Int×ByteArray)):WP:=fun w=>Blk w r1 [.slice A n c] 159/\Sli vf w A n ps
def zcs (ps:List (Int×ByteArray)):List (List Value):=(List.range ps.length).map fun i=>[.int .i64 ((ps.length-1-i:Nat):Int),.agg #[.int .i64 (ps.getD (ps.length-1-i) w00).1,.string (ps.getD (ps.length-1-i) w00).2]]
theorem vR (ps:List (Int×ByteArray)):(zcs ps).length=ps.length:=by simp[zcs]
theorem zhe {w:World} {A:Option Addr} {n c:Nat} {ps:List (Int×ByteArray)} (h:Sli vf w A n ps):
  Calls prog 208 #[.slice A n c] w (Ret fun v w'=>znD prog v (zcs ps) (zhd w.heap.size A n c ps)/\zhd w.heap.size A n c ps w'/\w'.heap.size=w.heap.size+1/\Ext w w'):=by
 apply zmF;unfold S208;apply yE;have he:=(Ext.refl w).alloc (.cells #[.slice A n c] 159);refine⟨⟨_,_,rfl,by kernel_rfl,fun l J E w' hJ hR hd hY=>?_⟩,⟨Blk.new w #[.slice A n c] 159,h.ext he⟩,by simp,he⟩;apply zmM;unfold S219;rw[vR];obtain⟨h1,h2⟩:=hR 0 w' hJ;have hl:=h2.len;have hle:=h2.le;refine zo (x:=(A,n,c)) h1 (by rfl) ?_;dsimp only;rw[wrap_i64 (by omega) (by omega)];refine zu (fun y w'=>∃ i:Nat,i<=n/\y=((n:Int)-1-i,())/\J i w') (fun y=>(y.1+1).toNat) ⟨0,by omega,by simp,hJ⟩ ?_;rintro _ w1 ⟨i,hi,rfl,hJ⟩;dsimp only
 by_cases hlt:i<n
 ·refine zf (decide_eq_true (by omega)) ?_;obtain⟨h1,h2⟩:=hR i w1 hJ;refine zo (x:=(A,n,c)) h1 (by rfl) ?_;dsimp only;refine vM (ls:=[.int .i64,.str]) (fun x:Int×ByteArray=>(x.1,x.2,())) w00 h2 (fun _=>rfl) rfl (by omega) (by omega) ?_;have hlt':i<(zcs ps).length:=by rw[vR];omega
  refine .inr ⟨l,rfl,?_⟩;have hy:=hY i w1 hlt' hJ;have el:(zcs ps)[i]=[.int .i64 ((n:Int)-1-i),.agg #[.int .i64 (ps.getD (Int.toNat ((n:Int)-1-i)) w00).1,.string (ps.getD (Int.toNat ((n:Int)-1-i)) w00).2]]:=by
   have e1:((ps.length-1-i:Nat):Int)=(n:Int)-1-i:=by omega
   have e2:Int.toNat ((n:Int)-1-i)=ps.length-1-i:=by omega
   rw[e2,<- e1];simp[zcs]
  rw[el]at hy;obtain⟨fn,tmps,asg,bd,hy1,hy2⟩:=hy;refine⟨fn,tmps,asg,bd,hy1,RoundIn.mono hy2 ?_⟩;rintro(v|x|_) w2 hv
  ·rcases hv with ⟨rfl,_,hJ2⟩|⟨rfl,hE⟩
   ·refine⟨true,rfl,zd (by rfl) ?_⟩;rw[wrap_i64 (by omega) (by omega)];exact⟨⟨i+1,by omega,by congr 1;omega,hJ2⟩,by omega⟩
   ·exact⟨false,rfl,zf (by rfl) (.inr hE)⟩
  ·exact hv
  ·exact hv
 ·refine zd (decide_eq_false (by omega)) ?_;obtain rfl:i=n:=by omega
  rw[hl];exact .inl hJ
theorem zhf {w:World} {b:Nat} {d:Dev} {F:Nat->Prop} (h:xp w b d F):
  Calls prog 173 #[.pointer (some ⟨b,0,none⟩)] w (Ret fun v w'=>∃ A n c,znD prog v (zcs d.pen) (zhd w.heap.size A n c d.pen)/\zhd w.heap.size A n c d.pen w'/\w'.heap.size=w.heap.size+1/\Ext w w'):=by
 obtain⟨Ad,Ap,nd,cd,np,cp,t,hb,hd,hp,hF,h1,h2,h3⟩:=h.mem;apply zmp;unfold S173;refine zp (zk 3 (Ap,np,cp) hb (by rfl) ?_);refine zb (zhe hp.sl) ?_;rintro v w1 hw;exact⟨v,rfl,Ap,np,cp,hw⟩
theorem getD_set (l:List ByteArray) (i k:Nat) (x e:ByteArray):(l.set i x).getD k e=if i=k/\k<l.length then x else l.getD k e:=by
 rw[getD_eq_getElem?_getD,getD_eq_getElem?_getD,List.getElem?_set]
 by_cases hik:i=k
 ·subst hik
  by_cases hk:i<l.length
  ·simp[hk]
  ·simp[hk]
 ·rw[if_neg hik,if_neg (fun h=>hik h.1)]
theorem zct {k:Int} (hk:0<=k) {e:ByteArray}:∀ (l:List (Int×ByteArray)) (dur:List ByteArray),(∀ p∈l,0<=p.1)->(∀ p∈l,p.1≠k)->(l.foldl Go.Proofs.YtplgodmmmppmeaaGreat.V.put dur).getD k.toNat e=dur.getD k.toNat e
 |[],_,_,_=>rfl
 |p::r,dur,h0,h=>by
  rw[foldl_cons,zct hk r _ (fun q hq=>h0 q (mem_cons_of_mem _ hq)) (fun q hq=>h q (mem_cons_of_mem _ hq))];have h1:=h0 p mem_cons_self;have h2:=h p mem_cons_self;unfold Go.Proofs.YtplgodmmmppmeaaGreat.V.put;rw[getD_set,if_neg (by omega)]
theorem zkN {k:Int} (hk:0<=k) {e:ByteArray} {l:List (Int×ByteArray)} {dur:List ByteArray} {j:Nat} (h0:∀ p∈l,0<=p.1) (hj:j<l.length) (hkl:k.toNat<dur.length) (he:(l.getD j w00).1=k) (hno:∀ i,j<i->i<l.length->(l.getD i w00).1≠k):
  (l.foldl Go.Proofs.YtplgodmmmppmeaaGreat.V.put dur).getD k.toNat e=(l.getD j w00).2:=by
 have e1:l=l.take j++l.getD j w00::l.drop (j+1):=by
  rw[getD_eq_getElem?_getD,List.getElem?_eq_getElem hj,Option.getD_some,<- drop_eq_getElem_cons hj,List.take_append_drop]
 generalize hq:l.getD j w00=q at e1 he ⊢;have hd:∀ p∈l.drop (j+1),p.1≠k:=by
  intro p hp;obtain⟨i,hi,rfl⟩:=mem_iff_getElem.1 hp;rw[length_drop]at hi;have:=hno (j+1+i) (by omega) (by omega);rw[getD_eq_getElem?_getD,List.getElem?_eq_getElem (by omega),Option.getD_some]at this
  simpa using this
 rw[e1,List.foldl_append,foldl_cons,zct hk _ _ (fun p hp=>h0 p (List.mem_of_mem_drop hp)) hd];unfold Go.Proofs.YtplgodmmmppmeaaGreat.V.put;have hl:=zab (l.take j) dur;unfold Go.Proofs.YtplgodmmmppmeaaGreat.V.put at hl;rw[getD_set,he,if_pos ⟨rfl,by rw[hl];exact hkl⟩]
theorem zjG {w:World} {b:Nat} {d:Dev} {F:Nat->Prop} (h:xp w b d F) (k:Int):
  Calls prog 137 #[.pointer (some ⟨b,0,none⟩),.int .i64 k] w (Ret fun v w'=>v=.tuple #[.string (d.read k).1,.int .i64 (d.read k).2]/\Ext w w'):=by
 apply zl3;unfold S137 Dev.read;refine zs fun r1 w1 hb1 he1 hr1 hz1=>?_;refine zs fun r2 w2 hb2 he2 hr2 hz2=>?_;refine zs fun r3 w3 hb3 he3 hr3 hz3=>?_;have hb1:=(hb1.ext he2).ext he3;have hb2:=hb2.ext he3;have he:=(he1.trans he2).trans he3;refine zd (by rfl) ?_;refine zo (x:=k) hb1 (by rfl) ?_;have hD:=h.ext he;refine zb (zds hD k) ?_;rintro _ w4 ⟨rfl,hw⟩;refine⟨_,rfl,?_⟩;obtain rfl:w3=w4:=hw.symm;refine zg (fun hz=>?_) (fun hz=>?_)
 ·have hz:¬(0<=k/\k<d.blocks):=of_decide_eq_false (show d.there k=false by simpa using hz);rw[if_pos hz];refine zU hb2 (by show 0<1;omega) ?_;have hb3':=hb3.other (p:=⟨r2,0,none⟩) (by show r2≠r3;omega) (.string (ByteArray.mk #[]));refine zU hb3' (by show 0<1;omega) ?_;have hb2':=(hb2.set 0 (.string (ByteArray.mk #[]))).other (p:=⟨r3,0,none⟩) (by show r3≠r2;omega) (.int .i64 2);have hb3'':=hb3'.set 0 (.int .i64 2);refine zo (x:=ByteArray.mk #[]) hb2' (by rfl) (zo (x:=(2:Int)) hb3'' (by rfl) ?_);exact⟨rfl,(he.set (by show w.heap.size<=r2;omega) _).set (by show w.heap.size<=r3;omega) _⟩
 have hth:0<=k/\k<d.blocks:=of_decide_eq_true (show d.there k=true by simpa using hz);rw[if_neg (fun x=>x hth)];have hok:=h.ok;have hlen:=hok.len;have h0:∀ p∈d.pen,0<=p.1:=fun p hp=>(hok.pend p hp).1;refine zb (zhf hD) ?_;rintro v w4 ⟨A,n,c,hit,hRL,hs4,he4⟩;refine⟨v,rfl,?_⟩;have hr4:=hRL.1.lt
 let G:World->Prop:=fun w'=>Ext w w'/\Blk w' r1 [.int .i64 k] 3/\zhd w3.heap.size A n c d.pen w'/\w4.heap.size<=w'.heap.size
 have hG4:G w4:=⟨he.trans he4,hb1.ext he4,hRL,Nat.le_refl _⟩;have hGext:∀ {w' w'':World},G w'->Ext w' w''->G w'':=fun hg hx=>⟨hg.1.trans hx,hg.2.1.ext hx,⟨hg.2.2.1.1.ext hx,hg.2.2.1.2.ext hx⟩,Nat.le_trans hg.2.2.2 hx.size⟩;have hsame:∀ {w' w'':World},yY w4.heap.size (w4.heap.size+1) w' w''->G w'->G w'':=fun hs hg=>by
  have hx:=hs.ext hg.1 (by have:=he4.size;omega);obtain⟨g1,g2,g3,g4⟩:=hg;refine⟨hx,hs.blk g2 (by omega),⟨hs.blk g3.1 (by omega),?_⟩,by rw[hs.size];exact g4⟩;obtain⟨s1,s2,s3⟩:=g3.2;obtain⟨t1,t2,t3⟩:=hRL.2;refine⟨s1,s2,fun hn=>?_⟩;obtain⟨a,e1,e2,e3⟩:=t3 hn;refine⟨a,e1,e2,fun j v hj=>?_⟩;have hc:=e3 j v hj;have hab:(a.add j).block=a.block:=by unfold Addr.add;split<;>rfl
  have hlt:=World.block_lt_of_cell? w4 _ hc;obtain⟨a',e1',e2',e3'⟩:=s3 hn;obtain rfl:a'=a:=by rw[e1]at e1';exact(Option.some.inj e1').symm
  have hc':=e3' j v hj;unfold World.cell? at hc' ⊢;rw[hs.2.2.2.2 _ (by omega) (by omega)];exact hc'
 have hp0:∀ j,j<d.pen.length->d.pen[j]?=some (d.pen.getD j w00):=fun j hj=>by rw[getD_eq_getElem?_getD,List.getElem?_eq_getElem hj];rfl
 refine zm0 (fun i w'=>G w'/\Blk w' r2 [.string ByteArray.empty] 9/\Blk w' r3 [.int .i64 0] 28/\∀ j,d.pen.length-i<=j->j<d.pen.length->(d.pen.getD j w00).1≠k)
  (fun c w'=>c=.ret/\Ext w w'/\∃ s,Blk w' r2 [.string s] 9/\Blk w' r3 [.int .i64 0] 28/\s=(d.pen.foldl Go.Proofs.YtplgodmmmppmeaaGreat.V.put d.dur).getD k.toNat ByteArray.empty)
  (fun i=>(((d.pen.length-1-i:Nat):Int),((d.pen.getD (d.pen.length-1-i) w00).1,(d.pen.getD (d.pen.length-1-i) w00).2,()),())) ?_ hit ?_ ?_ ?_ ?_ ?_ ?_ ?_ ?_ ?_ ?_ ?_
 ·intro i hi;simp[zcs]
 ·intro i w' hI;exact hI.1.2.2.1
 ·intro i w' hI;exact⟨hGext hI.1 ((Ext.refl _).drew),hI.2.1,hI.2.2.1,hI.2.2.2⟩
 ·intro i w' w'' hs hI;exact⟨hsame hs hI.1,hs.blk hI.2.1 (by omega),hs.blk hI.2.2.1 (by omega),hI.2.2.2⟩
 ·intro i w' w'' hs hR;refine⟨hs.blk hR.1 (by omega),?_⟩;obtain⟨s1,s2,s3⟩:=hR.2;obtain⟨t1,t2,t3⟩:=hRL.2;refine⟨s1,s2,fun hn=>?_⟩;obtain⟨a,e1,e2,e3⟩:=t3 hn;refine⟨a,e1,e2,fun j v hj=>?_⟩;have hc:=e3 j v hj;have hlt:=World.block_lt_of_cell? w4 _ hc;obtain⟨a',e1',e2',e3'⟩:=s3 hn;obtain rfl:a'=a:=by rw[e1]at e1';exact(Option.some.inj e1').symm
  have hc':=e3' j v hj;unfold World.cell? at hc' ⊢;rw[hs.2.2.2.2 _ (by omega) (by omega)];exact hc'
 ·rintro c w' w'' hs ⟨rfl,hx,s,g1,g2,g3⟩;exact⟨rfl,hs.ext hx (by have:=he4.size;have:=he.size;omega),s,hs.blk g1 (by omega),hs.blk g2 (by omega),g3⟩
 ·intro i w' w'' hs;exact hs
 ·intro i w' k hk;rfl
 ·intro o;have hx:Ext w4 ((w4.alloc (.deferred (some []))).alloc o):=((Ext.refl w4).alloc _).alloc _;exact⟨hGext hG4 hx,(hb2.ext he4).ext hx,(hb3.ext he4).ext hx,fun j hj hj2=>by omega⟩
 ·intro i hi w' G' N jump hI hsz hG';rw[vR]at hi;obtain⟨hI1,hI2,hI3,hI4⟩:=hI;dsimp only;refine yt (vs:=vf.f (d.pen.getD (d.pen.length-1-i) w00)) (by rfl) (vf.one _) ?_ (by rfl);intro r17 w5 hb17 he5 hr17;have hk5:∀ k:Nat,k=w4.heap.size\/k=w4.heap.size+1->w5.heap[k]?=w'.heap[k]?:=fun k hk=>he5.block k (by omega);refine hG' _ w5 ⟨hGext hI1 he5,hI2.ext he5,hI3.ext he5,hI4⟩ he5.size hk5 ?_;intro w6 hI6 hsz6 hk6 hN hJ;obtain⟨hI1,hI2,hI3,hI4⟩:=hI6;have hb17:=hb17.at_ (hk6 r17 (by omega) (by omega));have hb17lt:=hb17.lt;refine zo (x:=(d.pen.getD (d.pen.length-1-i) w00).1) hb17 (by rfl) ?_;refine zo (x:=k) hI1.2.1 (by rfl) ?_;refine zg (fun hz=>?_) (fun hz=>?_)
  ·have hz:=beq_iff_eq.1 hz;refine zk 1 (d.pen.getD (d.pen.length-1-i) w00).2 hb17 (by rfl) ?_;refine zU hI2 (by show 0<1;omega) ?_;have hb3':=hI3.other (p:=⟨r2,0,none⟩) (by show r2≠r3;omega) (.string (d.pen.getD (d.pen.length-1-i) w00).2);refine zU hb3' (by show 0<1;omega) ?_;have hb2':=(hI2.set 0 (.string (d.pen.getD (d.pen.length-1-i) w00).2)).other (p:=⟨r3,0,none⟩) (by show r3≠r2;omega) (.int .i64 0);have hb3'':=hb3'.set 0 (.int .i64 0);refine hJ .ret _ ⟨rfl,(hI1.1.set (by show w.heap.size<=r2;omega) _).set (by show w.heap.size<=r3;omega) _,_,hb2',hb3'',?_⟩ (by simp) (fun k hk=>?_)
   ·refine(zkN hth.1 h0 (by omega) (by omega) hz (fun j hj hj2=>hI4 j (by omega) hj2)).symm
   ·rw[Below.heap_setCell _ _ _ _ (by show k≠r3;omega),Below.heap_setCell _ _ _ _ (by show k≠r2;omega)]
  ·have hz:=beq_eq_false_iff_ne.1 hz;refine hN w6 ⟨hI1.2.2.1,hI1,hI2,hI3,fun j hj hj2=>?_⟩ (Nat.le_refl _) (fun _ _=>rfl)
   by_cases hjj:j=d.pen.length-1-i
   ·rw[hjj];exact hz
   ·exact hI4 j (by omega) hj2
 ·rintro w' ⟨hI1,hI2,hI3,hI4⟩ hsz hdf;rw[vR]at hI4;rw[jw];refine zK fun w5 he5 hs5 hk5=>?_;have hx:Ext w w5:=hI1.1.trans he5;obtain⟨Ad,Ap,nd,cd,np,cp,t,hb,hd,hp,hF,g1,g2,g3⟩:=(h.ext hx).mem;have hdl:=hd.len;refine zp (zk 2 (Ad,nd,cd) hb (by rfl) (zo (x:=k) (hI1.2.1.ext he5) (by rfl) ?_));dsimp only;refine ziZ hd.sl hth.1 (by omega) ?_;have hI2:=hI2.ext he5;have hI3:=hI3.ext he5;refine zU hI2 (by show 0<1;omega) ?_;have hb3':=hI3.other (p:=⟨r2,0,none⟩) (by show r2≠r3;omega) (.string (d.dur.getD k.toNat ByteArray.empty));refine zU hb3' (by show 0<1;omega) ?_;have hb2':=(hI2.set 0 (.string (d.dur.getD k.toNat ByteArray.empty))).other (p:=⟨r3,0,none⟩) (by show r3≠r2;omega) (.int .i64 0);have hb3'':=hb3'.set 0 (.int .i64 0);have hx2:=(hx.set (p:=⟨r2,0,none⟩) (by show w.heap.size<=r2;omega) (.string (d.dur.getD k.toNat ByteArray.empty))).set (p:=⟨r3,0,none⟩) (by show w.heap.size<=r3;omega) (.int .i64 0);refine jL ?_ ?_
  ·rw[Below.heap_setCell _ _ _ _ (by show w4.heap.size≠r3;omega),Below.heap_setCell _ _ _ _ (by show w4.heap.size≠r2;omega),hk5];exact hdf
  have hsb:=ya (a:=w4.heap.size) (b:=w4.heap.size+1) (w:=(w5.setCell ⟨r2,0,none⟩ (.string (d.dur.getD k.toNat ByteArray.empty))).setCell ⟨r3,0,none⟩ (.int .i64 0)) (o:=.deferred none) (.inl rfl);refine zo (x:=d.dur.getD k.toNat ByteArray.empty) (hsb.blk hb2' (by omega)) (by rfl) (zo (x:=(0:Int)) (hsb.blk hb3'' (by omega)) (by rfl) ?_);refine⟨?_,hsb.ext hx2 (by have:=he4.size;have:=he.size;omega)⟩;rw[zct hth.1 _ _ h0 (fun p hp=>?_)];obtain⟨j,hj,rfl⟩:=mem_iff_getElem.1 hp;have:=hI4 j (by omega) hj;rw[getD_eq_getElem?_getD,List.getElem?_eq_getElem hj]at this;exact this
 ·rintro c' w' ⟨rfl,hx,s,hb2',hb3',rfl⟩ hsz hdf;rw[jw];refine jL hdf ?_;have hsb:=ya (a:=w4.heap.size) (b:=w4.heap.size+1) (w:=w') (o:=.deferred none) (.inl rfl);refine zo (x:=(d.pen.foldl Go.Proofs.YtplgodmmmppmeaaGreat.V.put d.dur).getD k.toNat ByteArray.empty) (hsb.blk hb2' (by omega)) (by rfl) (zo (x:=(0:Int)) (hsb.blk hb3' (by omega)) (by rfl) ?_);exact⟨rfl,hsb.ext hx (by have:=he4.size;have:=he.size;omega)⟩
end V
/- Contracts of the package device:Image,Pending,Geo,New,Load,Rot. -/
namespace V
open Go Go.Proofs Go.RowKit Crc
theorem zcu:Elem prog 158 9 (.string ByteArray.empty) 16:=⟨by kernel_rfl,by kernel_rfl,by kernel_rfl⟩
theorem vY {w:World} {b:Nat} {d:Dev} {F:Nat->Prop} (h:xp w b d F):
  Calls prog 35 #[.pointer (some ⟨b,0,none⟩)] w (Ret fun v w'=>v=.agg #[.int .i64 d.size,.int .i64 d.blocks]/\Ext w w'):=by
 apply zoi;unfold S35;refine zs fun r1 w1 hb1 he1 hr1 hz1=>?_;obtain⟨Ad,Ap,nd,cd,np,cp,t,hb,hd,hp,hF,h1,h2,h3⟩:=(h.ext he1).mem;refine zd (by rfl) (zp ?_);refine qC (ls:=[.int .i64,.int .i64]) (x:=(d.size,d.blocks,())) ⟨by rw[zx,hb.cell];rfl,by rw[zx,hb.cell];rfl,trivial⟩ ?_;refine refill (vs:=[.int .i64 d.size,.int .i64 d.blocks]) hb1 (by rfl) (by intro v hv;simp at hv;rcases hv with rfl|rfl<;>rfl) (by rfl) ?_;intro w2 hb2 hx2 hk2 hs2;refine zR (ls:=[.int .i64,.int .i64]) (d.size,d.blocks,()) hb2 rfl ?_;exact⟨rfl,hx2 w he1 (by omega)⟩
theorem zkO (w:World) (x y:Nat) (hx:x<18446744073709551616) (hy:y<18446744073709551616):Calls prog 158 #[.int .u64 x,.int .u64 y] w (Ret fun v w'=>v=.tuple #[.int .u64 ((x*y / 18446744073709551616:Nat):Int),.int .u64 ((x*y % 18446744073709551616:Nat):Int)]/\w'=w):=
 (Tryz.bits_Mul x y hx hy w).mono (by rintro e w' ⟨rfl,h⟩;exact⟨rfl,h⟩)
theorem zm1 {s z:ByteArray} {n c:Nat} (hn:n<=c) {m:Nat} (hm:m=min n (c-n)):
  (xM.flat (List.replicate n s++List.replicate (c-n) z)).take n++((xM.flat (List.replicate n s)).take m)++(xM.flat (List.replicate n s++List.replicate (c-n) z)).drop (n+m)=xM.flat (List.replicate (n+m) s++List.replicate (c-(n+m)) z):=by
 simp only [qw,map_append,List.map_replicate];rw[take_left' (by simp),List.drop_append,List.take_replicate,List.drop_replicate,List.drop_replicate,show min m n=m by omega,show n-(n+m)=0 by omega,List.replicate_zero,List.nil_append,length_replicate,
  List.replicate_append_replicate,show c-n-(n+m-n)=c-(n+m) by omega]
theorem zkP {w:World} {A:Option Addr} {c k:Nat} {s:ByteArray} (h:Sli xM w A 1 [s]) (h1:1<=k) (hk:k<=1000000):
  Calls prog 112 #[.slice A 1 c,.int .i64 (k:Int)] w (Ret fun v w'=>∃ A',v=.slice A' k k/\Owni xM 9 w' w.heap.size A' k k (List.replicate k s)/\Ext w w'):=by
 apply zlN;unfold S112;refine ziW fun J hJ=>zd (decide_eq_false (by omega)) (hJ () _ ?_);rw[zz (by omega),zz (by omega)];refine zb (zkO w 1 k (by omega) (by omega)) ?_;rintro _ w1 ⟨rfl,hw⟩;subst hw;rw[Nat.one_mul,Nat.div_eq_of_lt (by omega),Nat.mod_eq_of_lt (by omega)];refine⟨((0:Nat),(k:Nat),()),rfl,?_⟩;dsimp only;refine ziW fun J hJ=>zd (by rfl) (zd (decide_eq_false (by omega)) (hJ () _ ?_));rw[wrap_i64 (by omega) (by omega)];refine uQ (z:=.string ByteArray.empty) zcu (by rfl) (Nat.le_refl _) (by omega) (by omega) ?_;intro w2 ho2 hg2;have he2:Ext w1 w2:=(Ext.refl w1).none hg2;have hb2:=zdV ho2;have e0:List.replicate k (Value.string ByteArray.empty)=xM.flat (List.replicate 0 s++List.replicate (k-0) ByteArray.empty):=by rw[qw];simp
 dsimp only;have hA:A≠none:=by
  obtain⟨a,h2,_⟩:=h.2.2 (by omega);rw[h2];simp
 have hsl:Sl w2 A 1 [.string s]:=by
  obtain⟨p1,p2,p3⟩:=h.ext he2;exact⟨rfl,by omega,fun hn=>by obtain⟨a,q1,_,q2⟩:=p3 hn;exact⟨a,q1,q2⟩⟩
 refine zi5 (o:=0) (n:=k) zcu hb2 hsl (by intro y hy;simp at hy;subst hy;rfl) (by simp;omega) hA ?_;intro w3 hb3 hg3;have he3:Ext w1 w3:=he2.grown hg3 (fun j hj=>by injection hj with hj;omega);rw[show min 1 k=1 by omega]at hb3 ⊢;have hb3:Blk w3 w1.heap.size (xM.flat (List.replicate 1 s++List.replicate (k-1) ByteArray.empty)) 9:=by
  have e:List.take 0 (List.replicate k (Value.string ByteArray.empty))++List.take 1 [Value.string s]++List.drop (0+1) (List.replicate k (Value.string ByteArray.empty))=xM.flat (List.replicate 1 s++List.replicate (k-1) ByteArray.empty):=by
   rw[qw];simp
  rw[<- e];exact hb3
 refine zu (fun y w'=>∃ i:Nat,1<=i/\i<=k/\y=((i:Int),())/\Blk w' w1.heap.size (xM.flat (List.replicate i s++List.replicate (k-i) ByteArray.empty)) 9/\Ext w1 w') (fun y=>(k-y.1).toNat) ⟨1,by omega,h1,rfl,hb3,he3⟩ ?_;rintro _ w4 ⟨i,hi1,hi,rfl,hb4,he4⟩;dsimp only
 by_cases hlt:i<k
 ·refine zf (decide_eq_true (by omega)) ?_;refine zK fun w5 he5 _ _=>?_;have hb5:=hb4.ext he5;refine zE (by omega) (zE (by omega) ?_);rw[Int.toNat_natCast];have hcut:zn (some (⟨w1.heap.size,0,none⟩:Addr)) i k 1=some ⟨w1.heap.size,i,none⟩:=by
   unfold zn;rw[if_neg (by omega)];simp[zx]
  have hcut0:zn (some (⟨w1.heap.size,0,none⟩:Addr)) 0 k 1=some ⟨w1.heap.size,0,none⟩:=by
   unfold zn;rw[if_neg (by omega)];simp[zx]
  rw[hcut,hcut0];have hsl5:Sl w5 (some ⟨w1.heap.size,0,none⟩) i (xM.flat (List.replicate i s)):=by
   refine⟨by rw[qw];simp,by omega,fun _=>⟨_,rfl,fun j v hj=>?_⟩⟩;rw[zx,hb5.cell,Nat.zero_add,qw,map_append,List.getElem?_append_left (by rw[qw]at hj;exact(List.getElem?_eq_some_iff.1 hj).1),<- qw];exact hj
  refine zi5 (n:=k-i) zcu hb5 hsl5 (xM.zdS _) (by rw[qw];simp;omega) (by simp) ?_;intro w6 hb6 hg6;rw[zm1 (by omega) rfl]at hb6;refine⟨⟨i+min i (k-i),by omega,by omega,by rw[wrap_i64 (by omega) (by omega)];simp,hb6,(he4.trans he5).grown hg6 (fun j hj=>by injection hj with hj;omega)⟩,by rw[wrap_i64 (by omega) (by omega)];omega⟩
 ·obtain rfl:i=k:=by omega
  refine zd (decide_eq_false (by omega)) ?_;refine⟨_,rfl,kC ?_ (by simp) (by omega) (Nat.le_refl _),he4⟩
  simpa using hb4
end V
/- Contracts of the package device:New,Load,Rot. -/
namespace V
open Go Go.Proofs Go.RowKit Crc
def yH (n:Nat):ByteArray:=mkB (List.replicate n 0)
theorem zbv (n:Nat):(yH n).size=n:=by rw[yH,xb];simp
def zdY (size blocks:Int):Dev:=⟨size,blocks,List.replicate blocks.toNat (yH size.toNat),[],0,-1⟩
theorem zbw {size blocks:Int} (h:zZ size blocks=true):128<=size/\size<=4096/\size % 64=0/\8<=blocks/\blocks<=4096:=by
 unfold zZ at h;obtain⟨h1,h2,h3,h4,h5⟩:=of_decide_eq_true h;rw[Int.tmod_eq_emod_of_nonneg (by omega)]at h3;omega
theorem zi8 {size blocks:Int} (h:zZ size blocks=true):(zdY size blocks).Ok:=by
 have:=zbw h;refine⟨h,?_,?_,(fun p hp=>by cases hp),(by show(-1:Int)<=-1;omega),(by show(-1:Int)<9223372036854775808;omega)⟩
 ·show((List.replicate blocks.toNat (yH size.toNat)).length:Int)=blocks;rw[length_replicate];omega
 ·intro s hs;rw[(List.mem_replicate.1 hs).2,zbv];show((size.toNat:Nat):Int)=size;omega
def zhg (w:World) (d:Dev) (b:Nat) (w':World):Prop:=∃ F:Nat->Prop,xp w' b d F/\(∀ k,F k->w.heap.size<=k)/\Ext w w'
theorem zkQ {w:World} {b nd cd:Nat} {Ad:Option Addr} {t:TypeId} {d:Dev} (hb:Blk w b [.int .i64 d.size,.int .i64 d.blocks,.slice Ad nd cd,.slice none 0 0,.int .i64 d.ops,.int .i64 d.fuse] t)
  (hd:Owni xM 9 w 0 Ad nd cd d.dur) (hp:d.pen=[]) (hne:orow Ad≠some b) (hok:d.Ok):xp w b d (fun k=>k=b\/orow Ad=some k\/orow none=some k):=by
 refine⟨⟨Ad,none,nd,cd,0,0,t,hb,hd,?_,fun k=>Iff.rfl,hne,(fun e=>by cases e),(fun j hj e=>by cases e)⟩,hok⟩;rw[hp];exact Owni.nil _ _ _
theorem zpd (n:Nat):Lib.repeatL [0] n=List.replicate n (0:UInt8):=by
 induction n with
 |zero=>rfl
 |succ n ih=>rw[Lib.repeatL,ih,List.replicate_succ];rfl
theorem zjH (w:World) (size blocks:Int):
  Calls prog 68 #[.agg #[.int .i64 size,.int .i64 blocks]] w (Ret fun v w'=>(zZ size blocks=true/\∃ b,v=.tuple #[.pointer (some ⟨b,0,none⟩),.int .i64 0]/\zhg w (zdY size blocks) b w')\/(zZ size blocks=false/\v=.tuple #[.pointer none,.int .i64 2]/\Ext w w')):=by
 apply zoL;unfold S68;refine zs fun r1 w1 hb1 he1 hr1 hz1=>?_;have hb1:Blk w1 r1 [.int .i64 size,.int .i64 blocks] 72:=hb1;refine zR (ls:=[.int .i64,.int .i64]) (size,blocks,()) hb1 rfl ?_;refine zb (qx w1 size blocks) ?_;rintro _ w2 ⟨rfl,he2⟩;refine⟨_,rfl,?_⟩;have hb2:=hb1.ext he2;cases hok:zZ size blocks with
 |false=>exact zf (by rfl) (.inr ⟨rfl,rfl,he1.trans he2⟩)
 |true=>
  have hg:=zbw hok;refine zd (by rfl) ?_;refine zK fun w3 he3 _ _=>?_;have hb3:=hb2.ext he3;refine zR (ls:=[.int .i64,.int .i64]) (size,blocks,()) hb3 rfl ?_;refine zC size hb3 (by rfl) (zk 1 blocks hb3 (by rfl) ?_);have hr:=Tryz.strings_Repeat (ByteArray.mk #[0]) size.toNat w3 (by omega) (by show 1*size.toNat<=_;omega);rw[Int.toNat_of_nonneg (by omega),show(ByteArray.mk #[0]).data.toList=[0] from rfl,zpd]at hr;refine zb (R:=fun v w'=>v=.string (yH size.toNat)/\Ext w3 w') (hr.mono (by rintro e w' ⟨rfl,h⟩;exact⟨rfl,h⟩)) ?_;rintro _ w4 ⟨rfl,he4⟩;refine⟨_,rfl,?_⟩;have hb4:=hb3.ext he4;refine jo (yF hb4 (by rfl)) (uF hb4) ?_;refine zs fun r8 w5 hb8 he5 hr8 hz8=>?_;have hb5:=hb4.ext he5;refine jo (yF hb5 (by rfl)) (uF hb5) ?_;have hs8:Sli xM w5 (some ⟨r8,0,none⟩) 1 [yH size.toNat]:=Sli.xX (E:=xM) (xs:=[yH size.toNat]) hb8 rfl (by omega);have hrep:=zkP (c:=1) (k:=blocks.toNat) hs8 (by omega) (by omega);rw[Int.toNat_of_nonneg (by omega)]at hrep;refine zb hrep ?_;rintro _ w6 ⟨A,rfl,ho,he6⟩;refine⟨(A,_,_),rfl,?_⟩;have hb6:=hb5.ext he6;refine xz (uF hb6) ?_;refine zs fun r10 w7 hb10 he7 hr10 hz10=>?_;have hb10:Blk w7 r10 [.int .i64 size,.int .i64 blocks,.slice A blocks.toNat blocks.toNat,.slice none 0 0,.int .i64 0,.int .i64 (-1)] 163:=hb10;have hall:=((((((he1.trans he2).trans he3).trans he4).trans he5).trans he6).trans he7);have hpre:=(((((he1.trans he2).trans he3).trans he4).trans he5));have hlt:∀ j,orow A=some j->j<w6.heap.size:=ho.yg;refine .inl ⟨rfl,r10,rfl,_,zkQ (d:=zdY size blocks) hb10 ((ho.ext he7).lower (Nat.zero_le _)) rfl (fun e=>by have:=hlt _ e;omega) (zi8 hok),?_,hall⟩;rintro k (rfl|hk|hk)
  ·have:=(hpre.trans he6).size;omega
  ·have:=ho.row k hk;have:=hpre.size;omega
  ·cases hk
end V
/- Contracts of the package frame,and of the document's answer (4). -/
namespace V
open Go Go.Proofs Go.RowKit Crc
abbrev fLs:List Lf:=[.int .u8,.int .u64,.str]
theorem zm2 {w:World} {r:Nat} {cs:List Value} {t:TypeId} {f:Fra} {K:(Int×Int×ByteArray×Unit)->WP} {us:Array Value} (hb:Blk w r cs t) (hl:cs.length=3) (hu:us.size=3)
  (hK:∀ w',Blk w' r (fV f) t->(∀ w0,Ext w0 w->w0.heap.size<=r->Ext w0 w')->(∀ k:Nat,k≠r->w'.heap[k]?=w.heap[k]?)->w'.heap.size=w.heap.size->K (fT f) w'):
  (zc (us.size=3)<|zt (aD r) (fV f)<|zl fLs (aD r) K) w:=
 refill (vs:=fV f) hb (by rw[hl];rfl) (zkJ f) hu fun w' hb' hx hs hz=>zR (ls:=fLs) (fT f) hb' rfl (hK w' hb' hx hs hz)
theorem zqv {w:World} {r:Nat} {t:TypeId} {f:Fra} {K:(Int×Int×ByteArray×Unit)->WP} (hb:Blk w r (fV f) t)
  (hK:∀ w',(∀ w0,Ext w0 w->w0.heap.size<=r->Ext w0 w')->K (fT f) w'):
  (zl fLs (aD r) fun(u:Int×Int×ByteArray×Unit)=>zc ((#[(.int .u8 u.1),(.int .u64 u.2.1),(.string u.2.2.1)]:Array Value).size=3)<|zt (aD r) [(.int .u8 u.1),(.int .u64 u.2.1),(.string u.2.2.1)]<|zl fLs (aD r) K) w:=
 zR (ls:=fLs) (fT f) hb rfl (zm2 (f:=f) hb rfl rfl fun w' _ hx _ _=>hK w' hx)
theorem boxed {w:World} {t:TypeId} {f:Fra} {K:Nat->WP} (hK:∀ r w',Blk w' r (fV f) t->Ext w w'->w.heap.size<=r->K r w'):
  (zi (.cells #[(.int .u8 (0:Int)),(.int .u64 (0:Int)),(.string ByteArray.empty)] t) fun r=>zc ((#[(.int .u8 (fT f).1),(.int .u64 (fT f).2.1),(.string (fT f).2.2.1)]:Array Value).size=3)<|zt (aD r) [(.int .u8 (fT f).1),(.int .u64 (fT f).2.1),(.string (fT f).2.2.1)] (K r)) w:=
 yt (vs:=fV f) (by rfl) (zkJ f) (fun r w' hb he hr=>hK r w' hb he hr) (by rfl)
theorem zqj {w:World} {A:Option Addr} {n:Nat} {bs:List UInt8} {a:Addr} {K:WP} (h:Sl w A n (bV bs)) (hA:A=some a) (hn:0<n) (hK:K w):zr [[((a.add (Int.toNat (0:Int)*1)),(.int .u8 ((bs.getD 0 0).toNat:Int)))]] K w:=by
 refine⟨fun l hl p hp=>?_,hK⟩;simp only [mem_singleton]at hl;subst hl;simp only [mem_singleton]at hp;subst hp;have hl:=h.blen;obtain⟨a',e,hc⟩:=h.2.2 hn;rw[hA]at e;injection e with e
 subst e;have:=hc 0 (.int .u8 ((bs.getD 0 0).toNat:Int)) (by simp[bV,show 0<bs.length by omega]);exact this
structure Looks (w:World) (A:Option Addr) (n c:Nat) (bs:List UInt8):Prop where
 sl:Sl w A n (bV bs)
 nc:n<=c
 big:128<=n/\n<=4096
theorem Looks.body {w:World} {A:Option Addr} {n c:Nat} {bs:List UInt8} (h:Looks w A n c bs):Sl w (zn A 0 c 1) (n-4) (bV (bs.take (bs.length-4))):=by
 have:=h.sl.zfl (k:=n-4) (m:=c) (by have:=h.big;omega) (by have:=h.big;have:=h.nc;omega);rw[jm]at this;rw[h.sl.blen];exact this
theorem Looks.part {w:World} {A:Option Addr} {n c:Nat} {bs:List UInt8} (h:Looks w A n c bs) {l k:Nat} (hl:l+k<=n) (hk:0<k):Sl w (zn A l c 1) k (bV ((bs.drop l).take k)):=by
 have:=h.sl.cut (l:=l) (k:=k) (m:=c) (by omega) (by have:=h.nc;omega);rw[vC,jm]at this;exact this
theorem Looks.tail {w:World} {A:Option Addr} {n c:Nat} {bs:List UInt8} (h:Looks w A n c bs):Sl w (zn A (n-4) c 1) (n-(n-4)) (bV (bs.drop (bs.length-4))):=by
 have:=h.part (l:=n-4) (k:=n-(n-4)) (by have:=h.big;omega) (by have:=h.big;omega);have hl:=h.sl.blen;rw[take_of_length_le (by simp;have:=h.big;omega)]at this;rw[hl];exact this
theorem Looks.ext {w w':World} {A:Option Addr} {n c:Nat} {bs:List UInt8} (h:Looks w A n c bs) (he:Ext w w'):Looks w' A n c bs:=⟨h.sl.ext he,h.nc,h.big⟩
theorem zpU {bs:List UInt8} (h:zH bs.length=0):yk bs=(ui,2):=by unfold yk;rw[if_pos h]
theorem zpe {bs:List UInt8} (h:zH bs.length≠0) (h1:(crc (bs.take (bs.length-4))).toNat≠lev (bs.drop (bs.length-4))):yk bs=(ui,10):=by unfold yk;rw[if_neg h,if_pos h1]
theorem zpV {bs:List UInt8} (h:zH bs.length≠0) (h1:(crc (bs.take (bs.length-4))).toNat=lev (bs.drop (bs.length-4))) (h2:(lev ((bs.drop 2).take 2):Int)>zH bs.length):yk bs=(ui,4):=by unfold yk;rw[if_neg h,if_neg (by simp[h1]),if_pos h2]
theorem zpf {bs:List UInt8} (h:zH bs.length≠0) (h1:(crc (bs.take (bs.length-4))).toNat=lev (bs.drop (bs.length-4))) (h2:¬(lev ((bs.drop 2).take 2):Int)>zH bs.length) (h3:xy bs.length (xu bs)≠(bs,0)):yk bs=(ui,4):=by unfold yk;rw[if_neg h,if_neg (by simp[h1]),if_neg h2,if_neg h3]
theorem zpW {bs:List UInt8} (h:zH bs.length≠0) (h1:(crc (bs.take (bs.length-4))).toNat=lev (bs.drop (bs.length-4))) (h2:¬(lev ((bs.drop 2).take 2):Int)>zH bs.length) (h3:xy bs.length (xu bs)=(bs,0)):yk bs=(xu bs,0):=by unfold yk;rw[if_neg h,if_neg (by simp[h1]),if_neg h2,if_pos h3]
theorem zc4 {bs:List UInt8} (h:bs.length<=4):lev bs<4294967296:=by
 have:=jn bs;have:256 ^ bs.length<=256 ^ 4:=Nat.pow_le_pow_right (by omega) h;omega
theorem zjI (w:World) (s:ByteArray) (hs:s.size<=9223372036854775807):Calls prog 174 #[.string s] w (Ret fun v w'=>v=.tuple #[.agg (fV (yk (B s)).1).toArray,.int .i64 (yk (B s)).2]/\Ext w w'):=by
 apply zmq;unfold S174;have hsz:=zP s;refine zs fun r1 w1 hb1 he1 hr1 _=>?_;have hb1:Blk w1 r1 (fV ui) 127:=hb1;refine zb (jz w1 (s.size:Nat)) ?_;rintro _ w2 ⟨rfl,he2⟩;refine⟨_,rfl,?_⟩;have hb1:=hb1.ext he2;have he2:=he1.trans he2;have hr1':w.heap.size<=r1:=by omega
 have done:∀ {w':World} {f:Fra} {e:Int},Ext w w'->Blk w' r1 (fV f) 127->yk (B s)=(f,e)->
   (zl fLs (aD r1) fun(u:Int×Int×ByteArray×Unit)=>zc ((#[(.int .u8 u.1),(.int .u64 u.2.1),(.string u.2.2.1)]:Array Value).size=3)<|zt (aD r1) [(.int .u8 u.1),(.int .u64 u.2.1),(.string u.2.2.1)]<|zl fLs (aD r1) fun(u:Int×Int×ByteArray×Unit)=>fun w''=>Value.tuple #[(.agg #[(.int .u8 u.1),(.int .u64 u.2.1),(.string u.2.2.1)]),(.int .i64 e)]=.tuple #[.agg (fV (yk (B s)).1).toArray,.int .i64 (yk (B s)).2]/\Ext w w'') w':=fun {w' f e} he hb hg=>
  zqv hb fun w'' hx=>⟨by rw[hg];rfl,hx w he hr1'⟩
 rw[hsz]at hs ⊢;rcases uZ (B s).length with h0|⟨h0,h1,h2,hgeo⟩
 ·rw[h0];exact zf (by rfl) (done he2 hb1 (zpU h0))
 refine zd (by rw[beq_eq_false_iff_ne];omega) ?_;have hne:zH (B s).length≠0:=by omega
 refine vd (u:=.string) (e:=5) (by kernel_rfl) (by kernel_rfl) (by kernel_rfl) (by omega) ?_;intro c w3 hsl he3 hs3 hc;have hL:Looks w3 (some ⟨w2.heap.size,0,none⟩) s.size c (B s):=⟨hsl,hc,by omega⟩;rw[hsz]at hL;have hb1:=hb1.ext he3;have he3:=he2.trans he3;refine zK fun w4 he4 _ _=>?_;have hL:=hL.ext he4;have hb1:=hb1.ext he4;have he4:=he3.trans he4;dsimp only;rw[hsz];generalize hA:(some (⟨w2.heap.size,0,none⟩:Addr))=A at hL ⊢;rw[wrap_i64 (x:=((B s).length:Int)-4) (by omega) (by omega),show Int.toNat (((B s).length:Int)-4)=(B s).length-4 by omega];refine zE ⟨by omega,by omega⟩ (zE ⟨by omega,by omega⟩ ?_);refine zb (zfX hL.body) ?_;rintro _ w5 ⟨rfl,he5⟩;refine⟨_,rfl,?_⟩;have hL:=hL.ext he5;have hb1:=hb1.ext he5;have he5:=he4.trans he5;refine zb (ja hL.tail (by omega)) ?_;rintro _ w6 ⟨rfl,he6⟩;refine⟨_,rfl,?_⟩;have hL:=hL.ext he6;have hb1:=hb1.ext he6;have he6:=he5.trans he6;have hclt:=(crc ((B s).take ((B s).length-4))).isLt;rw[zz (by omega)];refine zg (fun hbad=>?_) (fun hok=>?_)
 ·have hbad:=bne_iff_ne.1 hbad;exact done he6 hb1 (zpe hne (fun e=>hbad (by rw[e])))
 have hok:(crc ((B s).take ((B s).length-4))).toNat=lev ((B s).drop ((B s).length-4)):=by have:=bne_eq_false_iff_eq.1 hok;omega
 refine zE ⟨by omega,by omega,by omega⟩ ?_;have hp2:=hL.part (l:=2) (k:=2) (by omega) (by omega);refine zb (ja (c:=c-Int.toNat 2) hp2 (by omega)) ?_;rintro _ w7 ⟨rfl,he7⟩;refine⟨_,rfl,?_⟩;have hL:=hL.ext he7;have hb1:=hb1.ext he7;have he7:=he6.trans he7;have hk:=zc4 (bs:=((B s).drop 2).take 2) (by simp;omega);rw[wrap_i64 (x:=(lev (((B s).drop 2).take 2):Int)) (by omega) (by omega)];refine zg (fun hbig=>?_) (fun hfit=>?_)
 ·exact done he7 hb1 (zpV hne hok (of_decide_eq_true hbig))
 have hfit:=of_decide_eq_false hfit;refine zK fun w8 he8 _ _=>?_;have hL:=hL.ext he8;have hb1:=hb1.ext he8;have he8:=he7.trans he8;refine zE ⟨by omega,by omega⟩ ?_;obtain⟨a,ha,hcell⟩:=hL.sl.2.2 (by omega);refine⟨a,ha,?_⟩;have h00:w8.cell? (a.add (Int.toNat (0:Int)*1))=some (.int .u8 (((B s).getD 0 0).toNat:Int)):=hcell 0 _ (by simp[bV,show 0<(B s).length by omega]);refine zaC (l:=.int .u8) (x:=(((B s).getD 0 0).toNat:Int)) h00 ?_;rw[wrap_i64 (x:=(12:Int)+_) (by omega) (by omega),show Int.toNat ((12:Int)+(lev (((B s).drop 2).take 2):Int))=12+lev (((B s).drop 2).take 2) by omega];refine zE ⟨by omega,by omega,by have:=hL.nc;omega⟩ (zE ⟨by omega,by omega,by omega⟩ ?_);have hp4:=hL.part (l:=4) (k:=8) (by omega) (by omega);refine zb (ja (c:=c-Int.toNat 4) hp4 (by omega)) ?_;rintro _ w9 ⟨rfl,he9⟩;refine⟨_,rfl,?_⟩;have hL:=hL.ext he9;have hb1:=hb1.ext he9;have he9:=he8.trans he9;refine zqj hL.sl ha (by omega) ?_;have ed:s.extract (Int.toNat 12) (12+lev (((B s).drop 2).take 2))=⟨(((B s).drop 12).take (lev (((B s).drop 2).take 2))).toArray⟩:=by
  apply jy;rw[xT];show((B s).drop 12).take _=_;rw[show Int.toNat 12=12 from rfl,Nat.add_sub_cancel_left,qo];rfl
 rw[ed];refine zm2 (f:=xu (B s)) hb1 rfl rfl ?_;intro w10 hb1 hx10 _ _;have he10:=hx10 w he9 hr1';refine zb (zbt w10 ((B s).length:Nat) (f:=xu (B s)) (zeP _)) ?_;rintro _ w11 ⟨rfl,he11⟩;refine⟨(⟨(xy (B s).length (xu (B s))).1.toArray⟩,(xy (B s).length (xu (B s))).2,()),rfl,?_⟩;have hb1:=hb1.ext he11;have he11:=he10.trans he11;dsimp only;have bad:xy (B s).length (xu (B s))≠(B s,0)->∀ {w':World},Blk w' r1 (fV (xu (B s))) 127->Ext w w'->
   (zc ((#[(.int .u8 (0:Int)),(.int .u64 (0:Int)),(.string ByteArray.empty)]:Array Value).size=3)<|zt (aD r1) [(.int .u8 (0:Int)),(.int .u64 (0:Int)),(.string ByteArray.empty)]<|zl fLs (aD r1) fun(u:Int×Int×ByteArray×Unit)=>fun w''=>Value.tuple #[(.agg #[(.int .u8 u.1),(.int .u64 u.2.1),(.string u.2.2.1)]),(.int .i64 4)]=.tuple #[.agg (fV (yk (B s)).1).toArray,.int .i64 (yk (B s)).2]/\Ext w w'') w':=fun hne2 {w'} hb he=>
  zm2 (f:=ui) hb rfl rfl fun w'' _ hx _ _=>⟨by rw[zpf hne hok hfit hne2];rfl,hx w he hr1'⟩
 refine zg (fun hz=>?_) (fun hz=>?_)
 ·have hz:=bne_iff_ne.1 hz;exact bad (fun e=>hz (by rw[e])) hb1 he11
 have hz:=bne_eq_false_iff_eq.1 hz;refine zg (fun hq=>?_) (fun hq=>?_)
 ·refine bad (fun e=>?_) hb1 he11;have:((⟨(xy (B s).length (xu (B s))).1.toArray⟩:ByteArray).toList==s.toList)=false:=by simpa using hq
  rw[x6,qo,e]at this;simp at this
 ·have:((⟨(xy (B s).length (xu (B s))).1.toArray⟩:ByteArray).toList==s.toList)=true:=by simpa using hq
  rw[x6,qo]at this;have hps:=of_decide_eq_true this;exact done he11 hb1 (zpW hne hok hfit (Prod.ext hps hz))
end V
/- Supers:plain. -/
namespace V
open Go Go.Proofs Go.RowKit Crc
structure Sup where
 gen:Nat
 size:Int
 blocks:Int
 root:Nat
 pages:List Nat
deriving DecidableEq
def zm3:Sup:=⟨0,0,0,0,[]⟩
structure Sup.Fits (s:Sup):Prop where
 gen:s.gen<18446744073709551616
 size:-9223372036854775808<=s.size/\s.size<9223372036854775808
 blocks:-9223372036854775808<=s.blocks/\s.blocks<9223372036854775808
 root:s.root<4294967296
 pages:∀ p∈s.pages,p<4294967296
theorem qn {size blocks:Int} (h:zZ size blocks=true):zH size=size-16/\128<=size/\size<=4096/\8<=blocks/\blocks<=4096:=by
 unfold zZ at h;have h:=of_decide_eq_true h;have h8:zZ size 8=true:=by unfold zZ;exact decide_eq_true (by omega)
 unfold zH;rw[h8];exact⟨rfl,by omega,by omega,by omega,by omega⟩
def kS (size blocks:Int):Int:=if zZ size blocks=true then (2*blocks+zH size-1) / zH size else 0
theorem zjJ {size blocks:Int}:0<=kS size blocks/\kS size blocks<=20000:=by
 unfold kS;split
 ·rename_i h;obtain⟨h0,h1,h2,h3,h4⟩:=qn h;rw[h0];have:=Int.ediv_le_self (a:=2*blocks+(size-16)-1) (size-16) (by omega);have:=Int.ediv_nonneg (a:=2*blocks+(size-16)-1) (b:=size-16) (by omega) (by omega);omega
 ·omega
def vZ (blocks:Int) (n:Nat):Bool:=decide (2<=n/\(n:Int)<blocks)
def Sup.good (s:Sup) (j:Nat):Prop:=vZ s.blocks (s.pages.getD j 0)=true/\s.pages.getD j 0≠s.root/\s.pages.getD j 0∉s.pages.take j
instance (s:Sup) (j:Nat):Decidable (s.good j):=by unfold Sup.good;infer_instance
def Sup.head (s:Sup):Prop:=zZ s.size s.blocks=true/\s.gen≠0/\(s.root=0\/vZ s.blocks s.root=true)/\(s.pages.length:Int)=kS s.size s.blocks
instance (s:Sup):Decidable s.head:=by unfold Sup.head;infer_instance
def chk (s:Sup):Int:=if s.head then (if ∀ j,j<s.pages.length->s.good j then (if 14+4*(s.pages.length:Int)>zH s.size then 3 else 0) else 2) else 2
theorem zm4 {s:Sup} (h:¬s.head):chk s=2:=by unfold chk;rw[if_neg h]
theorem zfs {s:Sup} {j:Nat} (hj:j<s.pages.length) (h:¬s.good j):chk s=2:=by
 unfold chk;split
 ·rw[if_neg (fun hh=>h (hh j hj))]
 ·rfl
theorem zhh {s:Sup} (h:s.head) (hg:∀ j,j<s.pages.length->s.good j):chk s=if 14+4*(s.pages.length:Int)>zH s.size then 3 else 0:=by
 unfold chk;rw[if_pos h,if_pos hg]
theorem za3 {s:Sup} (h:chk s=0):s.head/\(∀ j,j<s.pages.length->s.good j)/\14+4*(s.pages.length:Int)<=zH s.size:=by
 unfold chk at h;split at h
 ·rename_i h1;split at h
  ·rename_i h2;split at h
   ·cases h
   ·exact⟨h1,h2,by omega⟩
  ·cases h
 ·cases h
def yr (ps:List Nat):List UInt8:=ps.flatMap (le 4)
theorem xx (ps:List Nat):(yr ps).length=4*ps.length:=by
 induction ps with
 |nil=>rfl
 |cons p r ih=>simp only [yr,flatMap_cons,length_append,zy,length_cons]at ih ⊢;omega
def zbx (s:Sup):List UInt8:=le 4 s.size.toNat++le 4 s.blocks.toNat++le 4 s.root++le 2 s.pages.length
def jh (s:Sup):List UInt8:=zbx s++yr s.pages
theorem zcv (s:Sup):(zbx s).length=14:=by simp[zbx,zy]
theorem jT (s:Sup):(jh s).length=14+4*s.pages.length:=by rw[jh,length_append,zcv,xx]
def vD (s:Sup):Fra:=(1,s.gen,⟨(jh s).toArray⟩)
def xI (s:Sup):List UInt8×Int:=if chk s=0 then xy s.size (vD s) else ([],chk s)
theorem zhi {s:Sup} (h:chk s≠0):xI s=([],chk s):=if_neg h
theorem kT {s:Sup} (h:chk s=0):xI s=(yB s.size.toNat (vD s),0):=by
 obtain⟨h1,h2,h3⟩:=za3 h;obtain⟨g0,g1,g2,g3,g4⟩:=qn h1.1;unfold xI xy;have hl:((B (vD s).2.2).length:Int)=14+4*s.pages.length:=by
  show((B ⟨(jh s).toArray⟩).length:Int)=_;rw[qo,jT];omega
 rw[if_pos h,if_neg (by omega),if_neg (by omega)]
theorem zi9 {s:Sup} (h:(xI s).2=0):chk s=0:=by
 by_cases h1:chk s=0
 ·exact h1
 ·rw[zhi h1]at h;exact h
theorem zar (s:Sup):B (vD s).2.2=jh s:=qo _
theorem zdu {s:Sup} (h:chk s=0):((xI s).1.length:Int)=s.size/\128<=s.size/\s.size<=4096:=by
 rw[kT h];obtain⟨h1,h2,h3⟩:=za3 h;obtain⟨g0,g1,g2,g3,g4⟩:=qn h1.1;have:=kB (size:=s.size.toNat) (f:=vD s) (by rw[zar,jT];omega);dsimp only;omega
theorem zkR {s:Sup} (h:chk s=0) (hg:s.gen<18446744073709551616):zaq (xI s).1 1=(vD s,0):=by
 rw[kT h];obtain⟨h1,h2,h3⟩:=za3 h;obtain⟨g0,g1,g2,g3,g4⟩:=qn h1.1;have hget:=zfY (size:=s.size.toNat) (f:=vD s) (by rw[Int.toNat_of_nonneg (by omega)];exact g0) (by omega) (by omega) (by rw[zar,jT];omega) hg;unfold zaq;rw[hget,if_neg (by rintro⟨_,h⟩;exact h rfl)]
def yR (n:Nat) (bs:List UInt8):List Nat:=(List.range n).map fun i=>lev ((bs.drop (4*i)).take 4)
theorem zft (n:Nat) (bs:List UInt8):(yR n bs).length=n:=by simp[yR]
theorem zhj (n:Nat) (bs:List UInt8):yR (n+1) bs=yR n bs++[lev ((bs.drop (4*n)).take 4)]:=by simp[yR,range_succ]
theorem zjK (n:Nat) (bs:List UInt8):∀ p∈yR n bs,p<4294967296:=by
 intro p hp;simp only [yR,mem_map]at hp;obtain⟨i,_,rfl⟩:=hp;exact zc4 (by rw[length_take];omega)
theorem zhk {n:Nat} (h:n<4294967296):lev (le 4 n)=n:=by rw[uT];omega
theorem vE:∀ (ps:List Nat),(∀ p∈ps,p<4294967296)->yR ps.length (yr ps)=ps
 |[],_=>rfl
 |p::r,h=>by
  have ih:=vE r (fun q hq=>h q (mem_cons_of_mem _ hq));have e:yr (p::r)=le 4 p++yr r:=rfl;unfold yR at ih ⊢;rw[length_cons,List.range_succ_eq_map,map_cons,map_map,e];congr 1
  ·rw[Nat.mul_zero,List.drop_zero,take_left' (zy 4 p)];exact zhk (h p mem_cons_self)
def zdZ (f:Fra):Sup:=⟨f.2.1,lev ((B f.2.2).take 4),lev (((B f.2.2).drop 4).take 4),lev (((B f.2.2).drop 8).take 4),yR (((B f.2.2).length-14) / 4) ((B f.2.2).drop 14)⟩
theorem zin (s:Sup):(jh s).take 4=le 4 s.size.toNat/\((jh s).drop 4).take 4=le 4 s.blocks.toNat/\((jh s).drop 8).take 4=le 4 s.root/\((jh s).drop 12).take 2=le 2 s.pages.length/\(jh s).drop 14=yr s.pages:=by
 have e:jh s=le 4 s.size.toNat++(le 4 s.blocks.toNat++(le 4 s.root++(le 2 s.pages.length++yr s.pages))):=by simp[jh,zbx]
 have d4:(jh s).drop 4=le 4 s.blocks.toNat++(le 4 s.root++(le 2 s.pages.length++yr s.pages)):=by rw[e,drop_left' (zy _ _)]
 have d8:(jh s).drop 8=le 4 s.root++(le 2 s.pages.length++yr s.pages):=by rw[show 8=4+4 from rfl,<- drop_drop,d4,drop_left' (zy _ _)]
 have d12:(jh s).drop 12=le 2 s.pages.length++yr s.pages:=by rw[show 12=8+4 from rfl,<- drop_drop,d8,drop_left' (zy _ _)]
 have d14:(jh s).drop 14=yr s.pages:=by rw[show 14=12+2 from rfl,<- drop_drop,d12,drop_left' (zy _ _)]
 refine⟨by rw[e,take_left' (zy _ _)],by rw[d4,take_left' (zy _ _)],by rw[d8,take_left' (zy _ _)],by rw[d12,take_left' (zy _ _)],d14⟩
theorem zm5 {s:Sup} (h:chk s=0) (hf:s.Fits):zdZ (vD s)=s:=by
 obtain⟨h1,h2,h3⟩:=za3 h;obtain⟨g0,g1,g2,g3,g4⟩:=qn h1.1;obtain⟨p1,p2,p3,p4,p5⟩:=zin s;unfold zdZ;rw[zar,p1,p2,p3,p5,jT,zhk (by omega),zhk (by omega),zhk hf.root,show(14+4*s.pages.length-14) / 4=s.pages.length by omega,vE _ hf.pages];cases s;simp only [vD,Sup.mk.injEq,true_and,and_true];dsimp only at g1 g3;omega
theorem zkS {f:Fra} (h:f.2.1<18446744073709551616):(zdZ f).Fits:=by
 have a:∀ l:List UInt8,lev (l.take 4)<4294967296:=fun l=>zc4 (by rw[length_take];omega);have a1:=a (B f.2.2);have a2:=a ((B f.2.2).drop 4);exact⟨h,by dsimp only [zdZ];omega,by dsimp only [zdZ];omega,a _,zjK _ _⟩
def kN (bs:List UInt8):Sup×Int:=
 if (zaq bs 1).2≠0 then (zm3,(zaq bs 1).2)
 else if (B (zaq bs 1).1.2.2).length<14 then (zm3,4)
 else if xI (zdZ (zaq bs 1).1)=(bs,0) then (zdZ (zaq bs 1).1,0) else (zm3,4)
theorem zm6 {s:Sup} {bs:List UInt8} (hf:s.Fits) (h:xI s=(bs,0)):kN bs=(s,0):=by
 have hc:=zi9 (s:=s) (by rw[h]);have hk:=zkR hc hf.gen;rw[h]at hk;dsimp only at hk;have hl:=jT s;unfold kN;rw[hk,if_neg (by simp),zar,if_neg (by omega),zm5 hc hf,if_pos h]
theorem zpg {bs:List UInt8} (h:(kN bs).2=0):xI (kN bs).1=(bs,0)/\(kN bs).1.Fits:=by
 unfold kN at h ⊢;split at h
 ·rename_i h1;exact absurd h h1
 ·rename_i h1;rw[if_neg h1];split at h
  ·cases h
  ·rename_i h2;rw[if_neg h2];split at h
   ·rename_i h3;rw[if_pos h3];refine⟨h3,zkS ?_⟩;unfold zaq;split
    ·decide
    ·exact zmU bs
   ·cases h
def other (slot:Int):Int:=if slot=0 then 1 else 0
end V
/- Spaces:plain. -/
namespace V
open Go Go.Proofs Go.RowKit Crc
abbrev Page:=UInt8×List Nat×ByteArray
def xg:Page:=(0,[],ByteArray.empty)
def pgB (p:Page):List UInt8:=le 2 p.2.1.length++(yr p.2.1++B p.2.2)
def kD (d:List UInt8):List Nat:=yR (lev (d.take 2)) (d.drop 2)
def za4 (N:Nat) (d:List UInt8):Prop:=2<=d.length/\2+4*lev (d.take 2)<=d.length/\∀ n∈kD d,2<=n/\n<N
instance (N:Nat) (d:List UInt8):Decidable (za4 N d):=by unfold za4;infer_instance
def qd (N:Nat) (bs:List UInt8):Page×Int:=
 if (yk bs).2=0/\3<=(yk bs).1.1.toNat/\za4 N (B (yk bs).1.2.2) then
  (((yk bs).1.1,kD (B (yk bs).1.2.2),mkB ((B (yk bs).1.2.2).drop (2+4*lev ((B (yk bs).1.2.2).take 2)))),0) else (xg,10)
theorem zjL {N size gen:Nat} {p:Page} (hr:zH size=(size:Int)-16) (h1:128<=size) (h2:size<=4096) (hd:(pgB p).length+16<=size) (hg:gen<18446744073709551616)
  (ht:3<=p.1.toNat) (hk:∀ n∈p.2.1,2<=n/\n<N) (hN:N<=4096):qd N (yB size (p.1,gen,mkB (pgB p)))=(p,0):=by
 have e1:yk (yB size (p.1,gen,mkB (pgB p)))=((p.1,gen,mkB (pgB p)),0):=zfY hr h1 h2 (by rw[show B (p.1,gen,mkB (pgB p)).2.2=pgB p from qo _];exact hd) hg;unfold qd;rw[e1];dsimp only;rw[show B (mkB (pgB p))=pgB p from qo _];have hl:(pgB p).length=2+(4*p.2.1.length+(B p.2.2).length):=by simp[pgB,zy,xx]
 have hkl:p.2.1.length<65536:=by omega
 have e2:(pgB p).take 2=le 2 p.2.1.length:=by rw[pgB,take_left' (zy _ _)]
 have e3:(pgB p).drop 2=yr p.2.1++B p.2.2:=by rw[pgB,drop_left' (zy _ _)]
 have e4:lev ((pgB p).take 2)=p.2.1.length:=by rw[e2,zi3 hkl]
 have e5:kD (pgB p)=p.2.1:=by
  unfold kD;rw[e4,e3];have hw:=vE p.2.1 (fun n hn=>by have:=hk n hn;omega);have hcut:∀ (n:Nat) (a b:List UInt8),4*n<=a.length->yR n (a++b)=yR n a:=by
   intro n a b hn;unfold yR;apply map_congr_left;intro i hi;have:=mem_range.1 hi;rw[List.drop_append_of_le_length (by omega),List.take_append_of_le_length (by rw[length_drop];omega)]
  rw[hcut _ _ _ (by rw[xx];omega)];exact hw
 have e6:(pgB p).drop (2+4*p.2.1.length)=B p.2.2:=by
  rw[<- drop_drop,e3,drop_left' (xx _)]
 rw[e4,e5,e6,if_pos ⟨rfl,ht,by rw[hl];omega,by rw[e4,hl];omega,by rw[e5];exact hk⟩];rfl
structure Spa where
 dev:Dev
 sup:Sup
 slot:Int
 held:List Nat
 now:List Nat
 mark:Option (List Nat)
def cnt:Option (List Nat)->Nat->Nat
 |none,_=>0
 |some l,n=>l.getD n 0
namespace Spa
def N (S:Spa):Nat:=S.sup.blocks.toNat
def yx (S:Spa) (n:Nat):Bool:=S.now.getD n 0==0&&S.held.getD n 0==0&&cnt S.mark n==0
def yc (S:Spa):List Nat:=(List.range S.N).filter fun n=>decide (2<=n)&&S.yx n
def z7 (S:Spa):Nat:=S.yc.length
def asked (S:Spa) (n:Nat):Bool:=decide (2<=n)&&(decide (n<S.N)&&!(decide (n∈S.sup.pages)))
def room (S:Spa) (k:Int):Int:=if k<0\/k>(zH S.sup.size-2) / 4 then 0 else zH S.sup.size-2-4*k
def zF (S:Spa):Nat:=(List.range S.now.length).findIdx S.yx
def takeN (S:Spa):Nat:=if S.zF<S.now.length then S.zF else 0
def yW (S:Spa):Int:=if S.zF<S.now.length then 0 else 9
def yX (S:Spa):List Nat:=if S.zF<S.now.length then S.now.set S.zF 1 else S.now
def page (S:Spa) (n:Nat):Page×Int:=qd S.N (B (S.dev.read n).1)
def get (S:Spa) (n:Nat):Page×Int:=if S.asked n=false then (xg,2) else if S.now.getD n 0=0 then (xg,8) else S.page n
end Spa
def ym (d:Dev) (k:Int) (f:Fra):Dev×Int:=if (xy d.size f).2≠0 then (d,(xy d.size f).2) else d.write k (mkB (xy d.size f).1)
namespace Spa
def jU (S:Spa) (p:Page):Int:=
 if p.1.toNat<3\/p.2.1.length>65535\/(∃ k∈p.2.1,S.asked k=false) then 2
 else if ∃ k∈p.2.1,S.now.getD k 0=0 then 8
 else if (p.2.1.length:Int)>S.room 0 / 4\/(p.2.2.size:Int)>S.room p.2.1.length then 3
 else if S.z7<=S.sup.pages.length then 9
 else 0
def frame (S:Spa) (p:Page):Fra:=(p.1,S.sup.gen+1,mkB (pgB p))
def put (S:Spa) (p:Page):Spa×Nat×Int:=
 if S.jU p≠0 then (S,0,S.jU p)
 else if S.yW≠0 then (S,0,S.yW)
 else if (ym S.dev S.takeN (S.frame p)).2≠0 then ({ S with now:=S.yX,dev:=(ym S.dev S.takeN (S.frame p)).1 },0,(ym S.dev S.takeN (S.frame p)).2)
 else ({ S with now:=S.yX,dev:=(ym S.dev S.takeN (S.frame p)).1 },S.takeN,0)
end Spa
end V
/- Contracts of the package counts. -/
namespace V
open Go Go.Proofs Go.RowKit
def uV (k:IntKind) (l:List Nat):List Value:=l.map fun(n:Nat)=>Value.int k ((n:Nat):Int)
structure Cnt (w:World) (b r:Nat) (size:Int) (q:List Value) (l:List Nat):Prop where
 head:Blk w b [.int .i64 size,.int .i64 (l.length:Int),.slice (some ⟨r,0,none⟩) l.length (l.length+q.length)] 193
 row:Blk w r (uV .u16 l++q) 194
 ne:b≠r
 len:2<=l.length/\l.length<=4096
 fits:∀ n∈l,n<65536
theorem zkT {k:IntKind} {l:List Nat} {i:Nat} (h:i<l.length):(uV k l)[i]?=some (.int k ((l.getD i 0:Nat):Int)):=by
 simp[uV,h]
theorem vF {k:IntKind} {l:List Nat} {q:List Value} {i:Nat} (h:i<l.length):(uV k l++q)[i]?=some (.int k ((l.getD i 0:Nat):Int)):=by
 rw[List.getElem?_append_left (by simpa [uV] using h),zkT h]
theorem kU (k:IntKind) (l:List Nat):(uV k l).length=l.length:=by simp[uV]
theorem zpX (k:IntKind) (l:List Nat) (i x:Nat):(uV k l).set i (.int k (x:Int))=uV k (l.set i x):=by simp[uV,List.map_set]
theorem Cnt.ext {w w':World} {b r:Nat} {size:Int} {q:List Value} {l:List Nat} (h:Cnt w b r size q l) (he:Ext w w'):Cnt w' b r size q l:=⟨h.head.ext he,h.row.ext he,h.ne,h.len,h.fits⟩
theorem Cnt.kept {w w':World} {b r k:Nat} {size:Int} {q:List Value} {l:List Nat} (h:Cnt w b r size q l) (hg:w.grownBy w' (some k)) (h1:b≠k) (h2:r≠k):Cnt w' b r size q l:=
 ⟨h.head.grown hg (by simpa using h1),h.row.grown hg (by simpa using h2),h.ne,h.len,h.fits⟩
theorem Cnt.js {w:World} {b r:Nat} {size:Int} {q:List Value} {l:List Nat} (h:Cnt w b r size q l) (i:Nat):l.getD i 0<65536:=by
 rcases Nat.lt_or_ge i l.length with hi|hi
 ·rw[getD_eq_getElem?_getD,List.getElem?_eq_getElem hi];exact h.fits _ (getElem_mem hi)
 ·rw[getD_eq_getElem?_getD,List.getElem?_eq_none hi];simp
theorem Cnt.set {w:World} {b r i x:Nat} {size:Int} {q:List Value} {l:List Nat} (h:Cnt w b r size q l) (hi:i<l.length) (hx:x<65536):
  Cnt (w.setCell ⟨r,i,none⟩ (.int .u16 (x:Int))) b r size q (l.set i x)/\w.grownBy (w.setCell ⟨r,i,none⟩ (.int .u16 (x:Int))) (some r):=by
 have hs:=h.row.set i (.int .u16 (x:Int));rw[List.set_append_left _ _ (by rw[kU];exact hi),zpX]at hs;refine⟨⟨by rw[length_set];exact h.head.other (fun e=>h.ne e.symm) _,hs,h.ne,by rw[length_set];exact h.len,fun n hn=>?_⟩,⟨rfl,rfl,rfl,by simp,fun k hk hne=>Below.heap_setCell _ _ _ _ (fun e=>hne (by rw[e]))⟩⟩;rcases List.mem_or_eq_of_mem_set hn with h1|h1
 ·exact h.fits n h1
 ·rw[h1];exact hx
theorem zas {w:World} {b r:Nat} {size:Int} {q:List Value} {l:List Nat} (h:Cnt w b r size q l) (n:Nat) (hn:n<4294967296):Calls prog 75 #[.pointer (some ⟨b,0,none⟩),.int .u32 (n:Int)] w (Ret fun v w'=>v=.int .i64 ((l.getD n 0:Nat):Int)/\w'=w):=by
 apply zi1;unfold S75;have hl:=h.len;refine zd (by rfl) ?_;refine zp ?_;refine xj (o:=2) (x:=(some ⟨r,0,none⟩,l.length,l.length+q.length)) h.head (by rfl) ?_;dsimp only;rw[zz (by omega),zz (by omega)];refine zg (fun hh=>?_) (fun hh=>?_)
 ·have hh:=of_decide_eq_true hh;refine⟨?_,rfl⟩;rw[getD_eq_getElem?_getD,List.getElem?_eq_none (by omega)];rfl
 have hh:=of_decide_eq_false hh;refine zp ?_;refine xj (o:=2) (x:=(some ⟨r,0,none⟩,l.length,l.length+q.length)) h.head (by rfl) ?_;dsimp only;refine zE ⟨by omega,by omega⟩ (zp ?_);rw[Int.toNat_natCast,Nat.mul_one];refine xj h.row (vF (by omega)) ?_;have:=h.js n;rw[wrap_i64 (by omega) (by omega)];exact⟨rfl,rfl⟩
theorem zcw (w:World) (n:Nat):Calls prog 75 #[.pointer none,.int .u32 (n:Int)] w (Ret fun v w'=>v=.int .i64 0/\w'=w):=by
 apply zi1;unfold S75;exact zf (by rfl) ⟨rfl,rfl⟩
def atE (l:List Nat) (n:Nat):Int:=if n<2\/l.length<=n then 2 else if l.getD n 0=0 then 8 else 0
def atP (l:List Nat) (n r:Nat):Option Addr:=if atE l n=0 then some ⟨r,n,none⟩ else none
theorem zhl {w:World} {b r:Nat} {size:Int} {q:List Value} {l:List Nat} (h:Cnt w b r size q l) (n:Nat) (hn:n<4294967296):Calls prog 136 #[.pointer (some ⟨b,0,none⟩),.int .u32 (n:Int)] w (Ret fun v w'=>v=.tuple #[.pointer (atP l n r),.int .i64 (atE l n)]/\w'=w):=by
 apply zl2;unfold S136 atP atE;have hl:=h.len;refine zd (by rfl) ?_;refine zg (fun hh=>?_) (fun hh=>?_)
 ·have hh:=of_decide_eq_true hh;rw[if_pos (show n<2\/l.length<=n from .inl (by omega))];exact⟨rfl,rfl⟩
 have hh:=of_decide_eq_false hh;refine zp ?_;refine xj (o:=2) (x:=(some ⟨r,0,none⟩,l.length,l.length+q.length)) h.head (by rfl) ?_;dsimp only;rw[zz (by omega),zz (by omega)];refine zg (fun h2=>?_) (fun h2=>?_)
 ·have h2:=of_decide_eq_true h2;rw[if_pos (show n<2\/l.length<=n from .inr (by omega))];exact⟨rfl,rfl⟩
 have h2:=of_decide_eq_false h2;rw[if_neg (show ¬(n<2\/l.length<=n) by omega)];refine zp ?_;refine xj (o:=2) (x:=(some ⟨r,0,none⟩,l.length,l.length+q.length)) h.head (by rfl) ?_;dsimp only;refine zE ⟨by omega,by omega⟩ (zp ?_);rw[Int.toNat_natCast,Nat.mul_one];refine xj h.row (vF (by omega)) ?_;refine zg (fun h3=>?_) (fun h3=>?_)
 ·have h3:l.getD n 0=0:=by rw[beq_iff_eq]at h3;omega
  rw[if_pos h3];exact⟨rfl,rfl⟩
 have h3:¬l.getD n 0=0:=by rw[beq_eq_false_iff_ne]at h3;omega
 rw[if_neg h3];refine zp ?_;refine xj (o:=2) (x:=(some ⟨r,0,none⟩,l.length,l.length+q.length)) h.head (by rfl) ?_;dsimp only;refine zE ⟨by omega,by omega⟩ (zp ?_);rw[zx,Nat.zero_add];exact⟨rfl,rfl⟩
def xv (l:List Nat) (n:Nat):List Nat:=if atE l n=0 then l.set n (l.getD n 0-1) else l
def zby (l:List Nat) (n:Nat):Nat:=if atE l n=0 then l.getD n 0-1 else 0
theorem zcx (l:List Nat) (n:Nat):atE l n=0/\2<=n/\n<l.length/\l.getD n 0≠0\/atE l n=2\/atE l n=8:=by
 unfold atE;split
 ·exact .inr (.inl rfl)
 ·split
  ·exact .inr (.inr rfl)
  ·exact .inl ⟨rfl,by omega,by omega,by assumption⟩
theorem zkU {w:World} {b r:Nat} {size:Int} {q:List Value} {l:List Nat} (h:Cnt w b r size q l) (n:Nat) (hn:n<4294967296):Calls prog 87 #[.pointer (some ⟨b,0,none⟩),.int .u32 (n:Int)] w (Ret fun v w'=>v=.tuple #[.int .i64 (zby l n:Int),.int .i64 (atE l n)]/\Cnt w' b r size q (xv l n)/\w.grownBy w' (some r)):=by
 apply zo3;unfold S87;refine zb (zhl h n hn) ?_;rintro _ w1 ⟨rfl,hw⟩;subst hw;refine⟨(atP l n r,atE l n,()),rfl,?_⟩;dsimp only;rcases zcx l n with ⟨h0,h2,hl,hne⟩|h0
 ·have hp:atP l n r=some ⟨r,n,none⟩:=by unfold atP;rw[if_pos h0]
  rw[hp,h0];refine zd (by rfl) ?_;have hfit:=h.js n;have hr:∀ {K:Int->WP},K ((l.getD n 0:Nat):Int) w1->(zh (some (⟨r,n,none⟩:Addr)) fun p=>ldW (.int .u16) p K) w1:=fun {K} hk=>⟨_,rfl,zo h.row (vF hl) hk⟩;refine hr ?_;refine zp ?_;refine zU h.row (by rw[length_append,kU];omega) ?_;rw[show wrap .u16 (((l.getD n 0:Nat):Int)-1)=((l.getD n 0-1:Nat):Int) from by rw[wrap_u16];omega];obtain⟨hc,hg⟩:=h.set (x:=l.getD n 0-1) hl (by omega);refine zp ?_;refine zo hc.row (vF (by rw[length_set];exact hl)) ?_;have e:(l.set n (l.getD n 0-1)).getD n 0=l.getD n 0-1:=by
   rw[getD_eq_getElem?_getD,List.getElem?_set_self hl];rfl
  rw[e,wrap_i64 (by omega) (by omega)];have e1:zby l n=l.getD n 0-1:=by unfold zby;rw[if_pos h0]
  have e2:xv l n=l.set n (l.getD n 0-1):=by unfold xv;rw[if_pos h0]
  rw[e1,e2];exact⟨rfl,hc,hg⟩
 ·have hne:atE l n≠0:=by rcases h0 with h0|h0<;>rw[h0]<;>decide
  have e1:zby l n=0:=by unfold zby;rw[if_neg hne]
  have e2:xv l n=l:=by unfold xv;rw[if_neg hne]
  rw[e1,e2];refine zf (by simpa using hne) ?_;exact⟨rfl,h,xL _ _⟩
def zac (l:List Nat) (n:Nat):Int:=if atE l n=0 then (if l.getD n 0=65535 then 12 else 0) else atE l n
def zad (l:List Nat) (n:Nat):List Nat:=if zac l n=0 then l.set n (l.getD n 0+1) else l
theorem zkV {w:World} {b r:Nat} {size:Int} {q:List Value} {l:List Nat} (h:Cnt w b r size q l) (n:Nat) (hn:n<4294967296):Calls prog 139 #[.pointer (some ⟨b,0,none⟩),.int .u32 (n:Int)] w (Ret fun v w'=>v=.int .i64 (zac l n)/\Cnt w' b r size q (zad l n)/\w.grownBy w' (some r)):=by
 apply zl5;unfold S139;refine zb (zhl h n hn) ?_;rintro _ w1 ⟨rfl,hw⟩;subst hw;refine⟨(atP l n r,atE l n,()),rfl,?_⟩;dsimp only;rcases zcx l n with ⟨h0,h2,hl,hne⟩|h0
 ·have hp:atP l n r=some ⟨r,n,none⟩:=by unfold atP;rw[if_pos h0]
  rw[hp,h0];refine zd (by rfl) ?_;have hfit:=h.js n;refine zp ?_;refine zo h.row (vF hl) ?_;refine zg (fun hm=>?_) (fun hm=>?_)
  ·have hm:l.getD n 0=65535:=by rw[beq_iff_eq]at hm;omega
   have e1:zac l n=12:=by unfold zac;rw[if_pos h0,if_pos hm]
   have e2:zad l n=l:=by unfold zad;rw[e1];rfl
   rw[e1,e2];exact⟨rfl,h,xL _ _⟩
  ·have hm:¬l.getD n 0=65535:=by rw[beq_eq_false_iff_ne]at hm;omega
   have e1:zac l n=0:=by unfold zac;rw[if_pos h0,if_neg hm]
   have e2:zad l n=l.set n (l.getD n 0+1):=by unfold zad;rw[if_pos e1]
   rw[e1,e2];refine zp ?_;refine zo h.row (vF hl) ?_;refine zp ?_;refine zU h.row (by rw[length_append,kU];omega) ?_;rw[show wrap .u16 (((l.getD n 0:Nat):Int)+1)=((l.getD n 0+1:Nat):Int) from by rw[wrap_u16];omega];obtain⟨hc,hg⟩:=h.set (x:=l.getD n 0+1) hl (by omega);exact⟨rfl,hc,hg⟩
 ·have hne:atE l n≠0:=by rcases h0 with h0|h0<;>rw[h0]<;>decide
  have e1:zac l n=atE l n:=by unfold zac;rw[if_neg hne]
  have e2:zad l n=l:=by unfold zad;rw[e1,if_neg hne]
  rw[e1,e2];refine zf (by simpa using hne) ?_;exact⟨rfl,h,xL _ _⟩
theorem zjM (w:World) (a b c d:Int):(Op.eqFields 9999 #[.int .i64 a,.int .i64 b] #[.int .i64 c,.int .i64 d] (prog.fieldsOf 72).toList).run prog w=.ok (a==c&&(b==d&&true)) w:=by
 have hf:(prog.fieldsOf 72).toList=[(prog.fieldsOf 72).getD 0 default,(prog.fieldsOf 72).getD 1 default]:=by kernel_rfl
 rw[hf];refine qk (of_decide_eq_true (by kernel_rfl)) (a:=.int .i64 a) (b:=.int .i64 c) (by kernel_rfl) (by kernel_rfl) (run_equalIn_int w 9998 _ .i64 .i64 _ _ (by kernel_rfl)) ?_;refine qk (of_decide_eq_true (by kernel_rfl)) (a:=.int .i64 b) (b:=.int .i64 d) (by kernel_rfl) (by kernel_rfl) (run_equalIn_int w 9998 _ .i64 .i64 _ _ (by kernel_rfl)) ?_;rfl
theorem zph (w:World) (a b:Int) (x y:Operand):(eqS .neq 72 x y (.agg #[.int .i64 a,.int .i64 b]) (.agg #[.int .i64 a,.int .i64 b])).run prog w=.ok (.bool false) w:=by
 have:=zfn (x:=x) (y:=y) (by kernel_rfl) (by kernel_rfl) (by kernel_rfl) (zjM w a b a b)
 simpa using this
def znE (w:World) (x:Option Addr) (b r:Nat) (size:Int) (len:Nat) (hl:List Nat):Prop:=
 (x=none/\hl=[])\/∃ b2 r2,x=some ⟨b2,0,none⟩/\(∃ q2,Cnt w b2 r2 size q2 hl)/\hl.length=len/\b2≠r/\r2≠r
def qQ (l hl:List Nat) (i:Nat):Bool:=l.getD i 0==0&&hl.getD i 0==0
def zF (l hl:List Nat):Nat:=(List.range l.length).findIdx (qQ l hl)
def takeN (l hl:List Nat):Nat:=if zF l hl<l.length then zF l hl else 0
def yW (l hl:List Nat):Int:=if zF l hl<l.length then 0 else 9
def yX (l hl:List Nat):List Nat:=if zF l hl<l.length then l.set (zF l hl) 1 else l
theorem zcy {l hl:List Nat} {i:Nat} (h:i<zF l hl):qQ l hl i=false:=by
 have:=List.not_of_lt_findIdx (p:=qQ l hl) (xs:=List.range l.length) h
 simpa using this
theorem zd0 {l hl:List Nat} (h:zF l hl<l.length):qQ l hl (zF l hl)=true:=by
 have:=List.findIdx_getElem (p:=qQ l hl) (xs:=List.range l.length) (w:=by rw[length_range];exact h);rw[getElem_range]at this;exact this
theorem zeR {w:World} {b r:Nat} {size:Int} {q:List Value} {l hl:List Nat} {x:Option Addr} (h:Cnt w b r size q l) (hh:znE w x b r size l.length hl):
  Calls prog 116 #[.pointer (some ⟨b,0,none⟩),.pointer x] w (Ret fun v w'=>v=.tuple #[.int .u32 ((takeN l hl:Nat):Int),.int .i64 (yW l hl)]/\Cnt w' b r size q (yX l hl)/\w.grownBy w' (some r)):=by
 apply zlP;unfold S116;have hlen:=h.len;refine yi (fun _ w'=>w'=w.drew) ?_ (fun J hJ=>?_)
 ·rintro _ w1 hw1;have hcw:Cnt w1 b r size q l:=by rw[hw1];exact h.ext (Ext.refl w).drew
  have hg0:w.grownBy w1 (some r):=by rw[hw1];exact xZ (Ext.refl w).drew _
  have hh1:znE w1 x b r size l.length hl:=by
   rcases hh with hh|⟨b2,r2,h1,h2,h3⟩
   ·exact .inl hh
   ·obtain⟨q2,h2⟩:=h2;exact .inr ⟨b2,r2,h1,⟨q2,by rw[hw1];exact h2.ext (Ext.refl w).drew⟩,h3⟩
  refine zp ?_;refine xj (o:=2) (x:=(some ⟨r,0,none⟩,l.length,l.length+q.length)) hcw.head (by rfl) ?_;dsimp only;refine zu (fun y w'=>w'=w1/\∃ i:Nat,i<=l.length/\y=((i:Int),())/\i<=zF l hl) (fun y=>(l.length-y.1).toNat) ⟨rfl,0,by omega,rfl,by omega⟩ ?_;rintro _ _ ⟨rfl,i,hi,rfl,hti⟩;dsimp only;rename_i w1
  by_cases hlt:i<l.length
  ·refine zf (decide_eq_true (by omega)) ?_;refine zE ⟨by omega,by omega⟩ (zp ?_);rw[Int.toNat_natCast,Nat.mul_one];refine xj hcw.row (vF hlt) ?_;rw[uS (by omega),wrap_i64 (x:=(i:Int)+1) (by omega) (by omega)];have next:qQ l hl i=false->i+1<=zF l hl:=fun hf=>by
    rcases Nat.lt_or_ge i (zF l hl) with h1|h1
    ·omega
    ·have hii:zF l hl=i:=by omega
     have:=zd0 (l:=l) (hl:=hl) (by omega);rw[hii,hf]at this;cases this
   refine zg (fun hz=>?_) (fun hz=>?_)
   ·have hz:l.getD i 0=0:=by rw[beq_iff_eq]at hz;omega
    have hget:Calls prog 75 #[.pointer x,.int .u32 (i:Int)] w1 (Ret fun v w'=>v=.int .i64 ((hl.getD i 0:Nat):Int)/\w'=w1):=by
     rcases hh1 with ⟨rfl,rfl⟩|⟨b2,r2,rfl,⟨q2,hc2⟩,_⟩
     ·exact zcw w1 i
     ·exact zas hc2 i (by omega)
    refine zb hget ?_;rintro _ w2 ⟨rfl,hw2⟩;subst hw2;refine⟨_,rfl,?_⟩;refine zg (fun hz2=>?_) (fun hz2=>?_)
    ·have hz2:hl.getD i 0=0:=by rw[beq_iff_eq]at hz2;omega
     have hfr:qQ l hl i=true:=by unfold qQ;rw[hz,hz2];rfl
     have htake:zF l hl=i:=by
      rcases Nat.lt_or_ge i (zF l hl) with h1|h1
      ·rw[zcy h1]at hfr;cases hfr
      ·omega
     refine zp ?_;refine xj (o:=2) (x:=(some ⟨r,0,none⟩,l.length,l.length+q.length)) hcw.head (by rfl) ?_;dsimp only;refine zE ⟨by omega,by omega⟩ (zp ?_);rw[zx,Nat.zero_add];refine zU hcw.row (by rw[length_append,kU];omega) ?_;obtain⟨hc,hg⟩:=hcw.set (x:=1) hlt (by omega);have e1:takeN l hl=i:=by unfold takeN;rw[htake,if_pos hlt]
     have e2:yW l hl=0:=by unfold yW;rw[htake,if_pos hlt]
     have e3:yX l hl=l.set i 1:=by unfold yX;rw[htake,if_pos hlt]
     rw[e1,e2,e3];exact⟨rfl,hc,xn hg0 hg (fun j hj=>.inl hj)⟩
    ·have hz2:¬hl.getD i 0=0:=by rw[beq_eq_false_iff_ne]at hz2;omega
     refine⟨⟨rfl,i+1,by omega,rfl,next ?_⟩,by omega⟩;unfold qQ;rw[Bool.and_eq_false_iff];right;rw[beq_eq_false_iff_ne];exact hz2
   ·have hz:¬l.getD i 0=0:=by rw[beq_eq_false_iff_ne]at hz;omega
    refine⟨⟨rfl,i+1,by omega,rfl,next ?_⟩,by omega⟩;unfold qQ;rw[Bool.and_eq_false_iff];left;rw[beq_eq_false_iff_ne];exact hz
  ·obtain rfl:i=l.length:=by omega
   refine zd (decide_eq_false (by omega)) ?_;have hno:¬zF l hl<l.length:=by omega
   have e1:takeN l hl=0:=by unfold takeN;rw[if_neg hno]
   have e2:yW l hl=9:=by unfold yW;rw[if_neg hno]
   have e3:yX l hl=l:=by unfold yX;rw[if_neg hno]
   rw[e1,e2,e3];exact⟨rfl,hcw,hg0⟩
 ·refine zd (by rfl) ?_;show(za _ _ _) w.drew;rcases hh with ⟨rfl,rfl⟩|⟨b2,r2,rfl,⟨q2,hc2⟩,hl2,_,_⟩
  ·exact zd (by rfl) (hJ _ _ rfl)
  ·refine zf (by rfl) ?_;have hcd:=h.ext (Ext.refl w).drew;have hcd2:=hc2.ext (Ext.refl w).drew;refine zp ?_;have rd:∀ {b r:Nat} {q:List Value} {l:List Nat} {K:(Int×Int×Unit)->WP},Cnt w.drew b r size q l->K (size,(l.length:Int),()) w.drew->zl [(.int .i64),(.int .i64)] ⟨b,0,none⟩ K w.drew:=fun {b r q l K} hc hk=>by
    refine qC (ls:=[(.int .i64),(.int .i64)]) (x:=(size,(l.length:Int),())) ?_ hk;have:=hc.head.jK;exact⟨this.1,this.2.1,trivial⟩
   refine rd hcd2 ?_;refine zp ?_;refine rd hcd ?_;rw[hl2];refine⟨false,fun w'=>zph w' _ _ _ _,?_⟩;exact zd rfl (hJ _ _ rfl)
theorem zhm:Elem prog 191 194 (.int .u16 0) 2:=by
 refine⟨by kernel_rfl,by kernel_rfl,rfl⟩
theorem zpY (k:IntKind) (xs:List Nat):∀ v∈uV k xs,v.oneCell'=true:=by
 intro v hv;obtain⟨t,_,rfl⟩:=mem_map.1 hv;rfl
theorem zgn {w:World} {r n cc:Nat} {l:List Nat} (h:Sl w (some ⟨r,0,none⟩) n (uV .u16 l)) (hm:n<=4096):Calls prog 144 #[.slice (some ⟨r,0,none⟩) n cc] w (Ret fun v w'=>∃ A c,v=.slice A n c/\Own 194 w' w.heap.size A n c (uV .u16 l)/\Ext w w'):=by
 apply zl9;unfold S144;refine zd (by rfl) ?_;apply yE;have ho:Own 194 (w.alloc (.cells #[] 194)) w.heap.size (some ⟨w.heap.size,0,none⟩) 0 0 []:=Own.lit (cs:=#[]) (Nat.le_refl _) (by simp);have he:Ext w (w.alloc (.cells #[] 194)):=(Ext.refl w).alloc _;have hs:Sl (w.alloc (.cells #[] 194)) (some ⟨r,0,none⟩) n (uV .u16 l):=h.ext he;refine zam (c:=0) (n:=0) (m:=n) zhm ho he.size hs (zpY .u16 l) (by omega) (by omega) ?_;intro A' c' w' ho' hg _;rw[List.nil_append,Nat.zero_add]at ho';rw[Nat.zero_add];exact⟨A',c',rfl,ho',he.grown hg.grown (ho.row')⟩
def zcz (n:Nat):List Nat:=1::1::List.replicate (n-2) 0
theorem zkW (w:World) (size blocks:Int):Calls prog 114 #[.agg #[.int .i64 size,.int .i64 blocks]] w (Ret fun v w'=>∃ x:Option Addr,v=.tuple #[.pointer x,.int .i64 (if zZ size blocks then 0 else 2)]/\(if zZ size blocks then ∃ b r,x=some ⟨b,0,none⟩/\Cnt w' b r size [] (zcz blocks.toNat)/\w.heap.size<=b/\w.heap.size<=r else x=none)/\Ext w w'):=by
 apply zlO;unfold S114;apply yE;have hb:Blk (w.alloc (.cells #[(.int .i64 size),(.int .i64 blocks)] 72)) w.heap.size [(.int .i64 size),(.int .i64 blocks)] 72:=Blk.new w _ _;have he:Ext w (w.alloc (.cells #[(.int .i64 size),(.int .i64 blocks)] 72)):=(Ext.refl w).alloc _;generalize w.alloc (.cells #[(.int .i64 size),(.int .i64 blocks)] 72)=w1 at hb he ⊢;refine zaV (ls:=[(.int .i64),(.int .i64)]) (x:=(size,blocks,())) hb rfl ?_;refine zb (qx w1 size blocks) ?_;rintro _ w2 ⟨rfl,he2⟩;refine⟨_,rfl,?_⟩;have he02:=he.trans he2;have hb2:=hb.ext he2;cases hok:zZ size blocks with
 |false=>
  rw[if_neg (by simp)];refine zf (by rfl) ?_;exact⟨none,rfl,by rw[if_neg (by simp)],he02⟩
 |true=>
  rw[if_pos rfl];refine zd (by rfl) ?_;unfold zZ at hok;have hok:=of_decide_eq_true hok;obtain⟨n,rfl⟩:∃ n:Nat,blocks=n:=⟨blocks.toNat,by omega⟩;have he3:=he02.drew;have hb3:=hb2.drew;show(zl _ _ _) w2.drew;generalize w2.drew=w3 at he3 hb3 ⊢;refine zaV (ls:=[(.int .i64),(.int .i64)]) (x:=(size,(n:Int),())) hb3 rfl ?_;refine xj (o:=1) (x:=(n:Int)) hb3 (by rfl) ?_;refine uQ (B:=w3.heap.size) zhm rfl (Nat.le_refl _) (by omega) (by omega) ?_;intro w4 ho4 hg4;have he4:Ext w w4:=he3.none hg4;have h34:Ext w3 w4:=(Ext.refl w3).none hg4;have hrow:Blk w4 w3.heap.size (List.replicate n (.int .u16 0)) 194:=zdV ho4;have hr1:w.heap.size<=w3.heap.size:=he3.size;generalize w3.heap.size=r at hrow hr1 ⊢;have hb4:=hb3.ext h34;refine⟨fun ls hls p hp=>?_,?_⟩
  ·simp only [mem_singleton]at hls;subst hls;have hc:=hb4.jK;rcases mem_cons.1 hp with rfl|hp
   ·exact hc.1
   ·rcases mem_cons.1 hp with rfl|hp
    ·exact hc.2.1
    ·cases hp
  apply yE;have hnb:Blk (w4.alloc (.cells #[(.int .i64 size),(.int .i64 (n:Int)),(.slice (some ⟨r,0,none⟩) n n)] 193)) w4.heap.size [(.int .i64 size),(.int .i64 (n:Int)),(.slice (some ⟨r,0,none⟩) n n)] 193:=Blk.new w4 _ _;have hrow5:=hrow.alloc (.cells #[(.int .i64 size),(.int .i64 (n:Int)),(.slice (some ⟨r,0,none⟩) n n)] 193);have he5:=he4.alloc (.cells #[(.int .i64 size),(.int .i64 (n:Int)),(.slice (some ⟨r,0,none⟩) n n)] 193);have hrlt:=hrow.lt;have hb1:=he4.size;dsimp only at hnb hrow5 he5 ⊢;generalize w4.alloc (.cells #[(.int .i64 size),(.int .i64 (n:Int)),(.slice (some ⟨r,0,none⟩) n n)] 193)=w5 at hnb hrow5 he5 ⊢;generalize w4.heap.size=b at hnb hrlt hb1 ⊢;have he6:=he5.drew;have hnb6:=hnb.drew;have hrow6:=hrow5.drew;show(zh _ _) w5.drew;generalize w5.drew=w6 at he6 hnb6 hrow6 ⊢;refine zp ?_;refine xj (o:=2) (x:=(some ⟨r,0,none⟩,n,n)) hnb6 (by rfl) ?_;refine zp ?_;refine xj (o:=2) (x:=(some ⟨r,0,none⟩,n,n)) hnb6 (by rfl) ?_;dsimp only;refine zE ⟨by omega,by omega⟩ (zp ?_);rw[show((aD r).add (Int.toNat 0*1))=⟨r,0,none⟩ by rw[zx];rfl];refine zU hrow6 (by rw[length_replicate];omega) ?_;have hrow7:=hrow6.set 0 (.int .u16 1);have hnb7:=hnb6.other (p:=⟨r,0,none⟩) (by simp only;omega) (.int .u16 1);have he7:=he6.set (p:=⟨r,0,none⟩) hr1 (.int .u16 1);refine zE ⟨by omega,by omega⟩ (zp ?_);rw[show((aD r).add (Int.toNat 1*1))=⟨r,1,none⟩ by rw[zx];rfl];refine zU hrow7 (by rw[length_set,length_replicate];omega) ?_;have hrow8:=hrow7.set 1 (.int .u16 1);have hnb8:=hnb7.other (p:=⟨r,1,none⟩) (by simp only;omega) (.int .u16 1);have he8:=he7.set (p:=⟨r,1,none⟩) hr1 (.int .u16 1);refine⟨some ⟨b,0,none⟩,rfl,?_,he8⟩;rw[if_pos rfl];have hlen:(zcz (Int.toNat (n:Int))).length=n:=by simp[zcz];omega
  have hcells:((List.replicate n (Value.int .u16 0)).set 0 (.int .u16 1)).set 1 (.int .u16 1)=uV .u16 (zcz (Int.toNat (n:Int)))++[]:=by
   rw[append_nil,Int.toNat_natCast];obtain⟨m,rfl⟩:∃ m,n=m+2:=⟨n-2,by omega⟩;simp[zcz,uV,List.replicate_succ]
  rw[hcells]at hrow8;refine⟨b,r,rfl,⟨by rw[hlen];exact hnb8,hrow8,by omega,by rw[hlen];omega,fun x hx=>?_⟩,hb1,hr1⟩;simp only [zcz,mem_cons,List.mem_replicate]at hx;omega
theorem zm7 {e:TypeId} {w:World} {B n c:Nat} {A:Option Addr} {vs:List Value} (h:Own e w B A n c vs) (hn:0<n):∃ g q,A=some ⟨g,0,none⟩/\Blk w g (vs++q) e/\c=n+q.length/\B<=g:=by
 rcases h.2 with ⟨h1,h2⟩|⟨g,cap,cur,hv,hbg,hg,hnc,hcm,hcs,htake⟩
 ·omega
 ·injection hv with hv1 hv2 hv3
  subst hv1 hv3;refine⟨g,cur.toList.drop n,rfl,?_,by rw[length_drop,Array.length_toList,hcs];omega,hbg⟩;rw[<- htake,Nat.mul_one,List.take_append_drop];show w.heap[g]?=_;rw[hg]
theorem zfu {w:World} {b r:Nat} {size:Int} {q:List Value} {l:List Nat} (h:Cnt w b r size q l):Calls prog 96 #[.pointer (some ⟨b,0,none⟩)] w (Ret fun v w'=>(∃ b2 r2 q2,v=.pointer (some ⟨b2,0,none⟩)/\Cnt w' b2 r2 size q2 l/\w.heap.size<=b2/\w.heap.size<=r2)/\Ext w w'):=by
 apply zo8;unfold S96;have hl:=h.len;refine zd (by rfl) ?_;have he1:=(Ext.refl w).drew;have h1:=h.ext he1;show(zh _ _) w.drew;generalize w.drew=w1 at he1 h1 ⊢;refine zp ?_;have hc:=h1.head.jK;refine qC (ls:=[(.int .i64),(.int .i64)]) (x:=(size,(l.length:Int),())) ⟨hc.1,hc.2.1,trivial⟩ ?_;refine zp ?_;refine xj (o:=2) (x:=(some ⟨r,0,none⟩,l.length,l.length+q.length)) h1.head (by rfl) ?_;dsimp only;have hsl:Sl w1 (some ⟨r,0,none⟩) l.length (uV .u16 l):=⟨by rw[kU],by omega,fun _=>⟨_,rfl,fun j v hj=>by
  have hjl:j<(uV .u16 l).length:=(List.getElem?_eq_some_iff.1 hj).1
  rw[zx,h1.row.cell,Nat.zero_add,List.getElem?_append_left hjl]
  exact hj⟩⟩
 refine zb (zgn hsl (by omega)) ?_;rintro _ w2 ⟨A,c,rfl,ho,he2⟩;refine⟨(A,l.length,c),rfl,?_⟩;dsimp only;obtain⟨g,q2,rfl,hg,rfl,hBg⟩:=zm7 ho (by omega);have h2:=h1.ext he2;have hc2:=h2.head.jK;refine⟨fun ls hls p hp=>?_,?_⟩
 ·simp only [mem_singleton]at hls;subst hls;rcases mem_cons.1 hp with rfl|hp
  ·exact hc2.1
  ·rcases mem_cons.1 hp with rfl|hp
   ·exact hc2.2.1
   ·cases hp
 apply yE;have hnb:Blk (w2.alloc (.cells #[(.int .i64 size),(.int .i64 (l.length:Int)),(.slice (some ⟨g,0,none⟩) l.length (l.length+q2.length))] 193)) w2.heap.size [(.int .i64 size),(.int .i64 (l.length:Int)),(.slice (some ⟨g,0,none⟩) l.length (l.length+q2.length))] 193:=Blk.new w2 _ _;have hgl:=hg.lt;have hs1:=he1.size;have hs2:=he2.size;exact⟨⟨w2.heap.size,g,q2,rfl,⟨hnb,hg.alloc _,by omega,hl,h.fits⟩,by omega,by omega⟩,(he1.trans he2).alloc _⟩
end V
/- Contracts of counts.Pages and what it calls. -/
namespace V
open Go Go.Proofs Go.RowKit
theorem zkX:j9 prog 158 9 (.string ByteArray.empty) xM.k 16:=by
 refine⟨by kernel_rfl,by kernel_rfl,rfl⟩
theorem Owni.qy {α:Type} {E:Enc α} {e:TypeId} {w w':World} {B a b n c:Nat} {A:Option Addr} {xs:List α} (h:Owni E e w B A n c xs) (hs:yY a b w w') (ha:a<B) (hb:b<B):Owni E e w' B A n c xs:=by
 refine⟨h.1,?_⟩;rcases h.2 with h1|⟨g,cap,cur,hv,hB,hg,r⟩
 ·exact .inl h1
 ·exact .inr ⟨g,cap,cur,hv,hB,(hs.2.2.2.2 g (by omega) (by omega)).trans hg,r⟩
theorem Ext.qy {w0 w w':World} {a b:Nat} (h:Ext w0 w) (hs:yY a b w w') (ha:w0.heap.size<=a) (hb:w0.heap.size<=b):Ext w0 w':=
 ⟨hs.1.trans h.os,hs.2.1.trans h.tape,hs.2.2.1.trans h.output,by have:=h.size;have:=hs.2.2.2.1;omega,fun k hk=>(hs.2.2.2.2 k (by omega) (by omega)).trans (h.block k hk)⟩
def zc5 (l:List Nat) (per i:Nat):List UInt8:=((l.drop (i*per)).take per).flatMap (le 2)
def zW (l:List Nat) (per:Nat):List ByteArray:=(List.range (yo l.length per)).map fun i=>⟨(zc5 l per i).toArray⟩
def zM (size:Int):Nat:=(Int.tdiv (zH size) 2).toNat
theorem kj {size:Int} (hs:zZ size 8=true):56<=zM size/\zM size<=2040/\wrap .i64 (Int.tdiv (zH size) 2)=((zM size:Nat):Int):=by
 unfold zM zH;rw[if_pos hs];unfold zZ at hs;have hs:=of_decide_eq_true hs;have e:Int.tdiv (size-16) 2=(size-16) / 2:=Int.tdiv_eq_ediv_of_nonneg (by omega);rw[e,wrap_i64 (by omega) (by omega)];omega
theorem zqk {w:World} {r n:Nat} {l:List Nat} {q:List Value} {k:IntKind} {t:TypeId} (h:Blk w r (uV k l++q) t) (hn:l.length=n) (hm:n<=4096):Sl w (some ⟨r,0,none⟩) n (uV k l):=
 ⟨by rw[kU,hn],by omega,fun _=>⟨_,rfl,fun j v hj=>by
  have hjl:j<(uV k l).length:=(List.getElem?_eq_some_iff.1 hj).1
  rw[zx,h.cell,Nat.zero_add,List.getElem?_append_left hjl]
  exact hj⟩⟩
theorem zpi (k:IntKind) (l:List Nat) (i:Nat):(uV k l).drop i=uV k (l.drop i):=by simp[uV,List.map_drop]
theorem zpj (k:IntKind) (l:List Nat) (i:Nat):(uV k l).take i=uV k (l.take i):=by simp[uV,List.map_take]
theorem zio {w:World} {b r:Nat} {size:Int} {q:List Value} {l:List Nat} (h:Cnt w b r size q l) (hs:zZ size 8=true):Calls prog 141 #[.pointer (some ⟨b,0,none⟩)] w (Ret fun v w'=>∃ x:SLC,v=.slice x.1 x.2.1 x.2.2/\Owni xM 9 w' w.heap.size x.1 x.2.1 x.2.2 (zW l (zM size))/\Ext w w'):=by
 apply zl6;unfold S141;have hl:=h.len;obtain⟨hp1,hp2,hper⟩:=kj hs;apply yE;have hr1:=Blk.new w #[.slice none 0 0] 158;have he1:=(Ext.refl w).alloc (.cells #[.slice none 0 0] 158);generalize w.alloc (.cells #[.slice none 0 0] 158)=w1 at hr1 he1 ⊢;generalize hrr:w.heap.size=r1 at hr1 ⊢;refine zd (by rfl) ?_;have he1:=he1.drew;have hr1:=hr1.drew;have h1:=h.ext he1;show(zh _ _) w1.drew;generalize w1.drew=w2 at he1 hr1 h1 ⊢;refine zp ?_;refine xj (o:=2) (x:=(some ⟨r,0,none⟩,l.length,l.length+q.length)) h1.head (by rfl) ?_;dsimp only;refine zp ?_;refine zo (x:=size) h1.head (by rfl) ?_;refine zb (jz w2 size) ?_;rintro _ w3 ⟨rfl,he3⟩;refine⟨_,rfl,?_⟩;have he03:=he1.trans he3;have hr3:=hr1.ext he3;have h3:=h1.ext he3;refine⟨fun ls hls p hp=>?_,?_⟩
 ·simp only [mem_singleton]at hls;subst hls;simp only [mem_singleton]at hp;subst hp;exact h3.head.jK.2.2.1
 rw[hper];refine zb (zgm (by omega) (by omega) (by omega)) ?_;rintro v w4 ⟨hit,hRc,hs4,he4⟩;refine⟨v,rfl,?_⟩;have he04:=he03.trans he4;have hr4:=hr3.ext he4;have h4:=h3.ext he4;have hsz:=he03.size;have hr3lt:=hr3.lt;generalize hper2:zM size=per at *;refine zaX (R:=zbs w3.heap.size (w3.heap.size+1) (some ⟨r,0,none⟩) l.length (l.length+q.length) per) (fun i w'=>Ext w w'/\zbs w3.heap.size (w3.heap.size+1) (some ⟨r,0,none⟩) l.length (l.length+q.length) per w'/\∃ A c,Blk w' r1 [.slice A i c] 158/\Owni xM 9 w' (w4.heap.size+2) A i c ((zW l per).take i)) hit (fun i w' hI=>hI.2.1) (fun i w' hI=>⟨hI.1.drew,hI.2⟩) ?_ ?_ ?_ ?_
 ·rintro i w' w'' hsb ⟨e1,⟨e2,e3⟩,A,c,e4,e5⟩;exact⟨e1.qy hsb (by omega) (by omega),⟨(hsb.2.2.2.2 _ (by omega) (by omega)).trans e2,(hsb.2.2.2.2 _ (by omega) (by omega)).trans e3⟩,A,c,(hsb.2.2.2.2 _ (by omega) (by omega)).trans e4,e5.qy hsb (by omega) (by omega)⟩
 ·intro o;exact⟨(he04.alloc _).alloc _,⟨(hRc.1.alloc _).alloc _,(hRc.2.alloc _).alloc _⟩,none,0,(hr4.alloc _).alloc _,Owni.nil _ _ _⟩
 ·rintro i hi w' N jump ⟨e1,⟨e2,e3⟩,A,c,e4,e5⟩ hsz' hN;rw[xN]at hi;have hin:=(uW (by omega)).1 hi;refine⟨((zn (some ⟨r,0,none⟩) (i*per) (i*per+min per (l.length-i*per)) 1,min per (l.length-i*per),min per (l.length-i*per)),()),by simp[qD],?_⟩;dsimp only;have hcut:Sl w' (zn (some ⟨r,0,none⟩) (i*per) (i*per+min per (l.length-i*per)) 1) (min per (l.length-i*per)) (uV .u16 ((l.drop (i*per)).take per)):=by
   have:=(zqk (h.ext e1).row rfl hl.2).cut (l:=i*per) (k:=min per (l.length-i*per)) (m:=i*per+min per (l.length-i*per)) (by omega) (by omega);rw[zpi,zpj]at this;have e:(l.drop (i*per)).take (min per (l.length-i*per))=(l.drop (i*per)).take per:=by
    rcases Nat.le_total per (l.length-i*per) with h|h
    ·rw[Nat.min_eq_left h]
    ·rw[Nat.min_eq_right h,take_of_length_le (by simp),take_of_length_le (by simpa using h)]
   rw[e]at this;exact this
  have hml:((l.drop (i*per)).take per).length=min per (l.length-i*per):=by simp
  generalize min per (l.length-i*per)=m at hcut hml ⊢;generalize zn (some ⟨r,0,none⟩) (i*per) (i*per+m) 1=X at hcut ⊢;have hpage:zc5 l per i=((l.drop (i*per)).take per).flatMap (le 2):=rfl;have hcs:∀ x∈(l.drop (i*per)).take per,x<65536:=fun x hx=>h.fits x (List.mem_of_mem_drop (List.mem_of_mem_take hx))
  have hm:m<=4096:=by have:((l.drop (i*per)).take per).length<=l.length:=by simp;omega
                      omega
  generalize (l.drop (i*per)).take per=cs at hcut hml hpage hcs;refine zu (fun y w2=>Ext w' w2/\∃ (j:Nat) (A2:Option Addr) (c2:Nat),j<=m/\y=((A2,2*j,c2),(j:Int),())/\Own 5 w2 w'.heap.size A2 (2*j) c2 (bV ((cs.take j).flatMap (le 2)))) (fun y=>(m-y.2.1).toNat) ⟨Ext.refl w',0,none,0,by omega,rfl,Own.nil _ _ _⟩ ?_;rintro _ w5 ⟨e6,j,A2,c2,hj,rfl,ho⟩;dsimp only
  by_cases hlt:j<m
  ·refine zf (decide_eq_true (by omega)) ?_;have hcut5:=hcut.ext e6;refine zE ⟨by omega,by omega⟩ ?_;obtain⟨a,ha,hcell⟩:=hcut5.2.2 (by omega);refine⟨a,ha,?_⟩;rw[Int.toNat_natCast,Nat.mul_one];refine zaC (x:=((cs.getD j 0:Nat):Int)) (hcell j _ (zkT (by omega))) ?_;have hx:cs.getD j 0<65536:=by
    rw[getD_eq_getElem?_getD,List.getElem?_eq_getElem (by omega)];exact hcs _ (getElem_mem _)
   rw[zz (by omega)];refine zb (xt (k:=2) ho e6.size (by omega) (by omega) (by omega) (by omega)) ?_;rintro _ w6 ⟨x,rfl,ho6,hg6⟩;refine⟨x,rfl,?_⟩;rw[wrap_i64 (by omega) (by omega)];have hlen:x.2.1=2*(j+1):=by
    have:=ho6.sl.blen;rw[length_append,zy]at this;have:=ho.sl.blen;omega
   obtain⟨x1,x2,x3⟩:=x;dsimp only at hlen ho6 hg6 ⊢;subst hlen;refine⟨⟨e6.grown hg6.grown ho.row',j+1,x1,x3,by omega,rfl,?_⟩,by omega⟩;have e:(cs.take (j+1)).flatMap (le 2)=(cs.take j).flatMap (le 2)++le 2 (cs.getD j 0):=by
    rw[take_succ_eq_append_getElem (by omega),flatMap_append,getD_eq_getElem?_getD,List.getElem?_eq_getElem (by omega)];simp
   rw[e];exact ho6
  ·obtain rfl:j=m:=by omega
   refine zd (decide_eq_false (by omega)) ?_;rw[take_of_length_le (by omega),<- hpage]at ho;refine zo (x:=(A,i,c)) (e4.ext e6) (by rfl) ?_;dsimp only;refine qa (e:=5) (by kernel_rfl) (by kernel_rfl) (by kernel_rfl) ho.sl ?_;have hii:i<=4096:=by
    have:i*1<=i*per:=Nat.mul_le_mul_left _ (by omega);omega
   refine yG (E:=xM) (ys:=[(⟨(zc5 l per i).toArray⟩:ByteArray)]) (by rfl) rfl zkX (e5.ext e6) (by have:=e6.size;omega) (by omega) (by omega) ?_;intro A3 c3 w6 ho3 hg3;have e46:Blk w6 r1 [.slice A i c] 158:=(e4.ext e6).grown hg3.grown (by intro hh;have:=e5.row _ hh.symm;omega);refine zU e46 (by simp) ?_;have hset:=e46.set 0 (.slice A3 (i+1) c3);have e7:=e1.trans e6;have e8:Ext w w6:=e7.grown hg3.grown (fun j hj=>by have:=e5.row j hj;omega);have hx6:∀ k,k<w4.heap.size+2->w6.heap[k]?=w'.heap[k]?:=fun k hk=>by
    rw[hg3.grown.block k (by have:=e6.size;omega) (fun hh=>by have:=e5.row _ hh.symm;omega)];exact e6.block k (by omega)
   refine hN _ ⟨e8.set (by simp only;omega) _,⟨?_,?_⟩,A3,c3,hset,?_⟩ ?_ ?_
   ·exact Blk.other (show Blk w6 _ _ _ from(hx6 _ (by omega)).trans e2) (by simp only;omega) _
   ·exact Blk.other (show Blk w6 _ _ _ from(hx6 _ (by omega)).trans e3) (by simp only;omega) _
   ·have e9:(zW l per).take (i+1)=(zW l per).take i++[(⟨(zc5 l per i).toArray⟩:ByteArray)]:=by
     rw[take_succ_eq_append_getElem (by simpa [zW] using hi)];simp[zW]
    rw[e9];refine ho3.grown (row:=some r1) ⟨rfl,rfl,rfl,by simp,fun k hk hne=>Below.heap_setCell _ _ _ _ (fun e=>hne (by rw[e]))⟩ (fun j hj he=>?_);injection hj with hj
    have:=ho3.row _ he;omega
   ·have:=hg3.grown.size;have:=e6.size;simp;omega
   ·intro k hk;rw[Below.heap_setCell _ _ _ _ (by simp only;omega)];exact hx6 k (by omega)
 ·rintro w' ⟨e1,⟨e2,e3⟩,A,c,e4,e5⟩ hsz' hd;have elen:(zW l per).length=yo l.length per:=by simp[zW]
  rw[xN]at e4 e5;rw[take_of_length_le (by omega)]at e5;show(ldW _ _ _) w';refine zo (x:=(A,yo l.length per,c)) e4 (by rfl) ?_;dsimp only;refine zU e4 (by simp) ?_;have hset:=e4.set 0 (.slice A (yo l.length per) c);refine jL (by rw[Below.heap_setCell _ _ _ _ (by simp only;omega)];exact hd) ?_;show(ldW _ _ _) _;refine zo (x:=(A,yo l.length per,c)) (show Blk _ r1 [.slice A (yo l.length per) c] 158 from(zQ (by omega)).trans hset) (by rfl) ?_;refine⟨(A,yo l.length per,c),rfl,?_,(e1.set (by simp only;omega) _).yA (by omega) _⟩;have e6:=e5.grown (w':=w'.setCell ⟨r1,0,none⟩ (.slice A (yo l.length per) c)) (row:=some r1) ⟨rfl,rfl,rfl,by simp,fun k hk hne=>Below.heap_setCell _ _ _ _ (fun e=>hne (by rw[e]))⟩ (fun j hj he=>by
   injection hj with hj
   have:=e5.row _ he
   omega)
  have e7:Owni xM 9 (yA (w'.setCell ⟨r1,0,none⟩ (.slice A (yo l.length per) c)) w4.heap.size (.deferred none)) (w4.heap.size+2) A (yo l.length per) c (zW l per):=
   e6.qy (ya (b:=w4.heap.size) (.inl rfl)) (by omega) (by omega)
  exact e7.lower (by omega)
end V
/- Pages of counts,read again:plain. -/
namespace V
open Go
end V
/- Contracts of counts.Load and of the reference's counts. -/
namespace V
open Go Go.Proofs Go.RowKit
theorem zql (a b:Nat):Int.tdiv (a:Int) (b:Int)=((a / b:Nat):Int):=rfl
theorem zd1 {size:Int} (hs:zZ size 8=true):zH size=((2*zM size:Nat):Int):=by
 unfold zM zH;rw[if_pos hs];unfold zZ at hs;have hs:=of_decide_eq_true hs;have e:Int.tdiv (size-16) 2=(size-16) / 2:=Int.tdiv_eq_ediv_of_nonneg (by omega);have e2:Int.tmod size 64=size % 64:=Int.tmod_eq_emod_of_nonneg (by omega);rw[e];omega
theorem zd2 {size blocks:Int} (h:zZ size blocks=true):zZ size 8=true/\∃ n:Nat,blocks=n/\8<=n/\n<=4096:=by
 unfold zZ at h ⊢;have h:=of_decide_eq_true h;exact⟨decide_eq_true (by omega),blocks.toNat,by omega⟩
def spages (size blocks:Int):Int:=if zZ size blocks then ((yo blocks.toNat (zM size):Nat):Int) else 0
theorem zhn (w:World) (size blocks:Int):Calls prog 115 #[.agg #[.int .i64 size,.int .i64 blocks]] w (Ret fun v w'=>v=.int .i64 (spages size blocks)/\Ext w w'):=by
 apply zg1;unfold S115 spages;apply yE;have hb:Blk (w.alloc (.cells #[(.int .i64 size),(.int .i64 blocks)] 72)) w.heap.size [(.int .i64 size),(.int .i64 blocks)] 72:=Blk.new w _ _;have he:Ext w (w.alloc (.cells #[(.int .i64 size),(.int .i64 blocks)] 72)):=(Ext.refl w).alloc _;generalize w.alloc (.cells #[(.int .i64 size),(.int .i64 blocks)] 72)=w1 at hb he ⊢;refine zaV (ls:=[(.int .i64),(.int .i64)]) (x:=(size,blocks,())) hb rfl ?_;refine zb (qx w1 size blocks) ?_;rintro _ w2 ⟨rfl,he2⟩;refine⟨_,rfl,?_⟩;have he02:=he.trans he2;have hb2:=hb.ext he2;cases hok:zZ size blocks with
 |false=>rw[if_neg (by simp),if_neg (by simp)];exact zf (by rfl) ⟨rfl,he02⟩
 |true=>
  rw[if_pos rfl,if_pos rfl];refine zd (by rfl) ?_;obtain⟨h8,n,rfl,hn1,hn2⟩:=zd2 hok;refine zo (x:=size) hb2 (by rfl) ?_;refine zb (jz w2 size) ?_;rintro _ w3 ⟨rfl,he3⟩;refine⟨_,rfl,?_⟩;refine xj (o:=1) (x:=(n:Int)) (hb2.ext he3) (by rfl) ?_;obtain⟨hp1,hp2,_⟩:=kj h8;rw[zd1 h8,Int.toNat_natCast];generalize zM size=per at hp1 hp2 ⊢;refine zE (by omega) ⟨?_,he02.trans he3⟩;rw[wrap_i64 (x:=(2:Int)*(n:Int)) (by omega) (by omega),wrap_i64 (x:=(2:Int)*(n:Int)+((2*per:Nat):Int)) (by omega) (by omega),wrap_i64 (x:=(2:Int)*(n:Int)+((2*per:Nat):Int)-1) (by omega) (by omega)];rw[show(2:Int)*(n:Int)+((2*per:Nat):Int)-1=((2*n+2*per-1:Nat):Int) by omega,zql];have e:(2*n+2*per-1) / (2*per)=yo n per:=by
   unfold yo;rw[<- Nat.div_div_eq_div_mul];congr 1;omega
  rw[e];have:yo n per<=n:=by
   unfold yo;rw[Nat.div_le_iff_le_mul_add_pred (by omega)];have:1*n<=per*n:=Nat.mul_le_mul_right _ (by omega);omega
  rw[wrap_i64 (by omega) (by omega)]
end V
/- Contracts of the package super,and of the document's answer (11):pages,checks,blocks. -/
namespace V
open Go Go.Proofs Go.RowKit Crc
theorem znF {ls:List Lf} {w:World} {b o:Nat} {cs rest:List Value} {t:TypeId} {K:LT ls->WP} (x:LT ls) (h:Blk w b cs t) (hx:cs.drop o=LT.vals ls x++rest) (hK:K x w):zl ls ((aD b).add o) K w:=by
 refine qC (x:=x) ?_ hK;refine zbn (a:=⟨b,0,none⟩) rfl (vs:=LT.vals ls x) (o:=o) ?_ _ 0 rfl;intro j v hj;rw[zx,h.cell,Nat.zero_add,<- List.getElem?_drop,hx,List.getElem?_append_left]
 ·exact hj
 ·exact(List.getElem?_eq_some_iff.1 hj).1
theorem znG {l:Lf} {w:World} {b:Nat} {cs:List Value} {t:TypeId} {K:l.T->WP} (x:l.T) (h:Blk w b cs t) (hx:cs[2]?=some (l.val x)) (hK:K x w):ldW l (((aD b).add 1).add 1) K w:=by
 rw[show(((aD b).add 1).add 1)=(aD b).add 2 by simp only [zx]];exact zk 2 x h hx hK
theorem zqm {w:World} {a:Addr} {v:Value} {K:WP} (h:w.cell? a=some v) (hK:K w):zr [[(a,v)]] K w:=by
 refine⟨fun l hl p hp=>?_,hK⟩;simp only [mem_singleton]at hl;subst hl;simp only [mem_singleton]at hp;subst hp;exact h
theorem zgA {w:World} {b o:Nat} {cs:List Value} {t:TypeId} {v:Value} {K:WP} (h:Blk w b cs t) (hv:cs[o]?=some v) (hK:K w):zr [[((aD b).add o,v)]] K w:=
 zqm (by rw[zx,h.cell,Nat.zero_add];exact hv) hK
abbrev sLs:List Lf:=[.int .u64,.int .i64,.int .i64,.int .u32,.slc]
def sT (s:Sup) (x:SLC):Int×Int×Int×Int×SLC×Unit:=((s.gen:Int),s.size,s.blocks,(s.root:Int),x,())
def sV (s:Sup) (x:SLC):List Value:=[.int .u64 (s.gen:Int),.int .i64 s.size,.int .i64 s.blocks,.int .u32 (s.root:Int),.slice x.1 x.2.1 x.2.2]
theorem zpZ (s:Sup) (x:SLC):∀ v∈sV s x,v.oneCell'=true:=by
 intro v hv;simp only [sV,mem_cons,not_mem_nil,or_false]at hv;rcases hv with rfl|rfl|rfl|rfl|rfl<;>rfl
structure Pg (w:World) (x:SLC) (ps:List Nat):Prop where
 sl:Sli (zw .u32) w x.1 x.2.1 ps
 nc:x.2.1<=x.2.2
theorem Pg.ext {w w':World} {x:SLC} {ps:List Nat} (h:Pg w x ps) (he:Ext w w'):Pg w' x ps:=⟨h.sl.ext he,h.nc⟩
theorem Pg.len {w:World} {x:SLC} {ps:List Nat} (h:Pg w x ps):ps.length=x.2.1:=h.sl.len
theorem zd3 (w:World) (size blocks:Int):Calls prog 115 #[.agg #[.int .i64 size,.int .i64 blocks]] w (Ret fun v w'=>v=.int .i64 (kS size blocks)/\Ext w w'):=by
 apply zg1;unfold S115 kS;refine zs fun r1 w1 hb1 he1 _ _=>?_;refine zR (ls:=[.int .i64,.int .i64]) (size,blocks,()) hb1 rfl ?_;refine zb (qx w1 size blocks) ?_;rintro _ w2 ⟨rfl,he2⟩;refine⟨_,rfl,?_⟩;have hb1:=hb1.ext he2;have he:=he1.trans he2;cases hg:zZ size blocks with
 |false=>exact zf (by rfl) ⟨rfl,he⟩
 |true=>
  obtain⟨h0,h1,h2,h3,h4⟩:=qn hg;refine zd (by rfl) ?_;refine zC size hb1 (by rfl) ?_;refine zb (jz w2 size) ?_;rintro _ w3 ⟨rfl,he3⟩;refine⟨_,rfl,?_⟩;have hb1:=hb1.ext he3;refine zk 1 blocks hb1 (by rfl) (zE (by omega) ?_);rw[if_pos rfl];have hd:Int.tdiv (2*blocks+zH size-1) (zH size)=(2*blocks+zH size-1) / zH size:=Int.tdiv_eq_ediv_of_nonneg (by omega);have hle:=Int.ediv_le_self (a:=2*blocks+zH size-1) (zH size) (by omega);have h0':=Int.ediv_nonneg (a:=2*blocks+zH size-1) (b:=zH size) (by omega) (by omega);rw[wrap_i64 (x:=2*blocks) (by omega) (by omega),wrap_i64 (x:=2*blocks+zH size) (by omega) (by omega),wrap_i64 (x:=2*blocks+zH size-1) (by omega) (by omega),hd,wrap_i64 (by omega) (by omega)];exact⟨rfl,he.trans he3⟩
theorem zeS {w:World} {b:Nat} {s:Sup} {x:SLC} {t:TypeId} {n:Nat} (hb:Blk w b (sV s x) t) (hn:n<4294967296) (h0:0<=s.blocks) (h1:s.blocks<9223372036854775808):
  Calls prog 161 #[.int .u32 (n:Int),.pointer (some ⟨b,0,none⟩)] w (Ret fun v w'=>v=.bool (vZ s.blocks n)/\w'=w):=by
 apply zme;unfold S161 vZ;refine zg (fun h=>?_) (fun h=>?_)
 ·have h:=of_decide_eq_true h;refine znG s.blocks hb (by rfl) ?_;obtain⟨k,hk⟩:∃ k:Nat,s.blocks=k:=⟨s.blocks.toNat,by omega⟩;rw[hk,zz (by omega),zz (by omega)];refine⟨?_,rfl⟩;congr 1;exact decide_eq_decide.2 (by omega)
 ·have h:=of_decide_eq_false h;refine⟨?_,rfl⟩;congr 1;exact(decide_eq_false (by omega)).symm
theorem ziq {w:World} {A:Option Addr} {n c:Nat} {xs:List Nat} {y:Nat} (h:Sli (zw .u32) w A n xs):
  Calls prog 164 #[.slice A n c,.int .u32 (y:Int)] w (Ret fun v w'=>(∃ k:Int,v=.int .i64 k/\(0<=k↔y∈xs))/\w'=w):=by
 apply zmh;unfold S164;have hl:=h.len;have hle:=h.le;refine zu (fun z w'=>∃ i:Nat,i<=n/\z=((i:Int),())/\w'=w/\y∉xs.take i) (fun z=>(n-z.1).toNat) ⟨0,by omega,rfl,rfl,by simp⟩ ?_;rintro _ _ ⟨i,hi,rfl,rfl,hno⟩;dsimp only
 by_cases hlt:i<n
 ·refine zf (decide_eq_true (by omega)) ?_;refine zY h (by omega) (by omega) ?_;rw[Int.toNat_natCast];have e:xs[i]?=some (xs.getD i 0):=by rw[getD_eq_getElem?_getD,List.getElem?_eq_getElem (by omega)];rfl
  refine zg (fun hq=>?_) (fun hq=>?_)
  ·have hq:=beq_iff_eq.1 hq
   refine⟨⟨_,rfl,by constructor<;>intro _;· exact mem_of_getElem? (i:=i) (by rw[e];congr 1;omega)
                    ·omega⟩,rfl⟩
  ·have hq:=beq_eq_false_iff_ne.1 hq;refine⟨⟨i+1,by omega,by rw[wrap_i64 (by omega) (by omega)];rfl,rfl,?_⟩,by rw[wrap_i64 (by omega) (by omega)];omega⟩;rw[take_add_one,e];simp only [Option.toList_some,mem_append,mem_singleton];rintro(hh|hh)
   ·exact hno hh
   ·exact hq (by rw[hh])
 ·refine zd (decide_eq_false (by omega)) ?_
  refine⟨⟨_,rfl,by constructor;· intro hh;omega
                   ·intro hh;rw[take_of_length_le (by omega)]at hno;exact absurd hh hno⟩,rfl⟩
theorem za5 {w:World} {A:Option Addr} {n c:Nat} {xs:List Nat} {y:Nat} (h:Sli (zw .u32) w A n xs):
  Calls prog 120 #[.slice A n c,.int .u32 (y:Int)] w (Ret fun v w'=>v=.bool (decide (y∈xs))/\w'=w):=by
 apply zlT;unfold S120;refine zb (ziq (c:=c) h) ?_;rintro _ _ ⟨⟨k,rfl,hk⟩,rfl⟩;refine⟨k,rfl,?_,rfl⟩;congr 1;exact decide_eq_decide.2 (by rw[<- hk])
theorem Sup.Fits.at_ {s:Sup} (h:s.Fits) (i:Nat):s.pages.getD i 0<4294967296:=by
 by_cases hi:i<s.pages.length
 ·rw[getD_eq_getElem?_getD,List.getElem?_eq_getElem hi];exact h.pages _ (getElem_mem hi)
 ·rw[getD_eq_getElem?_getD,List.getElem?_eq_none (by omega)];show 0<4294967296
  decide
theorem zdv {w:World} {s:Sup} {x:SLC} (hf:s.Fits) (hp:Pg w x s.pages):
  Calls prog 117 #[.agg (sV s x).toArray] w (Ret fun v w'=>v=.int .i64 (chk s)/\Ext w w'):=by
 apply zlQ;unfold S117;have hlen:=hp.len;refine zs fun r1 w1 hb1 he1 _ _=>?_;have hb1:Blk w1 r1 (sV s x) 79:=hb1;have hp:=hp.ext he1;refine yi (fun _ w'=>s.head/\Ext w1 w') ?_ (fun J hJ=>?_)
 ·rintro _ w2 ⟨hh,he2⟩;have hb1:=hb1.ext he2;have hp:=hp.ext he2;have he2:=he1.trans he2;obtain⟨h0,h1,h2,h3,h4⟩:=qn hh.1;have hpl:=zjJ (size:=s.size) (blocks:=s.blocks);have hln:(s.pages.length:Int)<=20000:=by have:=hh.2.2.2;omega
  refine zk 4 x hb1 (by rfl) ?_;refine zu (fun y w'=>∃ i:Nat,i<=x.2.1/\y=((i:Int),())/\Ext w2 w'/\∀ j,j<i->s.good j) (fun y=>(x.2.1-y.1).toNat) ⟨0,by omega,rfl,Ext.refl w2,fun j hj=>by omega⟩ ?_;rintro _ w3 ⟨i,hi,rfl,he3,hgood⟩;have hb1:=hb1.ext he3;have hp:=hp.ext he3;have he3':=he2.trans he3;dsimp only
  by_cases hlt:i<x.2.1
  ·refine zf (decide_eq_true (by omega)) ?_;refine zY hp.sl (by omega) (by omega) ?_;rw[Int.toNat_natCast];refine qf (by kernel_rfl) ?_;refine zb (zeS hb1 (hf.at_ i) (by omega) (by omega)) ?_;rintro _ w4 ⟨rfl,hw⟩;subst hw;refine⟨_,rfl,?_⟩;cases hpo:vZ s.blocks (s.pages.getD i 0) with
   |false=>exact zf (by rfl) ⟨by rw[zfs (s:=s) (j:=i) (by omega) (fun h=>by rw[h.1]at hpo;cases hpo)],he3'⟩
   |true=>
    refine zd (by rfl) ?_;refine zk 3 (s.root:Int) hb1 (by rfl) ?_;refine zg (fun hq=>?_) (fun hq=>?_)
    ·have hq:=beq_iff_eq.1 hq;exact⟨by rw[zfs (s:=s) (j:=i) (by omega) (fun h=>h.2.1 (by omega))],he3'⟩
    have hq:=beq_eq_false_iff_ne.1 hq;refine zk 4 x hb1 (by rfl) (zE ⟨by omega,by have:=hp.nc;omega⟩ ?_);have hcut:=hp.sl.zfl (k:=i) (m:=x.2.2) (z:=1) rfl (by omega) (by have:=hp.nc;omega);refine zb (za5 (c:=x.2.2) hcut) ?_;rintro _ w4 ⟨rfl,hw⟩;subst hw;refine⟨_,rfl,?_⟩
    by_cases hm:s.pages.getD i 0∈s.pages.take i
    ·exact zf (decide_eq_true hm) ⟨by rw[zfs (s:=s) (j:=i) (by omega) (fun h=>h.2.2 hm)],he3'⟩
    ·refine zd (decide_eq_false hm) ?_;refine⟨⟨i+1,by omega,by rw[wrap_i64 (by omega) (by omega)];rfl,he3,fun j hj=>?_⟩,by rw[wrap_i64 (by omega) (by omega)];omega⟩
     by_cases hji:j=i
     ·subst hji;exact⟨hpo,fun e=>hq (by rw[e]),hm⟩
     ·exact hgood j (by omega)
  ·refine zd (decide_eq_false (by omega)) ?_;refine zK fun w4 he4 _ _=>?_;have hb1:=hb1.ext he4;have he4:=he3'.trans he4;refine zk 4 x hb1 (by rfl) (zk 1 s.size hb1 (by rfl) ?_);refine zb (jz w4 s.size) ?_;rintro _ w5 ⟨rfl,he5⟩;refine⟨_,rfl,?_⟩;have hb1:=hb1.ext he5;refine zgA hb1 (by rfl) ?_;rw[wrap_i64 (x:=4*(x.2.1:Int)) (by omega) (by omega),wrap_i64 (by omega) (by omega),zhh hh (fun j hj=>hgood j (by omega)),hlen];refine zg (fun hq=>?_) (fun hq=>?_)
   ·rw[if_pos (of_decide_eq_true hq)];exact⟨rfl,he4.trans he5⟩
   ·rw[if_neg (of_decide_eq_false hq)];exact⟨rfl,he4.trans he5⟩
 ·have bad:∀ {w':World},¬s.head->Ext w w'->(Value.int .i64 2=.int .i64 (chk s)/\Ext w w'):=fun h he=>⟨by rw[zm4 h],he⟩;refine zK fun w2 he2 _ _=>?_;have hb1:=hb1.ext he2;refine znF (ls:=[.int .i64,.int .i64]) (s.size,s.blocks,()) hb1 (by rfl) ?_;refine zb (qx w2 s.size s.blocks) ?_;rintro _ w3 ⟨rfl,he3⟩;refine⟨_,rfl,?_⟩;have hb1:=hb1.ext he3;have he3:=he2.trans he3;cases hg:zZ s.size s.blocks with
  |false=>exact zf (by rfl) (bad (fun h=>by rw[h.1]at hg;cases hg) (he1.trans he3))
  |true=>
   obtain⟨h0,h1,h2,h3,h4⟩:=qn hg;refine zd (by rfl) ?_;refine zC (s.gen:Int) hb1 (by rfl) ?_;refine zg (fun hq=>?_) (fun hq=>?_)
   ·exact bad (fun h=>h.2.1 (by have:=beq_iff_eq.1 hq;omega)) (he1.trans he3)
   have hgen:=beq_eq_false_iff_ne.1 hq;refine zk 3 (s.root:Int) hb1 (by rfl) ?_;have last:∀ {w':World},Blk w' r1 (sV s x) 79->Ext w1 w'->(s.root=0\/vZ s.blocks s.root=true)->
     (ldW .slc ((aD r1).add 4) fun(u:SLC)=>zl [.int .i64,.int .i64] ((aD r1).add 1) fun(v:Int×Int×Unit)=>ze prog 115 [.agg #[.int .i64 v.1,.int .i64 v.2.1]] (.one (.one (.int .i64))) fun(z:Int)=>
      zr [[((aD r1).add 4,.slice u.1 u.2.1 u.2.2)]]<|za (((u.2.1:Nat):Int) !=z) (fun w'=>Value.int .i64 (2:Int)=.int .i64 (chk s)/\Ext w w') (J ())) w':=by
    intro w' hb1 he hr;refine zk 4 x hb1 (by rfl) (znF (ls:=[.int .i64,.int .i64]) (s.size,s.blocks,()) hb1 (by rfl) ?_);refine zb (zd3 w' s.size s.blocks) ?_;rintro _ w5 ⟨rfl,he5⟩;refine⟨_,rfl,?_⟩;refine zgA (hb1.ext he5) (by rfl) ?_;refine zg (fun hq=>?_) (fun hq=>?_)
    ·exact bad (fun h=>bne_iff_ne.1 hq (by rw[<- h.2.2.2,hlen])) ((he1.trans he).trans he5)
    ·have hq:=bne_eq_false_iff_eq.1 hq;exact hJ _ _ ⟨⟨hg,by omega,hr,by rw[hlen];exact hq⟩,he.trans he5⟩
   refine zg (fun hq=>?_) (fun hq=>?_)
   ·refine zk 3 (s.root:Int) hb1 (by rfl) (qf (by kernel_rfl) ?_);refine zb (zeS hb1 hf.root (by omega) (by omega)) ?_;rintro _ w4 ⟨rfl,hw⟩;subst hw;refine⟨_,rfl,?_⟩;cases hpo:vZ s.blocks s.root with
    |false=>exact zf (by rfl) (bad (fun h=>by
      rcases h.2.2.1 with h|h
      ·exact bne_iff_ne.1 hq (by rw[h];rfl)
      ·rw[h]at hpo;cases hpo) (he1.trans he3))
    |true=>exact zd (by rfl) (last hb1 he3 (.inr hpo))
   ·have hq:=bne_eq_false_iff_eq.1 hq;exact last hb1 he3 (.inl (by omega))
theorem zdw {ps:List Nat} {i:Nat} (h:i<ps.length):yr (ps.take (i+1))=yr (ps.take i)++le 4 (ps.getD i 0):=by
 have e:ps[i]?=some (ps.getD i 0):=by rw[getD_eq_getElem?_getD,List.getElem?_eq_getElem h];rfl
 rw[take_add_one,e];simp[yr]
theorem zjN {w:World} {s:Sup} {x:SLC} (hf:s.Fits) (hp:Pg w x s.pages):
  Calls prog 143 #[.agg (sV s x).toArray] w (Ret fun v w'=>v=.tuple #[.string ⟨(xI s).1.toArray⟩,.int .i64 (xI s).2]/\Ext w w'):=by
 apply zl8;unfold S143;have hlen:=hp.len;refine zs fun r1 w1 hb1 he1 _ _=>?_;have hb1:Blk w1 r1 (sV s x) 79:=hb1;have hp:=hp.ext he1;refine zR (ls:=sLs) (sT s x) hb1 rfl ?_;refine zb (zdv hf hp) ?_;rintro _ w2 ⟨rfl,he2⟩;refine⟨_,rfl,?_⟩;have hb1:=hb1.ext he2;have hp:=hp.ext he2;have he2:=he1.trans he2;refine zg (fun hq=>?_) (fun hq=>?_)
 ·rw[zhi (bne_iff_ne.1 hq)];exact⟨rfl,he2⟩
 have hc:=bne_eq_false_iff_eq.1 hq;obtain⟨hh,hgd,h14⟩:=za3 hc;obtain⟨g0,g1,g2,g3,g4⟩:=qn hh.1;have hroot:=hf.root;have hn:s.pages.length<=4080:=by omega
 obtain⟨sz,hsz⟩:∃ k:Nat,s.size=k:=⟨s.size.toNat,by omega⟩;obtain⟨nb,hnb⟩:∃ k:Nat,s.blocks=k:=⟨s.blocks.toNat,by omega⟩;refine zk 1 s.size hb1 (by rfl) (znG s.blocks hb1 (by rfl) (zk 3 (s.root:Int) hb1 (by rfl) ?_));rw[hsz,hnb,zz (by omega),zz (by omega),zz (by omega)];refine zs fun r7 w3 hb7 he3 _ _=>?_;have hb7:Blk w3 r7 ((zw .u64).flat [sz,nb,s.root]) 42:=hb7;have hs7:Sli (zw .u64) w3 (some ⟨r7,0,none⟩) 3 [sz,nb,s.root]:=Sli.xX hb7 rfl (by omega);have hb1:=hb1.ext he3;have hp:=hp.ext he3;have he3:=he2.trans he3;have hb3:=hb1;have hp3:=hp;have grow:∀ {w' w'':World} {A A':Option Addr} {n c:Nat} {bs:List UInt8},Ext w3 w'->Own 5 w' w3.heap.size A n c (bV bs)->Grew w' w'' (orow A) (orow A')->Ext w3 w'':=fun he ho hg=>he.grown hg.grown (fun j hj=>ho.row' j hj);refine zu (fun y w'=>∃ i:Nat,i<=3/\y.2.1=(i:Int)/\Own 5 w' w3.heap.size y.1.1 y.1.2.1 y.1.2.2 (bV (yr ([sz,nb,s.root].take i)))/\Ext w3 w') (fun y=>(3-y.2.1).toNat) ⟨0,by omega,rfl,Own.nil _ _ _,Ext.refl _⟩ ?_;rintro⟨⟨A,n,c⟩,_,_⟩ w4 ⟨i,hi,hiy,ho,he4⟩;dsimp only at hiy ho ⊢;subst hiy;have hs7:=hs7.ext he4;have lo:=ho.sl.blen;rw[xx,length_take]at lo;simp only [length_cons,length_nil]at lo
 by_cases hlt:i<3
 ·refine zf (decide_eq_true (by omega)) ?_;refine zY hs7 (by omega) (by omega) ?_;rw[Int.toNat_natCast];have hv:[sz,nb,s.root].getD i 0<18446744073709551616:=by
   match i,hlt with
   |0,_=>show sz<_;omega
   |1,_=>show nb<_;omega
   |2,_=>show s.root<_;omega
  refine zb (xt (k:=4) ho he4.size (by omega) hv (by omega) (by omega)) ?_;rintro _ w5 ⟨⟨A5,n5,c5⟩,rfl,ho5,hg5⟩;refine⟨(A5,n5,c5),rfl,?_⟩;refine⟨⟨i+1,by omega,by rw[wrap_i64 (by omega) (by omega)];rfl,?_,grow he4 ho hg5⟩,by rw[wrap_i64 (by omega) (by omega)];omega⟩;have e:[sz,nb,s.root].take (i+1)=[sz,nb,s.root].take i++[[sz,nb,s.root].getD i 0]:=by
   match i,hlt with
   |0,_=>rfl
   |1,_=>rfl
   |2,_=>rfl
  rw[e];have e2:yr ([sz,nb,s.root].take i++[[sz,nb,s.root].getD i 0])=yr ([sz,nb,s.root].take i)++le 4 ([sz,nb,s.root].getD i 0):=by simp[yr]
  rw[e2];exact ho5
 ·obtain rfl:i=3:=by omega
  refine zd (decide_eq_false (by omega)) ?_;have hb1:=hb1.ext he4;have hp:=hp.ext he4;refine zk 4 x hb1 (by rfl) ?_;rw[zz (by omega)];refine zb (xt (k:=2) ho he4.size (by omega) (by omega) (by omega) (by omega)) ?_;rintro _ w5 ⟨⟨A5,n5,c5⟩,rfl,ho5,hg5⟩;refine⟨(A5,n5,c5),rfl,?_⟩;have he5:=grow he4 ho hg5;dsimp only at ho5 ⊢;have eh:yr ([sz,nb,s.root].take 3)++le 2 x.2.1=zbx s:=by
   unfold zbx;rw[hsz,hnb,hlen,Int.toNat_natCast,Int.toNat_natCast];simp[yr]
  rw[eh]at ho5;have hb5:=hb3.ext he5;refine zk 4 x hb5 (by rfl) ?_;refine zu (fun y w'=>∃ i:Nat,i<=x.2.1/\y.2.1=(i:Int)/\Own 5 w' w3.heap.size y.1.1 y.1.2.1 y.1.2.2 (bV (zbx s++yr (s.pages.take i)))/\Ext w3 w') (fun y=>(x.2.1-y.2.1).toNat) ⟨0,by omega,rfl,by simpa [yr] using ho5,he5⟩ ?_;rintro⟨⟨A6,n6,c6⟩,_,_⟩ w6 ⟨i,hi,hiy,ho6,he6⟩;dsimp only at hiy ho6 ⊢;subst hiy;have l6:=ho6.sl.blen;rw[length_append,zcv,xx,length_take]at l6;have hp6:=hp3.ext he6
  by_cases hlt:i<x.2.1
  ·refine zf (decide_eq_true (by omega)) ?_;refine zY hp6.sl (by omega) (by omega) ?_;rw[Int.toNat_natCast];have hv:=hf.at_ i;rw[zz (by omega)];refine zb (xt (k:=4) ho6 he6.size (by omega) (by omega) (by omega) (by omega)) ?_;rintro _ w7 ⟨⟨A7,n7,c7⟩,rfl,ho7,hg7⟩;refine⟨(A7,n7,c7),rfl,?_⟩;refine⟨⟨i+1,by omega,by rw[wrap_i64 (by omega) (by omega)];rfl,?_,grow he6 ho6 hg7⟩,by rw[wrap_i64 (by omega) (by omega)];omega⟩;rw[zdw (by omega),<- append_assoc];exact ho7
  ·obtain rfl:i=x.2.1:=by omega
   refine zd (decide_eq_false (by omega)) ?_;rw[take_of_length_le (by omega)]at ho6;have hb6:=hb3.ext he6;refine zk 1 s.size hb6 (by rfl) (zC (s.gen:Int) hb6 (by rfl) ?_);refine qa (e:=5) (by kernel_rfl) (by kernel_rfl) (by kernel_rfl) ho6.sl ?_;refine zb (zbt w6 s.size (f:=vD s) hf.gen) ?_;rintro _ w7 ⟨rfl,he7⟩;refine⟨(⟨(xy s.size (vD s)).1.toArray⟩,(xy s.size (vD s)).2,()),rfl,?_⟩;unfold xI;rw[if_pos hc];exact⟨rfl,he3.trans (he6.trans he7)⟩
end V
/- Contracts of the package super:Get. -/
namespace V
open Go Go.Proofs Go.RowKit Crc
theorem zp0 {w:World} {t:TypeId} {s:Sup} {x:SLC} {K:Nat->WP} {us:Array Value} (hu:us.size=5) (hK:∀ r w',Blk w' r (sV s x) t->Ext w w'->w.heap.size<=r->K r w'):
  (zi (.cells #[(.int .u64 (0:Int)),(.int .i64 (0:Int)),(.int .i64 (0:Int)),(.int .u32 (0:Int)),(.slice none 0 0)] t) fun r=>zc (us.size=5)<|zt (aD r) (sV s x) (K r)) w:=
 yt (vs:=sV s x) (by rfl) (zpZ s x) (fun r w' hb he hr=>hK r w' hb he hr) hu
theorem zkY (bs:List UInt8):(rd bs 4).1<4294967296:=by
 unfold rd;split
 ·show(0:Nat)<4294967296;decide
 ·exact zc4 (by rw[length_take];omega)
theorem jV:j9 prog 54 41 (.int .u32 0) 1 4:=⟨by kernel_rfl,by kernel_rfl,by kernel_rfl⟩
theorem zfZ (k:IntKind) (l:List Nat):(zw k).flat l=l.map fun n:Nat=>(.int k (n:Int):Value):=by
 induction l with
 |nil=>rfl
 |cons a r ih=>rw[map_cons,<- ih];rfl
theorem zm8 (k:IntKind) (l:List Nat) (i v:Nat):((zw k).flat l).set i (.int k (v:Int))=(zw k).flat (l.set i v):=by
 rw[zfZ,zfZ,List.map_set]
theorem zp1 (bs:List UInt8):(rd bs 2).1<65536:=by
 unfold rd;split
 ·show(0:Nat)<65536;decide
 ·have h:=jn (bs.take 2);have h2:(bs.take 2).length<=2:=by rw[length_take];omega
  have:256 ^ (bs.take 2).length<=256 ^ 2:=Nat.pow_le_pow_right (by omega) h2;dsimp only;omega
end V
/- Contracts of the document's answer (11):Get. -/
namespace V
open Go Go.Proofs Go.RowKit Crc
end V
/- Contracts of the package super and of the document's answer (11):Choose,Other,Same. -/
namespace V
open Go Go.Proofs Go.RowKit Crc
theorem Sli.grown {α:Type} {E:Enc α} {w w':World} {A:Option Addr} {n:Nat} {xs:List α} {row:Option Nat} (h:Sli E w A n xs) (hg:w.grownBy w' row) (hr:∀ a,A=some a->some a.block≠row):Sli E w' A n xs:=by
 refine⟨h.1,h.2.1,fun hn=>?_⟩;obtain⟨a,ha,hs,hc⟩:=h.2.2 hn;refine⟨a,ha,hs,fun j v hj=>hg.cell (hc j v hj) ?_⟩;have:(a.add j).block=a.block:=by unfold Addr.add;split<;>rfl
 rw[this];exact hr a ha
end V
/- Spaces in memory. -/
namespace V
open Go Go.Proofs Go.RowKit Crc
theorem jb {l:Lf} {w:World} {b:Nat} {a:Addr} {cs:List Value} {t:TypeId} {K:l.T->WP} (o:Nat) (x:l.T) (h:Blk w b cs t) (ha:a=⟨b,o,none⟩) (hx:cs[o]?=some (l.val x)) (hK:K x w):ldW l a K w:=by
 subst ha;exact zo h hx hK
abbrev MkL:=Option (Nat×Nat)
def zjO:MkL->Option Addr
 |none=>none
 |some a=>some ⟨a.1,0,none⟩
def zcA:MkL->List Nat
 |none=>[]
 |some a=>[a.1,a.2]
def zjP (w:World) (size:Int):MkL->Option (List Nat)->Prop
 |none,none=>True
 |some a,some l=>∃ q,Cnt w a.1 a.2 size q l
 |_,_=>False
theorem Cnt.only {F:Nat->Prop} {w w':World} {b r:Nat} {size:Int} {q:List Value} {l:List Nat} (h:Cnt w b r size q l) (k:Only F w w') (h1:¬F b) (h2:¬F r):Cnt w' b r size q l:=⟨h.head.only k h1,h.row.only k h2,h.ne,h.len,h.fits⟩
theorem zjP.only {F:Nat->Prop} {w w':World} {size:Int} {m:MkL} {l:Option (List Nat)} (h:zjP w size m l) (k:Only F w w') (hk:∀ j∈zcA m,¬F j):zjP w' size m l:=by
 cases m with
 |none=>cases l with
  |none=>trivial
  |some _=>exact h.elim
 |some a=>cases l with
  |none=>exact h.elim
  |some l=>
   obtain⟨q,h⟩:=h;exact⟨q,h.only k (hk _ (by simp[zcA])) (hk _ (by simp[zcA]))⟩
theorem Sli.only {α:Type} {E:Enc α} {F:Nat->Prop} {w w':World} {A:Option Addr} {n:Nat} {xs:List α} (h:Sli E w A n xs) (k:Only F w w') (hr:∀ a,A=some a->¬F a.block):Sli E w' A n xs:=by
 refine⟨h.1,h.2.1,fun hn=>?_⟩;obtain⟨a,e1,e2,e3⟩:=h.2.2 hn;refine⟨a,e1,e2,fun j v hj=>?_⟩;have hc:=e3 j v hj;have hab:(a.add j).block=a.block:=by unfold Addr.add;split<;>rfl
 have hlt:=World.block_lt_of_cell? w _ hc;unfold World.cell? at hc ⊢;rw[k.2.2.2.2 _ hlt (by rw[hab];exact hr a e1)];exact hc
def zaG (x:SLC):List Nat:=(x.1.map fun a=>a.block).toList
def yT (b hb hr nb nr:Nat) (x:SLC) (m:MkL):List Nat:=b::hb::hr::nb::nr::(zaG x++zcA m)
def spV (db:Nat) (s:Sup) (x:SLC) (slot:Int) (hb nb:Nat) (m:MkL):List Value:=
 [.pointer (some ⟨db,0,none⟩),.int .u64 (s.gen:Int),.int .i64 s.size,.int .i64 s.blocks,.int .u32 (s.root:Int),.slice x.1 x.2.1 x.2.2,.int .i64 slot,.pointer (some ⟨hb,0,none⟩),.pointer (some ⟨nb,0,none⟩),.pointer (zjO m)]
structure Spa.Ok (S:Spa):Prop where
 size:S.sup.size=S.dev.size
 blocks:S.sup.blocks=S.dev.blocks
 fits:S.sup.Fits
 held:S.held.length=S.N
 now:S.now.length=S.N
 mark:∀ l,S.mark=some l->l.length=S.N
structure SpM (w:World) (b db:Nat) (S:Spa) (F Fd:Nat->Prop) (x:SLC) (hb hr nb nr:Nat) (m:MkL):Prop where
 box:∃ t,Blk w b (spV db S.sup x S.slot hb nb m) t
 dev:xp w db S.dev Fd
 pgs:Pg w x S.sup.pages
 heldC:∃ q,Cnt w hb hr S.sup.size q S.held
 nowC:∃ q,Cnt w nb nr S.sup.size q S.now
 markC:zjP w S.sup.size m S.mark
 own:∀ k,F k↔Fd k\/k∈yT b hb hr nb nr x m
 nodup:(yT b hb hr nb nr x m).Nodup
 apart:∀ k∈yT b hb hr nb nr x m,¬Fd k
 rowlt:∀ k∈zaG x,k<w.heap.size
 ok:S.Ok
variable {w w':World} {b db:Nat} {S:Spa} {F Fd:Nat->Prop} {x:SLC} {hb hr nb nr:Nat} {m:MkL}
theorem SpM.lt (h:SpM w b db S F Fd x hb hr nb nr m):∀ k,F k->k<w.heap.size:=by
 intro k hk;rcases (h.own k).1 hk with hk|hk
 ·exact h.dev.lt k hk
 obtain⟨t,hbx⟩:=h.box;obtain⟨q1,c1⟩:=h.heldC;obtain⟨q2,c2⟩:=h.nowC;simp only [yT,mem_cons,mem_append]at hk;rcases hk with rfl|rfl|rfl|rfl|rfl|hk|hk
 ·exact hbx.lt
 ·exact c1.head.lt
 ·exact c1.row.lt
 ·exact c2.head.lt
 ·exact c2.row.lt
 ·exact h.rowlt k hk
 ·have hm:=h.markC;cases m with
  |none=>cases hk
  |some a=>
   cases hS:S.mark with
   |none=>rw[hS]at hm;exact hm.elim
   |some l=>
    rw[hS]at hm;obtain⟨q,hm⟩:=hm;simp only [zcA,mem_cons,not_mem_nil,or_false]at hk;rcases hk with rfl|rfl
    ·exact hm.head.lt
    ·exact hm.row.lt
theorem SpM.only {G:Nat->Prop} (h:SpM w b db S F Fd x hb hr nb nr m) (k:Only G w w') (hFG:∀ j,F j->¬G j):SpM w' b db S F Fd x hb hr nb nr m:=by
 have hF:∀ j∈yT b hb hr nb nr x m,¬G j:=fun j hj=>hFG j ((h.own j).2 (.inr hj));obtain⟨t,hbx⟩:=h.box;obtain⟨q1,c1⟩:=h.heldC;obtain⟨q2,c2⟩:=h.nowC;refine⟨⟨t,hbx.only k (hF b (by simp[yT]))⟩,h.dev.apart k (fun j hj=>hFG j ((h.own j).2 (.inl hj))),⟨h.pgs.sl.only k (fun a ha=>hF _ (by simp[yT,zaG,ha])),h.pgs.nc⟩,⟨q1,c1.only k (hF _ (by simp[yT])) (hF _ (by simp[yT]))⟩,
  ⟨q2,c2.only k (hF _ (by simp[yT])) (hF _ (by simp[yT]))⟩,h.markC.only k (fun j hj=>hF j (by simp[yT,hj])),h.own,h.nodup,h.apart,fun j hj=>Nat.lt_of_lt_of_le (h.rowlt j hj) k.2.2.2.1,h.ok⟩
theorem SpM.ext (h:SpM w b db S F Fd x hb hr nb nr m) (he:Ext w w'):SpM w' b db S F Fd x hb hr nb nr m:=
 h.only (G:=fun _=>False) (Only.zG he) (fun _ _ h=>h)
theorem SpM.kE {l:List Nat} {q:List Value} (h:SpM w b db S F Fd x hb hr nb nr m) (hg:w.grownBy w' (some nr)) (hc:Cnt w' nb nr S.sup.size q l) (hl:l.length=S.now.length):
  SpM w' b db { S with now:=l } F Fd x hb hr nb nr m:=by
 have hnd:=h.nodup;have hO:Only (fun k=>k=nr) w w':=Only.z8 hg (fun j hj=>.inl (by injection hj with hj;exact hj.symm));have hne:∀ j∈yT b hb hr nb nr x m,j≠nr->¬(fun k=>k=nr) j:=fun j _ h=>h;simp only [yT,nodup_cons,mem_cons,not_or]at hnd;obtain⟨⟨h1,h2,h3,h4,h5⟩,⟨h6,h7,h8,h9⟩,⟨h10,h11,h12⟩,⟨h13,h14⟩,h15,h16⟩:=hnd;obtain⟨t,hbx⟩:=h.box;obtain⟨q1,c1⟩:=h.heldC;refine⟨⟨t,hbx.only hO h4⟩,h.dev.apart hO (fun j hj e=>h.apart nr (by simp[yT]) (by rw[<- show j=nr from e];exact hj)),⟨h.pgs.sl.only hO (fun a ha e=>h15 (mem_append_left _ (by rw[<- show a.block=nr from e];simp[zaG,ha]))),h.pgs.nc⟩,
  ⟨q1,c1.only hO h8 h11⟩,⟨q,hc⟩,h.markC.only hO (fun j hj e=>h15 (List.mem_append_right _ (by rw[<- show j=nr from e];exact hj))),h.own,h.nodup,h.apart,fun j hj=>Nat.lt_of_lt_of_le (h.rowlt j hj) hg.size,⟨h.ok.size,h.ok.blocks,h.ok.fits,h.ok.held,hl.trans h.ok.now,h.ok.mark⟩⟩
theorem SpM.zp2 {d':Dev} (h:SpM w b db S F Fd x hb hr nb nr m) (hst:Step w db Fd d' w') (hd:d'.size=S.dev.size/\d'.blocks=S.dev.blocks):
  ∃ F' Fd',SpM w' b db { S with dev:=d' } F' Fd' x hb hr nb nr m/\(∀ k,F' k->F k\/w.heap.size<=k)/\Only F w w':=by
 obtain⟨Fd',hD,hF,hO⟩:=hst;have hap:=h.apart;have hlt:=h.lt;have hin:∀ j∈yT b hb hr nb nr x m,F j:=fun j hj=>(h.own j).2 (.inr hj);obtain⟨t,hbx⟩:=h.box;obtain⟨q1,c1⟩:=h.heldC;obtain⟨q2,c2⟩:=h.nowC;refine⟨fun k=>Fd' k\/k∈yT b hb hr nb nr x m,Fd',⟨⟨t,hbx.only hO (hap b (by simp[yT]))⟩,hD,⟨h.pgs.sl.only hO (fun a ha=>hap _ (by simp[yT,zaG,ha])),h.pgs.nc⟩,⟨q1,c1.only hO (hap _ (by simp[yT])) (hap _ (by simp[yT]))⟩,
  ⟨q2,c2.only hO (hap _ (by simp[yT])) (hap _ (by simp[yT]))⟩,h.markC.only hO (fun j hj=>hap j (by simp[yT,hj])),fun _=>Iff.rfl,h.nodup,fun j hj hf=>?_,fun j hj=>Nat.lt_of_lt_of_le (h.rowlt j hj) hO.2.2.2.1,⟨h.ok.size.trans hd.1.symm,h.ok.blocks.trans hd.2.symm,h.ok.fits,h.ok.held,h.ok.now,h.ok.mark⟩⟩,?_,?_⟩
 ·rcases hF j hf with x|x
  ·exact hap j hj x
  ·have:=hlt j (hin j hj);omega
 ·rintro j (hj|hj)
  ·rcases hF j hj with x|x
   ·exact .inl ((h.own j).2 (.inl x))
   ·exact .inr x
  ·exact .inl (hin j hj)
 ·obtain⟨o1,o2,o3,o4,o5⟩:=hO;exact⟨o1,o2,o3,o4,fun j hj hf=>o5 j hj (fun e=>hf ((h.own j).2 (.inl e)))⟩
def ye (w:World) (b db:Nat) (S:Spa) (F:Nat->Prop):Prop:=∃ Fd x hb hr nb nr m,SpM w b db S F Fd x hb hr nb nr m
def yI (w:World) (b db:Nat) (F:Nat->Prop) (S':Spa) (w':World):Prop:=∃ F',ye w' b db S' F'/\(∀ k,F' k->F k\/w.heap.size<=k)/\Only F w w'
theorem SpM.zfv (h:SpM w b db S F Fd x hb hr nb nr m):ye w b db S F:=⟨Fd,x,hb,hr,nb,nr,m,h⟩
theorem ye.ext (h:ye w b db S F) (he:Ext w w'):ye w' b db S F:=by
 obtain⟨Fd,x,hb,hr,nb,nr,m,h⟩:=h;exact⟨Fd,x,hb,hr,nb,nr,m,h.ext he⟩
theorem ye.lt (h:ye w b db S F):∀ k,F k->k<w.heap.size:=by
 obtain⟨Fd,x,hb,hr,nb,nr,m,h⟩:=h;exact h.lt
theorem ye.only {G:Nat->Prop} (h:ye w b db S F) (k:Only G w w') (hFG:∀ j,F j->¬G j):ye w' b db S F:=by
 obtain⟨Fd,x,hb,hr,nb,nr,m,h⟩:=h;exact⟨Fd,x,hb,hr,nb,nr,m,h.only k hFG⟩
theorem yI.ext (h:ye w b db S F) (he:Ext w w'):yI w b db F S w':=⟨F,h.ext he,fun k hk=>.inl hk,Only.zG he⟩
theorem yI.trans {w0:World} {F':Nat->Prop} {S':Spa} (hO:Only F w0 w) (hF:∀ k,F' k->F k\/w0.heap.size<=k) (h:yI w b db F' S' w'):yI w0 b db F S' w':=by
 obtain⟨F2,h1,h2,h3⟩:=h;refine⟨F2,h1,fun k hk=>?_,Only.trans hO h3 hF⟩;rcases h2 k hk with x|x
 ·exact hF k x
 ·exact .inr (Nat.le_trans hO.2.2.2.1 x)
end V
/- Contracts of the package catalog:Check. -/
namespace V
open Go Go.Proofs Go.RowKit Crc
abbrev Raw:=ByteArray×SLC×Nat×Nat×Int
def yl:Raw:=(ByteArray.empty,(none,0,0),0,0,0)
def zI:Ent:=(ByteArray.empty,[],0,0,0)
def zL:Snp:=(ByteArray.empty,0)
def zX:Enc Raw where
 k:=5
 f e:=[.string e.1,.slice e.2.1.1 e.2.1.2.1 e.2.1.2.2,.int .u32 (e.2.2.1:Int),.int .u64 (e.2.2.2.1:Int),.int .i64 e.2.2.2.2]
 len _:=rfl
 one _:=by
  intro v hv
  simp only [mem_cons,not_mem_nil,or_false]at hv
  rcases hv with rfl|rfl|rfl|rfl|rfl<;>rfl
 pos:=by decide
def yM:Enc Snp where
 k:=2
 f e:=[.string e.1,.int .u32 (e.2:Int)]
 len _:=rfl
 one _:=by
  intro v hv
  simp only [mem_cons,not_mem_nil,or_false]at hv
  rcases hv with rfl|rfl<;>rfl
 pos:=by decide
abbrev zbz:List Lf:=[.str,.slc,.int .u32,.int .u64,.int .i64]
def uj (e:Raw):ByteArray×SLC×Int×Int×Int×Unit:=(e.1,e.2.1,(e.2.2.1:Int),(e.2.2.2.1:Int),e.2.2.2.2,())
abbrev zeT:List Lf:=[.str,.int .u32]
def zcB (e:Snp):ByteArray×Int×Unit:=(e.1,(e.2:Int),())
structure zc6 (w:World) (r:Raw) (e:Ent):Prop where
 name:r.1=e.1
 rest:r.2.2=e.2.2
 cols:Sli xr w r.2.1.1 r.2.1.2.1 e.2.1
 cap:r.2.1.2.1<=r.2.1.2.2
theorem zc6.ext {w w':World} {r:Raw} {e:Ent} (h:zc6 w r e) (he:Ext w w'):zc6 w' r e:=⟨h.name,h.rest,h.cols.ext he,h.cap⟩
structure za6 (w:World) (x:SLC) (raws:List Raw) (es:List Ent):Prop where
 sl:Sli zX w x.1 x.2.1 raws
 len:raws.length=es.length
 at_:∀ i,i<es.length->zc6 w (raws.getD i yl) (es.getD i zI)
theorem za6.ext {w w':World} {x:SLC} {raws:List Raw} {es:List Ent} (h:za6 w x raws es) (he:Ext w w'):za6 w' x raws es:=⟨h.sl.ext he,h.len,fun i hi=>(h.at_ i hi).ext he⟩
def qj (w:World) (x y:SLC) (c:Cat):Prop:=(∃ raws,za6 w x raws c.1)/\Sli yM w y.1 y.2.1 c.2/\x.2.1<=x.2.2/\y.2.1<=y.2.2
theorem qj.ext {w w':World} {x y:SLC} {c:Cat} (h:qj w x y c) (he:Ext w w'):qj w' x y c:=by
 obtain⟨⟨raws,h1⟩,h2,h3⟩:=h;exact⟨⟨raws,h1.ext he⟩,h2.ext he,h3⟩
def zN (x y:SLC):List Value:=[.slice x.1 x.2.1 x.2.2,.slice y.1 y.2.1 y.2.2]
theorem xQ (x y:SLC):∀ v∈zN x y,v.oneCell'=true:=by
 intro v hv;simp only [zN,mem_cons,not_mem_nil,or_false]at hv;rcases hv with rfl|rfl<;>rfl
abbrev xh:List Lf:=[.slc,.slc]
def xk (x y:SLC):SLC×SLC×Unit:=(x,y,())
theorem zbZ:∀ a b:List UInt8,Op.bytesLess a b=ltB a b
 |_,[]=>by cases ‹List UInt8›<;>rfl
 |[],_::_=>rfl
 |x::a,y::b=>by
  rw[Op.bytesLess,ltB,zbZ a b];congr 1
theorem zbA (a b:ByteArray):Op.bytesLess a.toList b.toList=ltB (B a) (B b):=by
 rw[ByteArray.toList_eq,ByteArray.toList_eq,zbZ];rfl
theorem zaH {α:Type} {f:α->ByteArray}:∀ {l:List α} {i:Nat} {x y:α},l[i]?=some x->l[i+1]?=some y->yO f (l.take (i+2))=(yO f (l.take (i+1))&&ltB (B (f x)) (B (f y)))
 |[],_,_,_,h,_=>by simp at h
 |[a],i,x,y,h,h2=>by simp at h2
 |a::c::r,0,x,y,h,h2=>by
  simp only [List.getElem?_cons_zero,List.getElem?_cons_succ,Option.some.injEq]at h h2;subst h h2;simp[yO]
 |a::c::r,i+1,x,y,h,h2=>by
  have ih:=zaH (f:=f) (l:=c::r) (i:=i) (x:=x) (y:=y) (by simpa using h) (by simpa using h2);simp only [List.take_succ_cons,yO]at ih ⊢;rw[ih,Bool.and_assoc]
theorem zd4 (s:ByteArray):zdX s=true↔yz (B s)=0:=by unfold zdX;rw[decide_eq_true_iff]
theorem zcC {α:Type} {f:α->ByteArray} {l:List α} {x:α} (h:x∈l) (hx:yz (B (f x))≠0):yv f l=false:=by
 cases hq:yv f l with
 |false=>rfl
 |true=>
  unfold yv at hq;rw[Bool.and_eq_true,all_eq_true]at hq;exact absurd ((zd4 _).1 (hq.1 x h)) hx
theorem zbB {α:Type} {f:α->ByteArray}:∀ {l:List α} (n:Nat),yO f l=true->yO f (l.take n)=true
 |[],n,_=>by simp[yO]
 |[a],n,_=>by cases n<;>simp[yO]
 |a::c::r,0,_=>rfl
 |a::c::r,1,_=>rfl
 |a::c::r,n+2,h=>by
  simp only [yO,Bool.and_eq_true]at h;have ih:=zbB (f:=f) (l:=c::r) (n+1) h.2;simp only [List.take_succ_cons,yO,Bool.and_eq_true]at ih ⊢;exact⟨h.1,ih⟩
variable {w:World}
theorem zaI {r:Raw}:Calls prog 58 #[.agg (zX.f r).toArray] w (Ret fun v w'=>v=.string r.1/\Ext w w'):=by
 apply zoB;unfold S58;refine zs fun r1 w1 hb1 he1 hr1 hz1=>?_;exact zC r.1 hb1 (by rfl) ⟨rfl,he1⟩
theorem zaJ {r:Snp}:Calls prog 60 #[.agg (yM.f r).toArray] w (Ret fun v w'=>v=.string r.1/\Ext w w'):=by
 apply zoD;unfold S60;refine zs fun r1 w1 hb1 he1 hr1 hz1=>?_;exact zC r.1 hb1 (by rfl) ⟨rfl,he1⟩
theorem zgo {x:SLC} {l:List Raw} (h:Sli zX w x.1 x.2.1 l):Calls prog 57 #[.slice x.1 x.2.1 x.2.2,.func (.func 58) #[] #[]] w (Ret fun v w'=>v=.bool (yv (fun e:Raw=>e.1) l)/\Ext w w'):=by
 have hl:=h.len;have hle:=h.le;apply zoA;unfold S57;refine zu (fun q w'=>∃ i:Nat,i<=l.length/\q=((i:Int),())/\Ext w w'/\(∀ e∈l.take i,yz (B e.1)=0)/\yO (fun e:Raw=>e.1) (l.take i)=true) (fun q=>(l.length-q.1).toNat) ⟨0,by omega,rfl,Ext.refl w,by simp,rfl⟩ ?_;rintro _ w1 ⟨i,hi,rfl,he1,hn,hr⟩;dsimp only
 by_cases hlt:i<l.length
 ·refine zf (decide_eq_true (by omega)) ?_;refine vM (E:=zX) uj yl (h.ext he1) (fun _=>rfl) rfl (by omega) (by omega) ?_;rw[Int.toNat_natCast];have eg:l[i]?=some (l.getD i yl):=by rw[getD_eq_getElem?_getD,List.getElem?_eq_getElem hlt];rfl
  have hmem:=mem_of_getElem? eg;have htk:l.take (i+1)=l.take i++[l.getD i yl]:=by rw[take_succ_eq_append_getElem hlt,getD_eq_getElem?_getD,List.getElem?_eq_getElem hlt];rfl
  refine yt (vs:=zX.f (l.getD i yl)) (by rfl) (zX.one _) (fun r5 w2 hb2 he2 hr2=>?_) (by rfl);refine zK fun w3 he3 hz3 hh3=>?_;have hb3:=hb2.ext he3;refine zR (ls:=zbz) (uj (l.getD i yl)) hb3 (by rfl) ?_;refine qf (by kernel_rfl) ?_;refine zb zaI ?_;rintro _ w4 ⟨rfl,he4⟩;refine⟨_,rfl,?_⟩;refine zb (zbp w4 _) ?_;rintro _ w5 ⟨rfl,he5⟩;refine⟨_,rfl,?_⟩;have he35:=he4.trans he5;have he05:=((he1.trans he2).trans he3).trans he35;refine zg (fun hq=>?_) (fun hq=>?_)
  ·have hq:=bne_iff_ne.1 hq;exact⟨by rw[zcC hmem hq],he05⟩
  have hq:=bne_eq_false_iff_eq.1 hq;have hn':∀ e∈l.take (i+1),yz (B e.1)=0:=fun e he=>by
   rw[htk]at he;rcases mem_append.1 he with e1|e1
   ·exact hn e e1
   ·rw[mem_singleton.1 e1];exact hq
  have hw:wrap .i64 ((i:Int)+1)=((i+1:Nat):Int):=by rw[wrap_i64 (by omega) (by omega)];rfl
  rw[hw]
  by_cases h0:i=0
  ·subst h0;refine zd (by rfl) ?_;refine⟨⟨1,by omega,rfl,he05,hn',?_⟩,by omega⟩;rw[htk];rfl
  ·refine zf (decide_eq_true (by omega)) ?_;rw[show wrap .i64 ((i:Int)-1)=((i-1:Nat):Int) by rw[wrap_i64 (by omega) (by omega)];omega];refine vM (E:=zX) uj yl (h.ext he05) (fun _=>rfl) rfl (by omega) (by omega) ?_;rw[Int.toNat_natCast];have hb5:=hb3.ext he35;refine zR (ls:=zbz) (uj (l.getD i yl)) hb5 (by rfl) ?_;refine qf (by kernel_rfl) ?_;refine zb (zaI (r:=l.getD (i-1) yl)) ?_;rintro _ w6 ⟨rfl,he6⟩;refine⟨_,rfl,?_⟩;have hb6:=hb5.ext he6;refine xz (fun p hp=>?_) ?_
   ·simp only [mem_cons,not_mem_nil,or_false]at hp;rcases hp with rfl|rfl|rfl|rfl|rfl<;>simp only [zx,hb6.cell]<;>rfl
   refine qf (by kernel_rfl) ?_;refine zb (zaI (r:=l.getD i yl)) ?_;rintro _ w7 ⟨rfl,he7⟩;refine⟨_,rfl,?_⟩;have he07:=(he05.trans he6).trans he7;rw[zbA];have eg1:l[i-1]?=some (l.getD (i-1) yl):=by rw[getD_eq_getElem?_getD,List.getElem?_eq_getElem (by omega)];rfl
   have hst:=zaH (f:=fun e:Raw=>e.1) eg1 (by rw[show i-1+1=i by omega];exact eg);rw[show i-1+2=i+1 by omega,show i-1+1=i by omega,hr,Bool.true_and]at hst;refine zg (fun hq2=>?_) (fun hq2=>?_)
   ·refine⟨?_,he07⟩;have hq2:ltB (B (l.getD (i-1) yl).1) (B (l.getD i yl).1)=false:=by simpa using hq2
    have:yv (fun e:Raw=>e.1) l=false:=by
     cases hz:yv (fun e:Raw=>e.1) l with
     |false=>rfl
     |true=>
      unfold yv at hz;rw[Bool.and_eq_true]at hz;have:=zbB (i+1) hz.2;rw[hst,hq2]at this;cases this
    rw[this]
   ·have hq2:ltB (B (l.getD (i-1) yl).1) (B (l.getD i yl).1)=true:=by simpa using hq2
    exact⟨⟨i+1,by omega,rfl,he07,hn',by rw[hst,hq2]⟩,by omega⟩
 ·obtain rfl:i=l.length:=by omega
  refine zd (decide_eq_false (by omega)) ?_;rw[take_of_length_le (by omega)]at hn hr;refine⟨?_,he1⟩;have:yv (fun e:Raw=>e.1) l=true:=by
   unfold yv;rw[hr,Bool.and_true,all_eq_true];exact fun e he=>(zd4 _).2 (hn e he)
  rw[this]
end V
/- Catalogs that came in,opened. -/
set_option maxRecDepth 100000
namespace V
open Go Go.ChangeShapes Go.WideShapes Go.ChangeAt Go.RowKit Go.Deep Go.Proofs
section
variable {H:Type} {enc:TypeId×Value->H} {w:World} {base:Nat} {held:Bool}
def zm9 (w:World) (r:Raw):Prop:=(∃ cols:List Col,Sli xr w r.2.1.1 r.2.1.2.1 cols/\∀ c∈cols,(B c.1).length<=9223372036854775807)/\r.2.1.2.1<=r.2.1.2.2/\r.1.size<=9223372036854775807/\r.2.2.1<4294967296/\r.2.2.2.1<18446744073709551616/\-9223372036854775808<=r.2.2.2.2/\r.2.2.2.2<9223372036854775808
theorem zpk {n:Nat} {cs:List Value} {x:DataW H×List MemPlace} (h:DataW.trod enc prog w base (fun _=>true) held n 44 cs=some x):∃ r:Raw,zX.f r=cs/\zm9 w r:=by
 obtain⟨hl,m0,y0,h0⟩:=qP 0 0 1 9 (by kernel_rfl) (by kernel_rfl) h;obtain⟨_,m1,y1,h1⟩:=qP 1 1 1 40 (by kernel_rfl) (by kernel_rfl) h;obtain⟨_,m2,y2,h2⟩:=qP 2 2 1 41 (by kernel_rfl) (by kernel_rfl) h;obtain⟨_,m3,y3,h3⟩:=qP 3 3 1 42 (by kernel_rfl) (by kernel_rfl) h;obtain⟨_,m4,y4,h4⟩:=qP 4 4 1 3 (by kernel_rfl) (by kernel_rfl) h;have hl5:cs.length=5:=hl.trans (by kernel_rfl)
 match cs,hl5 with
 |[a,b,c,d,e],_=>
  obtain⟨s,hs,hsl⟩:=vc (by kernel_rfl) h0;obtain⟨A,k,cc,xs,hz1,hxs,hnc,hq⟩:=zbo (e:=62) (E:=xr) (Q:=fun c=>(B c.1).length<=9223372036854775807) (by kernel_rfl) (by kernel_rfl) (fun n cs x h=>zo9 h) h1;obtain⟨z2,hz2,hw2⟩:=zaW (k:=.u32) (by kernel_rfl) h2;obtain⟨z3,hz3,hw3⟩:=zaW (k:=.u64) (by kernel_rfl) h3;obtain⟨z4,hz4,hw4⟩:=zaW (k:=.i64) (by kernel_rfl) h4;have g2:=ziY hw2;have g3:=znY hw3;have g4:=znZ hw4;cases hs;cases hz1;cases hz2;cases hz3;cases hz4;refine⟨(s,(A,k,cc),z2.toNat,z3.toNat,z4),?_,⟨xs,hxs,hq⟩,hnc,by simpa [maxLen] using hsl,by dsimp only;omega,by dsimp only;omega,g4⟩;show [Value.string s,Value.slice A k cc,Value.int .u32 ((z2.toNat:Nat):Int),Value.int .u64 ((z3.toNat:Nat):Int),Value.int .i64 z4]=_;rw[show((z2.toNat:Nat):Int)=z2 by omega,show((z3.toNat:Nat):Int)=z3 by omega]
theorem zpl {n:Nat} {cs:List Value} {x:DataW H×List MemPlace} (h:DataW.trod enc prog w base (fun _=>true) held n 46 cs=some x):∃ s:Snp,yM.f s=cs/\s.1.size<=9223372036854775807/\s.2<4294967296:=by
 obtain⟨hl,m0,y0,h0⟩:=qP 0 0 1 9 (by kernel_rfl) (by kernel_rfl) h;obtain⟨_,m1,y1,h1⟩:=qP 1 1 1 41 (by kernel_rfl) (by kernel_rfl) h;have hl2:cs.length=2:=hl.trans (by kernel_rfl)
 match cs,hl2 with
 |[a,b],_=>
  obtain⟨s,hs,hsl⟩:=vc (by kernel_rfl) h0;obtain⟨z,hz,hw⟩:=zaW (k:=.u32) (by kernel_rfl) h1;have g:=ziY hw;cases hs;cases hz;refine⟨(s,z.toNat),?_,by simpa [maxLen] using hsl,by dsimp only;omega⟩;show [Value.string s,Value.int .u32 ((z.toNat:Nat):Int)]=_;rw[show((z.toNat:Nat):Int)=z by omega]
def zp3 (c:Cat):Prop:=(∀ e∈c.1,e.1.size<=9223372036854775807/\(∀ k∈e.2.1,(B k.1).length<=9223372036854775807)/\e.2.2.1<4294967296/\e.2.2.2.1<18446744073709551616/\-9223372036854775808<=e.2.2.2.2/\e.2.2.2.2<9223372036854775808)/\∀ s∈c.2,s.1.size<=9223372036854775807/\s.2<4294967296
theorem zf0 {w:World}:∀ {raws:List Raw},(∀ r∈raws,zm9 w r)->∃ es:List Ent,raws.length=es.length/\(∀ i,i<es.length->zc6 w (raws.getD i yl) (es.getD i zI))/\∀ e∈es,e.1.size<=9223372036854775807/\(∀ k∈e.2.1,(B k.1).length<=9223372036854775807)/\e.2.2.1<4294967296/\e.2.2.2.1<18446744073709551616/\-9223372036854775808<=e.2.2.2.2/\e.2.2.2.2<9223372036854775808
 |[],_=>⟨[],rfl,fun i hi=>(by cases hi),fun e he=>(by cases he)⟩
 |r::l,h=>by
  obtain⟨es,h1,h2,h3⟩:=zf0 (raws:=l) (fun x hx=>h x (mem_cons_of_mem _ hx));obtain⟨⟨cols,q1,q2⟩,q3,q4,q5⟩:=h r mem_cons_self;refine⟨(r.1,cols,r.2.2)::es,by simp[h1],fun i hi=>?_,fun e he=>?_⟩
  ·cases i with
   |zero=>exact⟨rfl,rfl,q1,q3⟩
   |succ i=>exact h2 i (by simpa using hi)
  ·rcases mem_cons.1 he with rfl|he
   ·exact⟨q4,q2,q5⟩
   ·exact h3 e he
theorem zna {v:Value} {d:DataW H} {ps:List MemPlace} {r:Reach} {b0:Nat} (hv:Value.okWide prog w r b0 25 v) (h:DataW.Trod enc prog w base (fun _=>true) held 25 v d ps):
  ∃ (c:Cat) (x y:SLC),v=.agg (zN x y).toArray/\qj w x y c/\zp3 c:=by
 obtain⟨cs,rfl,hsz⟩:=okWide_struct (show prog.underlying 25=some (.struct (fieldsOf prog 25)) by kernel_rfl) hv;obtain⟨fuel,hf⟩:=h;have hf':DataW.trod enc prog w base (fun _=>true) held fuel 25 cs.toList=some (d,ps):=hf;obtain⟨hl,m0,y0,h0⟩:=qP 0 0 1 22 (by kernel_rfl) (by kernel_rfl) hf';obtain⟨_,m1,y1,h1⟩:=qP 1 1 1 23 (by kernel_rfl) (by kernel_rfl) hf';have hl2:cs.toList.length=2:=hl.trans (by kernel_rfl)
 match hcs:cs.toList,hl2 with
 |[a,b],_=>
  rw[hcs]at h0 h1;obtain⟨A,n,k,raws,hz0,hsl,hnc,hq⟩:=zbo (e:=44) (E:=zX) (Q:=zm9 w) (by kernel_rfl) (by kernel_rfl) (fun n cs x h=>zpk h) h0;obtain⟨A2,n2,k2,ss,hz1,hsl2,hnc2,hq2⟩:=zbo (e:=46) (E:=yM) (Q:=fun s=>s.1.size<=9223372036854775807/\s.2<4294967296) (by kernel_rfl) (by kernel_rfl) (fun n cs x h=>zpl h) h1;cases hz0;cases hz1;obtain⟨es,e1,e2,e3⟩:=zf0 hq;refine⟨(es,ss),(A,n,k),(A2,n2,k2),?_,⟨⟨raws,hsl,e1,e2⟩,hsl2,hnc,hnc2⟩,e3,hq2⟩;congr 1;apply Array.toList_inj.1;rw[hcs];rfl
end
end V
/- Contracts of the package space:what may be asked for,Room,what is free. -/
namespace V
open Go Go.Proofs Go.RowKit Crc
variable {w w':World} {b db:Nat} {S:Spa} {F Fd:Nat->Prop} {x:SLC} {hb hr nb nr:Nat} {m:MkL}
structure zae (S:Spa):Prop where
 geo:zZ S.sup.size S.sup.blocks=true
 room:zH S.sup.size=S.sup.size-16
 size:128<=S.sup.size/\S.sup.size<=4096
 blocks:S.sup.blocks=(S.N:Int)
 n:8<=S.N/\S.N<=4096
theorem SpM.dims (h:SpM w b db S F Fd x hb hr nb nr m):zae S:=by
 have hg:=h.dev.ok.geo;rw[<- h.ok.size,<- h.ok.blocks]at hg;obtain⟨g1,g2,g3,g4,g5⟩:=qn hg;have:S.sup.blocks=(S.N:Int):=by unfold Spa.N;omega
 exact⟨hg,g1,⟨g2,g3⟩,this,by omega⟩
theorem zp4 (h:SpM w b db S F Fd x hb hr nb nr m) (n:Nat):S.now.getD n 0<65536/\S.held.getD n 0<65536/\cnt S.mark n<65536:=by
 obtain⟨q1,c1⟩:=h.heldC;obtain⟨q2,c2⟩:=h.nowC;refine⟨c2.js n,c1.js n,?_⟩;have hm:=h.markC;cases hS:S.mark with
 |none=>simp[cnt]
 |some l=>
  rw[hS]at hm;cases m with
  |none=>exact hm.elim
  |some a=>
   obtain⟨q,hm⟩:=hm;exact hm.js n
theorem vS (h:SpM w b db S F Fd x hb hr nb nr m) {n:Nat} (hn:n<4294967296):
  Calls prog 73 #[.pointer (some ⟨b,0,none⟩),.int .u32 (n:Int)] w (Ret fun v w'=>v=.bool (S.asked n)/\w'=w):=by
 obtain⟨t,hbx⟩:=h.box;have hd:=h.dims;have hb2:=hd.blocks;have hn2:=hd.n;apply zoQ;unfold S73 Spa.asked;refine zg (fun hz=>?_) (fun hz=>?_)
 ·have hz:=of_decide_eq_true hz;refine zp (jb 3 S.sup.blocks hbx (by rfl) (by rfl) ?_);have eb:wrap .u64 S.sup.blocks=(S.N:Int):=by rw[hb2,zz (by omega)]
  rw[zz (by omega),eb];refine zg (fun hq=>?_) (fun hq=>?_)
  ·have hq:=of_decide_eq_true hq;refine zp (jb (l:=.slc) 5 x hbx (by rfl) (by rfl) ?_);refine zb (za5 (c:=x.2.2) h.pgs.sl) ?_;rintro _ w1 ⟨rfl,rfl⟩;refine⟨_,rfl,?_,rfl⟩;rw[decide_eq_true (show 2<=n by omega),decide_eq_true (show n<S.N by omega)];rfl
  ·have hq:=of_decide_eq_false hq;refine⟨?_,rfl⟩;rw[decide_eq_false (show ¬n<S.N by omega)];simp
 ·have hz:=of_decide_eq_false hz;refine⟨?_,rfl⟩;rw[decide_eq_false (show ¬2<=n by omega)];rfl
theorem jc (h:SpM w b db S F Fd x hb hr nb nr m) {k:Int} (hk0:-9223372036854775808<=k) (hk:k<9223372036854775808):
  Calls prog 76 #[.pointer (some ⟨b,0,none⟩),.int .i64 k] w (Ret fun v w'=>v=.int .i64 (S.room k)/\Ext w w'):=by
 obtain⟨t,hbx⟩:=h.box;have hd:=h.dims;have h1:=hd.room;have h2:=hd.size;apply zoS;unfold S76 Spa.room;refine zd (by rfl) (zp (jb 2 S.sup.size hbx (by rfl) (by rfl) ?_));refine zb (jz w S.sup.size) ?_;rintro _ w1 ⟨rfl,he⟩;refine⟨_,rfl,?_⟩;have e1:wrap .i64 (zH S.sup.size-2)=zH S.sup.size-2:=wrap_i64 (by omega) (by omega);have e2:wrap .i64 (Int.tdiv (zH S.sup.size-2) 4)=(zH S.sup.size-2) / 4:=by
  rw[Int.tdiv_eq_ediv_of_nonneg (by omega),wrap_i64 (by omega) (by omega)]
 rw[e1,e2];refine zg (fun hz=>?_) (fun hz=>?_)
 ·rw[if_pos (.inl (of_decide_eq_true hz))];exact⟨rfl,he⟩
 have hz:=of_decide_eq_false hz;refine zg (fun hq=>?_) (fun hq=>?_)
 ·rw[if_pos (.inr (of_decide_eq_true hq))];exact⟨rfl,he⟩
 have hq:=of_decide_eq_false hq;rw[if_neg (by omega),wrap_i64 (x:=4*k) (by omega) (by omega),wrap_i64 (by omega) (by omega)];exact⟨rfl,he⟩
theorem zb0 (h:SpM w b db S F Fd x hb hr nb nr m) (n:Nat) (hn:n<4294967296):
  Calls prog 75 #[.pointer (zjO m),.int .u32 (n:Int)] w (Ret fun v w'=>v=.int .i64 ((cnt S.mark n:Nat):Int)/\w'=w):=by
 have hm:=h.markC;cases hS:S.mark with
 |none=>
  rw[hS]at hm;cases m with
  |none=>exact zcw w n
  |some a=>exact hm.elim
 |some l=>
  rw[hS]at hm;cases m with
  |none=>exact hm.elim
  |some a=>
   obtain⟨q,hm⟩:=hm;exact zas hm n hn
theorem vg (h:SpM w b db S F Fd x hb hr nb nr m) (n:Nat) (hn:n<4294967296):
  Calls prog 75 #[.pointer (some ⟨nb,0,none⟩),.int .u32 (n:Int)] w (Ret fun v w'=>v=.int .i64 ((S.now.getD n 0:Nat):Int)/\w'=w):=by
 obtain⟨q,c⟩:=h.nowC;exact zas c n hn
theorem zgp (h:SpM w b db S F Fd x hb hr nb nr m) (n:Nat) (hn:n<4294967296):
  Calls prog 75 #[.pointer (some ⟨hb,0,none⟩),.int .u32 (n:Int)] w (Ret fun v w'=>v=.int .i64 ((S.held.getD n 0:Nat):Int)/\w'=w):=by
 obtain⟨q,c⟩:=h.heldC;exact zas c n hn
theorem zpm {K:WP} {w:World} (h:K w.drew):zD K w:=h
theorem zcD {w:World} {A:Option Addr} {n c:Nat} {xs:List Nat} {g:FuncId} {cap:Array Value} {q:Nat->Bool} (h:Sli (zw .u32) w A n xs) (hen:enterable prog g=true)
  (hq:∀ y∈xs,Calls prog g ([Value.int .u32 (y:Int)]++cap.toList).toArray w (Ret fun v w'=>v=.bool (q y)/\w'=w)):
  Calls prog 71 #[.slice A n c,.func (.func g) #[] cap] w (Ret fun v w'=>v=.bool (xs.any q)/\w'=w):=by
 apply zoO;unfold S71;have hl:=h.len;have hle:=h.le;have hi:Calls prog 119 #[.slice A n c,.func (.func g) #[] cap] w (Ret fun v w'=>(∃ k:Int,v=.int .i64 k/\(0<=k↔xs.any q=true))/\w'=w):=by
  apply zlS;unfold S119;refine zu (fun y w'=>w'=w/\∃ i:Nat,i<=n/\y=((i:Int),())/\(xs.take i).any q=false) (fun y=>(n-y.1).toNat) ⟨rfl,0,by omega,rfl,rfl⟩ ?_;rintro _ w1 ⟨rfl,i,hi,rfl,hno⟩;dsimp only
  by_cases hlt:i<n
  ·refine zf (decide_eq_true (by omega)) ?_;refine zY h (by omega) (by omega) ?_;rw[Int.toNat_natCast];have e:xs[i]?=some (xs.getD i 0):=by rw[getD_eq_getElem?_getD,List.getElem?_eq_getElem (by omega)];rfl
   refine qf hen (zb (hq (xs.getD i 0) (mem_of_getElem? e)) ?_);rintro _ w2 ⟨rfl,rfl⟩;refine⟨_,rfl,?_⟩;have e2:(xs.take (i+1)).any q=q (xs.getD i 0):=by
    rw[take_add_one,e,List.any_append,hno];simp
   refine zg (fun hz=>?_) (fun hz=>?_)
   ·refine⟨⟨i,rfl,fun _=>?_,fun _=>by omega⟩,rfl⟩;rw[List.any_eq_true];exact⟨_,mem_of_getElem? e,hz⟩
   ·refine⟨⟨rfl,i+1,by omega,by rw[wrap_i64 (by omega) (by omega)];rfl,by rw[e2];exact hz⟩,by rw[wrap_i64 (by omega) (by omega)];omega⟩
  ·obtain rfl:i=n:=by omega
   refine zd (decide_eq_false (by omega)) ?_;rw[take_of_length_le (by omega)]at hno;refine⟨⟨-1,rfl,fun h=>by omega,fun h=>by rw[hno]at h;cases h⟩,rfl⟩
 refine zb hi ?_;rintro _ w1 ⟨⟨k,rfl,hk⟩,rfl⟩;refine⟨k,rfl,?_,rfl⟩;have e:decide (k>=0)=xs.any q:=by rw[Bool.eq_iff_iff,decide_eq_true_iff];exact hk
 rw[<- e]
def vh (S:Spa):List (List Value):=S.yc.map fun n:Nat=>[.int .u32 (n:Int)]
def jC (S:Spa) (n:Nat):List Nat:=(List.range n).filter fun n=>decide (2<=n)&&S.yx n
theorem qR (S:Spa) (n:Nat):jC S (n+1)=if (decide (2<=n)&&S.yx n)=true then jC S n++[n] else jC S n:=by
 unfold jC;rw[range_succ,List.filter_append];simp only [List.filter_cons,List.filter_nil];split<;>simp
theorem zja (S:Spa):∀ (k n:Nat),(jC S n) <+:(jC S (n+k))
 |0,n=>List.prefix_refl _
 |k+1,n=>by
  refine(zja S k n).trans ?_;rw[<- Nat.add_assoc,qR];split
  ·exact List.prefix_append _ _
  ·exact List.prefix_refl _
theorem zkZ {S:Spa} {n:Nat} (hn:n<S.N) (hf:(decide (2<=n)&&S.yx n)=true):S.yc[(jC S n).length]?=some n:=by
 have h1:jC S (n+1) <+:S.yc:=by
  have:=zja S (S.N-(n+1)) (n+1);rw[show n+1+(S.N-(n+1))=S.N by omega]at this;exact this
 rw[qR,if_pos hf]at h1;obtain⟨r,hr⟩:=h1;rw[<- hr];simp
def zjQ (b r:Nat) (P:WP):WP:=fun w=>Blk w r [.pointer (some ⟨b,0,none⟩)] 48/\P w
theorem zjR (h:SpM w b db S F Fd x hb hr nb nr m):
  Calls prog 84 #[.pointer (some ⟨b,0,none⟩)] w (Ret fun v w'=>Iter prog v (vh S) (zjQ b w.heap.size fun w=>SpM w b db S F Fd x hb hr nb nr m)/\zjQ b w.heap.size (fun w=>SpM w b db S F Fd x hb hr nb nr m) w'/\w'.heap.size=w.heap.size+1/\Ext w w'):=by
 apply zo0;unfold S84;apply yE;have he:=(Ext.refl w).alloc (.cells #[.pointer (some ⟨b,0,none⟩)] 48);have hdim:=h.dims;have hN:=hdim.n;have hbl:=hdim.blocks;refine⟨⟨_,_,rfl,by kernel_rfl,fun l J w1 hJ hR hdr hY=>?_⟩,⟨Blk.new w _ _,h.ext he⟩,by simp,he⟩;apply zlY;unfold S130;have hlen:(vh S).length=S.yc.length:=by simp[vh]
 refine zu (fun y w'=>∃ n:Nat,2<=n/\n<=S.N/\y=((n:Int),())/\J (jC S n).length w') (fun y=>(S.N-y.1).toNat) ⟨2,by omega,by omega,rfl,?_⟩ ?_
 ·have:(jC S 2).length=0:=by rw[qR,if_neg (by simp),qR,if_neg (by simp)];rfl
  rw[this];exact hJ
 rintro _ w2 ⟨n,h2,hn,rfl,hJ2⟩;dsimp only;have hR2:=hR _ _ hJ2;obtain⟨hbk,hS⟩:=hR2;obtain⟨t,hbx⟩:=hS.box;refine zo (x:=some ⟨b,0,none⟩) hbk (by rfl) (zp (jb 3 S.sup.blocks hbx (by rfl) (by rfl) ?_));rw[wrap_i64 (by omega) (by omega)]
 by_cases hlt:n<S.N
 ·refine zf (decide_eq_true (by omega)) ?_;have hJ3:=hdr _ _ hJ2;have hlt32:n<4294967296:=by omega
  refine zpm ?_;generalize w2.drew=w3 at hJ3 ⊢;obtain⟨hbk,hS⟩:=hR _ _ hJ3;obtain⟨t,hbx⟩:=hS.box;obtain⟨c1,c2,c3⟩:=zp4 hS n;refine zo (x:=some ⟨b,0,none⟩) hbk (by rfl) (zp (jb (l:=.ptr) 8 (some ⟨nb,0,none⟩) hbx (by rfl) (by rfl) ?_));refine zo (x:=some ⟨b,0,none⟩) hbk (by rfl) (zp (jb (l:=.ptr) 7 (some ⟨hb,0,none⟩) hbx (by rfl) (by rfl) ?_));refine zo (x:=some ⟨b,0,none⟩) hbk (by rfl) (zp (jb (l:=.ptr) 9 (zjO m) hbx (by rfl) (by rfl) ?_));refine zb (vg hS n hlt32) ?_;rintro _ w4 ⟨rfl,rfl⟩;refine⟨_,rfl,?_⟩;refine⟨?_,zb (zgp hS n hlt32) ?_⟩
  ·intro p hp q hq;simp only [mem_cons,not_mem_nil,or_false]at hp;rcases hp with rfl|rfl|rfl|rfl<;>(simp only [mem_cons,not_mem_nil,or_false]at hq;subst hq)
   ·exact(hbx.cell 9).trans rfl
   ·exact(hbk.cell 0).trans rfl
   ·exact(hbx.cell 7).trans rfl
   ·exact(hbk.cell 0).trans rfl
  rintro _ w5 ⟨rfl,rfl⟩;refine⟨_,rfl,?_⟩;refine⟨?_,zb (zb0 hS n hlt32) ?_⟩
  ·intro p hp q hq;simp only [mem_cons,not_mem_nil,or_false]at hp;rcases hp with rfl|rfl<;>(simp only [mem_cons,not_mem_nil,or_false]at hq;subst hq)
   ·exact(hbx.cell 9).trans rfl
   ·exact(hbk.cell 0).trans rfl
  rintro _ w6 ⟨rfl,rfl⟩;refine⟨_,rfl,?_⟩;rw[wrap_i64 (x:=(S.now.getD n 0:Int)+_) (by omega) (by omega),wrap_i64 (by omega) (by omega)];have hfree:S.yx n=true↔S.now.getD n 0=0/\S.held.getD n 0=0/\cnt S.mark n=0:=by simp[Spa.yx,and_assoc]
  have hnx:wrap .u32 ((n:Int)+1)=((n+1:Nat):Int):=by rw[show(n:Int)+1=((n+1:Nat):Int) by omega,uS (by omega)]
  refine zg (fun hz=>?_) (fun hz=>?_)
  ·have hz:=beq_iff_eq.1 hz;have hf:(decide (2<=n)&&S.yx n)=true:=by
    rw[hfree.2 (by omega),decide_eq_true h2];rfl
   have hget:=zkZ hlt hf;have hidx:(jC S n).length<(vh S).length:=by
    rw[hlen];exact(List.getElem?_eq_some_iff.1 hget).1
   refine .inr ⟨l,rfl,?_⟩;have hy:=hY _ w6 hidx hJ3;have el:(vh S)[(jC S n).length]=[.int .u32 (n:Int)]:=by
    obtain⟨h1,h2⟩:=List.getElem?_eq_some_iff.1 hget;simp[vh,h2]
   rw[el]at hy;obtain⟨fn,tmps,asg,bd,hy1,hy2⟩:=hy;refine⟨fn,tmps,asg,bd,hy1,RoundIn.mono hy2 ?_⟩;rintro(v|c|_) w7 hv
   ·obtain⟨rfl,hJ7⟩:=hv;refine⟨true,rfl,zd (by rfl) ?_⟩;rw[hnx];refine⟨⟨n+1,by omega,by omega,rfl,?_⟩,by omega⟩;rw[qR,if_pos hf,length_append];exact hJ7
   ·exact hv
   ·exact hv
  ·have hz:=beq_eq_false_iff_ne.1 hz;rw[hnx];refine⟨⟨n+1,by omega,by omega,rfl,?_⟩,by omega⟩;rw[qR,if_neg (by
    intro hh
    simp only [Bool.and_eq_true,hfree]at hh
    omega)]
   exact hJ3
 ·refine zd (decide_eq_false (by omega)) ?_;obtain rfl:n=S.N:=by omega
  rw[hlen];exact hJ2
end V
/- Contracts of the package space:Free,take. -/
namespace V
open Go Go.Proofs Go.RowKit Crc
variable {w w':World} {b db:Nat} {S:Spa} {F Fd:Nat->Prop} {x:SLC} {hb hr nb nr:Nat} {m:MkL}
theorem SpM.qy {a c:Nat} (h:SpM w b db S F Fd x hb hr nb nr m) (hs:yY a c w w') (h1:¬F a) (h2:¬F c):SpM w' b db S F Fd x hb hr nb nr m:=by
 refine h.only (G:=fun k=>k=a\/k=c) ⟨hs.1,hs.2.1,hs.2.2.1,Nat.le_of_eq hs.2.2.2.1.symm,fun k hk hg=>hs.2.2.2.2 k (fun e=>hg (.inl e)) (fun e=>hg (.inr e))⟩ ?_;rintro j hj (rfl|rfl)
 ·exact h1 hj
 ·exact h2 hj
theorem znb (S:Spa):S.z7<=S.N:=by
 unfold Spa.z7 Spa.yc;exact Nat.le_trans (List.length_filter_le _ _) (by simp)
theorem zir (h:SpM w b db S F Fd x hb hr nb nr m):
  Calls prog 26 #[.pointer (some ⟨b,0,none⟩)] w (Ret fun v w'=>v=.int .i64 (S.z7:Int)/\Ext w w'):=by
 have hdim:=h.dims;have hN:=hdim.n;have hle:=znb S;apply zof;unfold S26;refine zs fun r1 w1 hb1 he1 hr1 hs1=>?_;refine zd (by rfl) ?_;refine zb (zjR (h.ext he1)) ?_;rintro v w2 ⟨hit,hR2,hs2,he2⟩;refine⟨v,rfl,?_⟩;have hlt:=(h.ext he1).lt;have h12:=he2.size;have hr2:=hR2.1.lt;have hlen:(vh S).length=S.z7:=by simp[vh,Spa.z7]
 refine zaX (fun i w'=>zjQ b w1.heap.size (fun w=>SpM w b db S F Fd x hb hr nb nr m) w'/\Blk w' r1 [.int .i64 (i:Int)] 3/\Ext w w') hit (fun i w' hI=>hI.1) ?_ ?_ ?_ ?_ ?_
 ·rintro i w' ⟨⟨g1,g2⟩,g3,g4⟩;have hx:=(Ext.refl w').drew;exact⟨⟨g1.ext hx,g2.ext hx⟩,g3.ext hx,g4.trans hx⟩
 ·rintro i w' w'' hs ⟨⟨g1,g2⟩,g3,g4⟩;refine⟨⟨hs.blk g1 (by omega),g2.qy hs (fun hf=>?_) (fun hf=>?_)⟩,hs.blk g3 (by omega),hs.ext g4 (by have:=he1.size;omega)⟩
  ·have:=hlt _ hf;omega
  ·have:=hlt _ hf;omega
 ·intro o;have hx:Ext w2 ((w2.alloc (.deferred (some []))).alloc o):=((Ext.refl w2).alloc _).alloc _;exact⟨⟨hR2.1.ext hx,hR2.2.ext hx⟩,(hb1.ext he2).ext hx,(he1.trans he2).trans hx⟩
 ·rintro i hi w' N jump ⟨⟨g1,g2⟩,g3,g4⟩ hsz hN'
  have hi':i<S.yc.length:=by have:(vh S).length=S.yc.length:=by simp[vh]
                             omega
  refine⟨((S.yc[i]:Nat),()),by simp[vh],?_⟩;refine zo (x:=(i:Int)) g3 (by rfl) ?_;rw[wrap_i64 (by omega) (by omega)];refine zU g3 (by show 0<1;omega) ?_;have hg:=yP w' r1 0 (.int .i64 ((i:Int)+1));refine hN' _ ⟨⟨g1.other (p:=⟨r1,0,none⟩) (by show r1≠w1.heap.size;omega) _,?_⟩,g3.set 0 (.int .i64 ((i:Int)+1)),g4.set (p:=⟨r1,0,none⟩) (by show w.heap.size<=r1;omega) _⟩ (by simp) (fun k hk=>Below.heap_setCell _ _ _ _ (by show k≠r1;omega));refine g2.only (Only.z8 (F:=fun k=>k=r1) hg (fun j hj=>.inl (by injection hj with hj;exact hj.symm))) (fun j hj e=>?_);have hF:=h.lt j hj;have:j=r1:=e;omega
 ·rintro w' ⟨⟨g1,g2⟩,g3,g4⟩ hsz hdf;rw[jw];rw[hlen]at g3;refine zo (x:=(S.z7:Int)) g3 (by rfl) ?_;refine zU g3 (by show 0<1;omega) ?_;have g5:=g3.set 0 (.int .i64 (S.z7:Int));refine jL ?_ ?_
  ·rw[Below.heap_setCell _ _ _ _ (by show w2.heap.size≠r1;omega)];exact hdf
  have hsb:=ya (a:=w2.heap.size) (b:=w2.heap.size+1) (w:=w'.setCell ⟨r1,0,none⟩ (.int .i64 (S.z7:Int))) (o:=.deferred none) (.inl rfl);refine zo (x:=(S.z7:Int)) (hsb.blk g5 (by omega)) (by rfl) ?_;refine⟨rfl,hsb.ext (g4.set (p:=⟨r1,0,none⟩) (by show w.heap.size<=r1;omega) _) (by have:=he1.size;omega)⟩
def subs (l:List Nat):List Nat->List Nat
 |[]=>l
 |n::r=>subs (xv l n) r
theorem zdx (l:List Nat):∀ a c:List Nat,subs l (a++c)=subs (subs l a) c
 |[],_=>rfl
 |n::r,c=>zdx (xv l n) r c
theorem zdy (l:List Nat) (n:Nat):(xv l n).length=l.length:=by unfold xv;split<;>simp
theorem zaK:∀ (a l:List Nat),(subs l a).length=l.length
 |[],l=>rfl
 |n::r,l=>by rw[subs,zaK r,zdy]
theorem zc7 (h:SpM w b db S F Fd x hb hr nb nr m) {n:Nat} (hn:n<4294967296):
  Calls prog 87 #[.pointer (some ⟨nb,0,none⟩),.int .u32 (n:Int)] w (Ret fun v w'=>v=.tuple #[.int .i64 (zby S.now n:Int),.int .i64 (atE S.now n)]/\SpM w' b db { S with now:=xv S.now n } F Fd x hb hr nb nr m/\w.grownBy w' (some nr)):=by
 obtain⟨q,c⟩:=h.nowC;refine(zkU c n hn).mono (Ret.mono ?_);rintro v w' ⟨rfl,hc,hg⟩;exact⟨rfl,h.kE hg hc (zdy _ _),hg⟩
theorem zfw {A:Option Addr} {n c r1 r2:Nat} {ns:List Nat} (h:SpM w b db S F Fd x hb hr nb nr m) (h1:Blk w r1 [.slice A n c] 54) (h2:Blk w r2 [.pointer (some ⟨b,0,none⟩)] 48) (hs:Sli (zw .u32) w A n ns)
  (hns:∀ k∈ns,k<4294967296) (hf1:r1≠nr) (hf2:r2≠nr) (hA:∀ a,A=some a->a.block≠nr):
  uJ prog 122 [.pointer (some ⟨r1,0,none⟩),.pointer (some ⟨r2,0,none⟩)] w fun _ w'=>SpM w' b db { S with now:=subs S.now ns } F Fd x hb hr nb nr m/\w.grownBy w' (some nr):=by
 apply zkA;unfold S122;have hl:=hs.len;have hle:=hs.le;refine zo (x:=(A,n,c)) h1 (by rfl) ?_;dsimp only;refine zu (fun y w'=>∃ i:Nat,i<=n/\y=((i:Int),())/\SpM w' b db { S with now:=subs S.now (ns.take i) } F Fd x hb hr nb nr m/\w.grownBy w' (some nr)) (fun y=>(n-y.1).toNat) ⟨0,by omega,rfl,h,xL _ _⟩ ?_;rintro _ w1 ⟨i,hi,rfl,hS,hg⟩;dsimp only
 by_cases hlt:i<n
 ·refine zf (decide_eq_true (by omega)) ?_;have hs1:Sli (zw .u32) w1 A n ns:=hs.grown hg (fun a ha e=>hA a ha (by injection e));refine zY hs1 (by omega) (by omega) ?_;rw[Int.toNat_natCast];have e:ns[i]?=some (ns.getD i 0):=by rw[getD_eq_getElem?_getD,List.getElem?_eq_getElem (by omega)];rfl
  obtain⟨t,hbx⟩:=hS.box;refine zo (x:=some ⟨b,0,none⟩) (h2.grown hg (by simpa using hf2)) (by rfl) (zp (jb (l:=.ptr) 8 (some ⟨nb,0,none⟩) hbx (by rfl) (by rfl) ?_));refine zb (zc7 hS (hns _ (mem_of_getElem? e))) ?_;rintro _ w2 ⟨rfl,hS2,hg2⟩;refine⟨(_,_,()),rfl,?_⟩;have e2:subs S.now (ns.take (i+1))=xv (subs S.now (ns.take i)) (ns.getD i 0):=by
   rw[take_add_one,e,zdx];rfl
  refine⟨⟨i+1,by omega,by rw[wrap_i64 (by omega) (by omega)];rfl,by rw[e2];exact hS2,xn hg hg2 (fun j hj=>.inl hj)⟩,by rw[wrap_i64 (by omega) (by omega)];omega⟩
 ·refine zd (decide_eq_false (by omega)) ?_;rw[take_of_length_le (by omega)]at hS;exact⟨hS,hg⟩
end V
/- Contracts of the package space:take. -/
namespace V
open Go Go.Proofs Go.RowKit Crc
theorem zjb {T:Type} {x0:T} {B:T->(T->WP)->WP} {w:World} (I:T->Nat->WP) (k0:Nat) (h0:I x0 k0 w)
  (h:∀ x k w (J:T->WP),I x k w->(∀ x' k' w',k'<k->I x' k' w'->J x' w')->B x J w):zB T x0 B w:=by
 classical
 refine⟨fun x w=>∃ k,I x k w,fun x w=>if hh:∃ k,I x k w then Classical.choose (least hh) else 0,⟨k0,h0⟩,?_⟩;rintro x w ⟨k,hk⟩;have hh:∃ k,I x k w:=⟨k,hk⟩;have hs:=Classical.choose_spec (least hh);refine h x _ w _ hs.1 (fun x' k' w' hlt hI=>⟨⟨k',hI⟩,?_⟩);have hh':∃ k,I x' k w':=⟨k',hI⟩;simp only [dif_pos hh',dif_pos hh];exact Nat.lt_of_le_of_lt ((Classical.choose_spec (least hh')).2 k' hI) hlt
theorem qM {l r:List Nat} (hl:l.length=r.length) (h:∀ k,l.getD k 0=r.getD k 0):l=r:=by
 apply List.ext_getElem hl;intro k h1 h2;have:=h k;rw[getD_eq_getElem?_getD,getD_eq_getElem?_getD,List.getElem?_eq_getElem h1,List.getElem?_eq_getElem h2]at this;exact this
theorem yp (l:List Nat) (i k x:Nat):(l.set i x).getD k 0=if i=k/\k<l.length then x else l.getD k 0:=by
 rw[getD_eq_getElem?_getD,getD_eq_getElem?_getD,List.getElem?_set]
 by_cases hik:i=k
 ·subst hik
  by_cases hk:i<l.length
  ·simp[hk]
  ·simp[hk]
 ·rw[if_neg hik,if_neg (fun h=>hik h.1)]
def onL (l:List Nat) (ns:List Nat):List Nat:=ns.foldl (fun l n=>l.set n 1) l
theorem zjS (l a:List Nat) (n:Nat):onL l (a++[n])=(onL l a).set n 1:=by simp[onL]
theorem qT:∀ (ns l:List Nat),(onL l ns).length=l.length
 |[],l=>rfl
 |n::r,l=>by rw[onL,foldl_cons];show(onL (l.set n 1) r).length=_;rw[qT r];simp
theorem zjc:∀ (ns l:List Nat) (k:Nat),(∀ n∈ns,n<l.length)->(onL l ns).getD k 0=if k∈ns then 1 else l.getD k 0
 |[],l,k,_=>by simp[onL]
 |n::r,l,k,h=>by
  show(onL (l.set n 1) r).getD k 0=_;rw[zjc r _ k (fun j hj=>by rw[length_set];exact h j (mem_cons_of_mem _ hj)),yp];have hn:=h n mem_cons_self
  by_cases hk:k∈r
  ·rw[if_pos hk,if_pos (mem_cons_of_mem _ hk)]
  ·rw[if_neg hk]
   by_cases hkn:n=k
   ·subst hkn;rw[if_pos ⟨rfl,hn⟩,if_pos mem_cons_self]
   ·rw[if_neg (fun e=>hkn e.1),if_neg (fun e=>by rcases mem_cons.1 e with e|e;exact hkn e.symm;exact hk e)]
theorem zd5:∀ (ns l:List Nat) (k:Nat),ns.Nodup->(∀ n∈ns,2<=n/\n<l.length/\l.getD n 0≠0)->(subs l ns).getD k 0=if k∈ns then l.getD k 0-1 else l.getD k 0
 |[],l,k,_,_=>by simp[subs]
 |n::r,l,k,hnd,h=>by
  obtain⟨h2,hlt,h0⟩:=h n mem_cons_self;obtain⟨hnr,hnd⟩:=nodup_cons.1 hnd;have ea:atE l n=0:=by unfold atE;rw[if_neg (by omega),if_neg h0]
  have es:xv l n=l.set n (l.getD n 0-1):=by
   unfold xv;rw[if_pos ea]
  show(subs (xv l n) r).getD k 0=_;rw[es,zd5 r _ k hnd (fun j hj=>?_),yp]
  ·by_cases hkn:n=k
   ·subst hkn;rw[if_neg hnr,if_pos ⟨rfl,hlt⟩,if_pos mem_cons_self]
   ·rw[if_neg (show ¬(n=k/\k<l.length) from fun e=>hkn e.1)]
    by_cases hk:k∈r
    ·rw[if_pos hk,if_pos (mem_cons_of_mem _ hk)]
    ·rw[if_neg hk,if_neg (fun e=>by rcases mem_cons.1 e with e|e;exact hkn e.symm;exact hk e)]
  ·obtain⟨g1,g2,g3⟩:=h j (mem_cons_of_mem _ hj);refine⟨g1,by rw[length_set];exact g2,?_⟩;rw[yp,if_neg (show ¬(n=j/\j<l.length) from fun e=>hnr (e.1▸hj))];exact g3
structure Marked (S:Spa) (ns:List Nat):Prop where
 nodup:ns.Nodup
 each:∀ n∈ns,2<=n/\n<S.now.length/\S.now.getD n 0=0/\cnt S.mark n≠0
theorem Marked.get {S:Spa} {ns:List Nat} (h:Marked S ns) (k:Nat):(onL S.now ns).getD k 0=if k∈ns then 1 else S.now.getD k 0:=zjc _ _ _ (fun n hn=>(h.each n hn).2.1)
theorem Marked.back {S:Spa} {ns:List Nat} (h:Marked S ns):subs (onL S.now ns) ns=S.now:=by
 refine qM (by rw[zaK,qT]) (fun k=>?_);rw[zd5 _ _ _ h.nodup (fun n hn=>?_),h.get]
 ·split
  ·rename_i hk;have:=(h.each k hk).2.2.1;omega
  ·rfl
 ·obtain⟨g1,g2,g3,g4⟩:=h.each n hn;refine⟨g1,by rw[qT];exact g2,?_⟩;rw[h.get,if_pos hn]
  decide
theorem Marked.zpn {S:Spa} {ns:List Nat} (h:Marked S ns) {n:Nat} (hn:n∉ns):subs ((onL S.now ns).set n 1) ns=S.now.set n 1:=by
 refine qM (by rw[zaK,length_set,qT,length_set]) (fun k=>?_);rw[zd5 _ _ _ h.nodup (fun j hj=>?_),yp,yp,h.get,qT]
 ·by_cases hk:k∈ns
  ·rw[if_pos hk,if_neg (show ¬(n=k/\k<S.now.length) from fun e=>hn (e.1▸hk)),if_pos hk,if_neg (show ¬(n=k/\k<S.now.length) from fun e=>hn (e.1▸hk))];have:=(h.each k hk).2.2.1;omega
  ·rw[if_neg hk,if_neg hk]
 ·obtain⟨g1,g2,g3,g4⟩:=h.each j hj;refine⟨g1,by rw[length_set,qT];exact g2,?_⟩;rw[yp,if_neg (show ¬(n=j/\j<(onL S.now ns).length) from fun e=>hn (e.1▸hj)),h.get,if_pos hj]
  decide
theorem zeU {p:Nat->Bool} {n N:Nat} (hn:n<N) (hp:p n=true) (hno:∀ j,j<n->p j=false):(List.range N).findIdx p=n:=by
 have h1:(List.range N).findIdx p<(List.range N).length:=List.findIdx_lt_length_of_exists ⟨n,mem_range.2 hn,hp⟩;rw[length_range]at h1;rcases Nat.lt_trichotomy ((List.range N).findIdx p) n with h|h|h
 ·have:=List.findIdx_getElem (p:=p) (xs:=List.range N) (w:=by rw[length_range];exact h1);rw[getElem_range,hno _ h]at this;cases this
 ·exact h
 ·have:=List.not_of_lt_findIdx (p:=p) (xs:=List.range N) h;rw[getElem_range,hp]at this;simp at this
theorem zV {S:Spa} {n:Nat}:S.yx n=true↔S.now.getD n 0=0/\S.held.getD n 0=0/\cnt S.mark n=0:=by simp[Spa.yx,and_assoc]
theorem ko {l hl:List Nat} {n:Nat}:qQ l hl n=true↔l.getD n 0=0/\hl.getD n 0=0:=by simp[qQ]
theorem Marked.take {S:Spa} {ns:List Nat} (h:Marked S ns) (hlt:zF (onL S.now ns) S.held<S.now.length) (h0:cnt S.mark (zF (onL S.now ns) S.held)=0):S.zF=zF (onL S.now ns) S.held:=by
 have hf:=ko.1 (zd0 (l:=onL S.now ns) (hl:=S.held) (by rw[qT];exact hlt));have hg:=h.get (zF (onL S.now ns) S.held);refine zeU hlt (zV.2 ⟨?_,hf.2,h0⟩) (fun j hj=>?_)
 ·by_cases hk:zF (onL S.now ns) S.held∈ns
  ·exact absurd h0 (h.each _ hk).2.2.2
  ·rw[if_neg hk]at hg;omega
 ·have:=zcy hj;cases hq:S.yx j with
  |false=>rfl
  |true=>
   obtain⟨g1,g2,g3⟩:=zV.1 hq;have hgj:=h.get j
   by_cases hk:j∈ns
   ·exact absurd g3 (h.each _ hk).2.2.2
   ·rw[if_neg hk]at hgj;rw[ko.2 ⟨by omega,g2⟩]at this;cases this
theorem Marked.none {S:Spa} {ns:List Nat} (h:Marked S ns) (hlt:¬zF (onL S.now ns) S.held<S.now.length):¬S.zF<S.now.length:=by
 intro hh;have hp:=List.findIdx_getElem (p:=S.yx) (xs:=List.range S.now.length) (w:=by rw[length_range];exact hh);rw[getElem_range]at hp;obtain⟨g1,g2,g3⟩:=zV.1 hp;have hgj:=h.get S.zF;have hk:S.zF∉ns:=fun hk=>absurd g3 (h.each _ hk).2.2.2;have g1':S.now.getD S.zF 0=0:=g1;rw[if_neg hk]at hgj;have:=zcy (l:=onL S.now ns) (hl:=S.held) (i:=S.zF) (by omega);have hf:qQ (onL S.now ns) S.held S.zF=true:=ko.2 ⟨by omega,g2⟩;rw[hf]at this;cases this
variable {w w':World} {b db:Nat} {S:Spa} {F Fd:Nat->Prop} {x:SLC} {hb hr nb nr:Nat} {m:MkL}
theorem znc (h:SpM w b db S F Fd x hb hr nb nr m):
  Calls prog 116 #[.pointer (some ⟨nb,0,none⟩),.pointer (some ⟨hb,0,none⟩)] w (Ret fun v w'=>v=.tuple #[.int .u32 ((takeN S.now S.held:Nat):Int),.int .i64 (yW S.now S.held)]/\SpM w' b db { S with now:=yX S.now S.held } F Fd x hb hr nb nr m/\w.grownBy w' (some nr)):=by
 obtain⟨q,c⟩:=h.nowC;have hnd:=h.nodup;simp only [yT,nodup_cons,mem_cons,not_or]at hnd;refine(zeR c (.inr ⟨hb,hr,rfl,h.heldC,by rw[h.ok.held,h.ok.now],hnd.2.1.2.2.1,hnd.2.2.1.2.1⟩)).mono (Ret.mono ?_);rintro v w' ⟨rfl,hc,hg⟩;exact⟨rfl,h.kE hg hc (by unfold yX;split<;>simp),hg⟩
theorem zf1:∀ {N:Nat} {ns:List Nat},ns.Nodup->(∀ n∈ns,n<N)->ns.length<=N
 |0,ns,_,hb=>by
  cases ns with
  |nil=>exact Nat.le_refl _
  |cons a r=>have:=hb a mem_cons_self;omega
 |N+1,ns,h,hb=>by
  have h2:=zf1 (N:=N) (ns:=ns.erase N) (h.erase N) (fun n hn=>by
   have:=hb n (List.mem_of_mem_erase hn)
   have:=(h.mem_erase_iff.1 hn).1
   omega)
  rw[List.length_erase]at h2;split at h2<;>omega
theorem zis (h:SpM w b db S F Fd x hb hr nb nr m) (h01:S.now.getD 0 0≠0/\S.now.getD 1 0≠0):
  Calls prog 77 #[.pointer (some ⟨b,0,none⟩)] w (Ret fun v w'=>v=.tuple #[.int .u32 ((S.takeN:Nat):Int),.int .i64 S.yW]/\SpM w' b db { S with now:=S.yX } F Fd x hb hr nb nr m/\Only F w w'):=by
 have hFlt:=h.lt;have hnrF:F nr:=(h.own nr).2 (.inr (by simp[yT]));have hdim:=h.dims;have hN:=hdim.n;have hlen:=h.ok.now;apply zoT;unfold S77;refine zs fun r1 w1 hb1 he1 hr1 hs1=>?_;refine zs fun r2 w2 hb2 he2 hr2 hs2=>?_;have hnr:=hFlt nr hnrF;have hb1:=hb1.ext he2;have he:=he1.trans he2;have hz:=he1.size;refine zjb (fun _ k w'=>∃ (ns:List Nat) (A:Option Addr) (c:Nat),k=S.N-ns.length/\Marked S ns/\SpM w' b db { S with now:=onL S.now ns } F Fd x hb hr nb nr m/\Blk w' r1 [.pointer (some ⟨b,0,none⟩)] 48
  /\ Blk w' r2 [.slice A ns.length c] 54/\Owni (zw .u32) 41 w' w2.heap.size A ns.length c ns/\Only F w w') (S.N-0) ⟨[],none,0,rfl,⟨List.nodup_nil,by simp⟩,h.ext he,hb1,hb2,Owni.nil _ _ _,Only.zG he⟩ ?_
 rintro⟨⟩ k w3 J ⟨ns,A,c,rfl,hM,hS,g1,g2,g3,g4⟩ hJ;refine zK fun w4 he4 _ _=>?_;have hS:=hS.ext he4;have g1:=g1.ext he4;have g2:=g2.ext he4;have g3:=g3.ext he4;have g4:=Only.trans g4 (Only.zG (F:=F) he4) (fun j hj=>.inl hj);obtain⟨t,hbx⟩:=hS.box;refine zo (x:=some ⟨b,0,none⟩) g1 (by rfl) (zp (jb (l:=.ptr) 8 (some ⟨nb,0,none⟩) hbx (by rfl) (by rfl) ?_));refine zo (x:=some ⟨b,0,none⟩) g1 (by rfl) (zp (jb (l:=.ptr) 7 (some ⟨hb,0,none⟩) hbx (by rfl) (by rfl) ?_));refine zb (znc hS) ?_;rintro _ w5 ⟨rfl,hS5,hg5⟩;refine⟨(((takeN (onL S.now ns) S.held:Nat):Int),yW (onL S.now ns) S.held,()),rfl,?_⟩;have hg5':∀ j,some nr=some j->F j\/w.heap.size<=j:=fun j hj=>.inl (by injection hj with hj;subst hj;exact hnrF);have o5:Only F w w5:=Only.trans g4 (Only.z8 (F:=F) hg5 (fun j hj=>.inl (by injection hj with hj;subst hj;exact hnrF))) (fun j hj=>.inl hj);have g1:=g1.grown hg5 (by simp;omega);have g2:=g2.grown hg5 (by simp;omega);have hge:∀ j,orow A=some j->w2.heap.size<=j:=g3.row;have g3:=g3.grown hg5 (fun j hj e=>by injection hj with hj;subst hj;have:=hge _ e;have:=he.size;omega);have hn32:∀ n∈ns,n<4294967296:=fun n hn=>by have:=(hM.each n hn).2.1;omega
 have hAnr:∀ a,A=some a->a.block≠nr:=fun a ha e=>by have:=hge a.block (by rw[ha];rfl);have:=he.size;omega
 -- the end: what was marked goes back
 have fin:∀ {l:List Nat} {l':List Nat} {w6:World} {v:Value},SpM w6 b db { S with now:=l } F Fd x hb hr nb nr m->Ext w5 w6->subs l ns=l'->v=.tuple #[.int .u32 ((S.takeN:Nat):Int),.int .i64 S.yW]->l'=S.yX->
   zS prog (⟨.fn (.func 122) #[.pointer (some ⟨r2,0,none⟩),.pointer (some ⟨r1,0,none⟩)],#[]⟩::[]) (fun w'=>v=.tuple #[.int .u32 ((S.takeN:Nat):Int),.int .i64 S.yW]/\SpM w' b db { S with now:=S.yX } F Fd x hb hr nb nr m/\Only F w w') w6:=by
  rintro l l' w6 v hS6 he6 rfl hv hl;refine .inr ⟨_,_,rfl,by kernel_rfl,?_⟩;refine CallsDIn.mono (zfw hS6 (g2.ext he6) (g1.ext he6) ((g3.ext he6).sl) hn32 (by omega) (by omega) hAnr) ?_;rintro e u' w7 ⟨hu,hR⟩;refine⟨hu,?_⟩;cases e with
  |returned v7=>
   obtain⟨hS7,hg7⟩:=hR;refine⟨hv,?_,?_⟩
   ·rw[<- hl];exact hS7
   ·exact Only.trans (Only.trans o5 (Only.zG (F:=F) he6) (fun j hj=>.inl hj)) (Only.z8 (F:=F) hg7 (fun j hj=>.inl (by injection hj with hj;subst hj;exact hnrF))) (fun j hj=>.inl hj)
  |panicked c=>exact hR.elim
  |outgrown=>exact hR.elim
 have hol:(onL S.now ns).length=S.now.length:=qT _ _
 by_cases hlt:zF (onL S.now ns) S.held<S.now.length
 ·have eN:takeN (onL S.now ns) S.held=zF (onL S.now ns) S.held:=by unfold takeN;rw[if_pos (by omega)]
  have eE:yW (onL S.now ns) S.held=0:=by unfold yW;rw[if_pos (by omega)]
  have eL:yX (onL S.now ns) S.held=(onL S.now ns).set (zF (onL S.now ns) S.held) 1:=by unfold yX;rw[if_pos (by omega)]
  dsimp only at eN eE ⊢;rw[eN,eE];rw[eL]at hS5;have hf:=ko.1 (zd0 (l:=onL S.now ns) (hl:=S.held) (by omega));have hget:=hM.get (zF (onL S.now ns) S.held);generalize hn:zF (onL S.now ns) S.held=n at *;have hnns:n∉ns:=fun hk=>by rw[if_pos hk]at hget;omega
  rw[if_neg hnns]at hget;have h2n:2<=n:=by
   rcases Nat.lt_or_ge n 2 with hh|hh
   ·have:n=0\/n=1:=by omega
    rcases this with rfl|rfl
    ·exact absurd (by omega:S.now.getD 0 0=0) h01.1
    ·exact absurd (by omega:S.now.getD 1 0=0) h01.2
   ·exact hh
  refine zd (by rfl) ?_;obtain⟨t,hbx⟩:=hS5.box;refine zo (x:=some ⟨b,0,none⟩) g1 (by rfl) (zp (jb (l:=.ptr) 9 (zjO m) hbx (by rfl) (by rfl) ?_));refine zb (zb0 hS5 n (by omega)) ?_;rintro _ w6 ⟨rfl,hw6⟩;refine⟨_,rfl,?_⟩;rw[hw6];dsimp only;refine zg (fun hz=>?_) (fun hz=>?_)
  ·have hz:cnt S.mark n=0:=by have:=beq_iff_eq.1 hz;omega
   have eT:S.zF=n:=by rw[<- hn];exact hM.take (by rw[hn];exact hlt) (by rw[hn];exact hz)
   have e1:S.takeN=n:=by unfold Spa.takeN;rw[eT,if_pos hlt]
   have e2:S.yW=0:=by unfold Spa.yW;rw[eT,if_pos hlt]
   have e3:S.yX=S.now.set n 1:=by unfold Spa.yX;rw[eT,if_pos hlt]
   exact fin hS5 (Ext.refl w5) (hM.zpn hnns) (by rw[e1,e2]) e3.symm
  ·have hz:cnt S.mark n≠0:=by have:=beq_eq_false_iff_ne.1 hz;omega
   have hM':Marked S (ns++[n]):=by
    refine⟨?_,fun k hk=>?_⟩
    ·rw[List.nodup_append];exact⟨hM.nodup,by simp,fun a ha c hc e=>by simp at hc;subst hc;subst e;exact hnns ha⟩
    ·rcases mem_append.1 hk with hk|hk
     ·exact hM.each k hk
     ·rw[mem_singleton.1 hk];exact⟨h2n,hlt,by omega,hz⟩
   have hlen1:=zf1 hM'.nodup (fun k hk=>(hM'.each k hk).2.1);rw[length_append,length_singleton]at hlen1;refine zo (x:=(A,ns.length,c)) g2 (by rfl) ?_;have hle:=g3.le;dsimp only;refine yG (E:=zw .u32) (ys:=[n]) (by rfl) rfl jV g3 (by have:=he4.size;have:=hg5.size;have:=g4.2.2.2.1;have:=he.size;have hh:=g2.lt;omega) (by omega) (by omega) ?_;intro A' c' w7 ho7 hg7;have hx7:∀ j,orow A=some j->¬F j:=fun j hj hf=>by have:=hge j hj;have:=hFlt j hf;have:=he.size;omega
   have o7:Only (fun j=>orow A=some j) w5 w7:=Only.z8 hg7.grown (fun j hj=>.inl hj);have hS7:=hS5.only o7 (fun j hj e=>hx7 j e hj);have g1:=g1.only o7 (fun e=>by have:=hge _ e;omega);have g2:=g2.only o7 (fun e=>by have:=hge _ e;omega);refine zU g2 (by show 0<1;omega) ?_;have hg8:=yP w7 r2 0 (.slice A' (ns.length+1) c');have o8:Only (fun j=>j=r2) w7 (w7.setCell ⟨r2,0,none⟩ (.slice A' (ns.length+1) c')):=Only.z8 hg8 (fun j hj=>.inl (by injection hj with hj;exact hj.symm));have hr2F:¬F r2:=fun hf=>by have:=hFlt r2 hf;omega
   have hAr2:∀ j,orow A'=some j->j≠r2:=fun j hj e=>by
    have:=ho7.row j hj;omega
   refine hJ () (S.N-(ns++[n]).length) _ (by rw[length_append,length_singleton];omega) ⟨ns++[n],A',c',rfl,hM',?_,g1.only o8 (by omega),?_,?_,?_⟩
   ·rw[zjS];exact hS7.only o8 (fun j hj e=>hr2F (by rw[<- show j=r2 from e];exact hj))
   ·rw[length_append,length_singleton];exact g2.set 0 _
   ·rw[length_append,length_singleton];exact ho7.only o8 (fun j hj e=>hAr2 j hj e)
   ·refine Only.trans (Only.trans o5 o7 (fun j hj=>.inr (by have:=hge j hj;have:=he.size;omega))) o8 (fun j hj=>.inr (by have:j=r2:=hj;omega))
 ·have eN:takeN (onL S.now ns) S.held=0:=by unfold takeN;rw[if_neg (by omega)]
  have eE:yW (onL S.now ns) S.held=9:=by unfold yW;rw[if_neg (by omega)]
  have eL:yX (onL S.now ns) S.held=onL S.now ns:=by unfold yX;rw[if_neg (by omega)]
  dsimp only at eN eE ⊢;rw[eN,eE];rw[eL]at hS5;refine zf (by rfl) ?_;have hno:=hM.none hlt;have e1:S.takeN=0:=by unfold Spa.takeN;rw[if_neg hno]
  have e2:S.yW=9:=by unfold Spa.yW;rw[if_neg hno]
  have e3:S.yX=S.now:=by unfold Spa.yX;rw[if_neg hno]
  exact fin hS5 (Ext.refl w5) hM.back (by rw[e1,e2]) e3.symm
end V
/- Contracts of the package space:page,Get. -/
namespace V
open Go Go.Proofs Go.RowKit Crc
theorem zjT {w:World} {lo b:Nat} {bs:List UInt8} (h:Rdr w lo b bs):
  Calls prog 178 #[.pointer (some ⟨b,0,none⟩)] w (Ret fun v w'=>v=.int .i64 (bs.length:Int)/\w'=w):=by
 obtain⟨A,n,c,t,hb,hs,hc,ha,hlo⟩:=h;have hl:=hs.blen;apply zmu;unfold S178;refine zd (by rfl) (zp (zC (A,n,c) hb (by rfl) ⟨?_,rfl⟩));rw[hl]
theorem zit {w:World} {lo b k:Nat} {bs:List UInt8} (h:Rdr w lo b bs) (hk:k<=1000000):
  Calls prog 177 #[.pointer (some ⟨b,0,none⟩),.int .i64 (k:Int)] w (Ret fun v w'=>∃ A n c,v=.tuple #[.slice A n c,.int .i64 (rd bs k).2.1]/\Sl w' A n (bV (if bs.length<k then [] else bs.take k))/\w.grownBy w' (some b)):=by
 apply zmt;unfold S177;refine zd (by rfl) (zd (decide_eq_false (by omega)) ?_);refine zb (zdr h hk) ?_;rintro _ w1 ⟨A,n,c,rfl,hs,hr,hg⟩;refine⟨((A,n,c),(rd bs k).2.1,()),rfl,?_⟩;have hl:=hs.blen;have hn:n<=1000000:=by
  split at hl
  ·simp only [length_nil]at hl;omega
  ·rw[length_take]at hl;omega
 refine zb (zdp hs (by dsimp only;omega)) ?_;rintro _ w2 ⟨⟨A2,n2,c2⟩,rfl,ho2,he2⟩;refine⟨(A2,n2,c2),rfl,A2,n2,c2,rfl,ho2.sl,xn hg (xZ he2 none) (fun j hj=>by cases hj)⟩
def pgV (p:Page) (y:SLC):List Value:=[.int .u8 (p.1.toNat:Int),.slice y.1 y.2.1 y.2.2,.string p.2.2]
def pgT (p:Page) (y:SLC):Int×SLC×ByteArray×Unit:=((p.1.toNat:Int),y,p.2.2,())
abbrev zfx:List Lf:=[.int .u8,.slc,.str]
theorem kq (p:Page) (y:SLC):∀ v∈pgV p y,v.oneCell'=true:=by
 intro v hv;simp only [pgV,mem_cons,not_mem_nil,or_false]at hv;rcases hv with rfl|rfl|rfl<;>rfl
theorem zd6 {w:World} {r:Nat} {cs:List Value} {t:TypeId} {K:(Int×SLC×ByteArray×Unit)->WP} {us:Array Value} (p:Page) (y:SLC) (hb:Blk w r cs t) (hl:cs.length=3) (hu:us.size=3)
  (hK:∀ w',Blk w' r (pgV p y) t->(∀ w0,Ext w0 w->w0.heap.size<=r->Ext w0 w')->(∀ k:Nat,k≠r->w'.heap[k]?=w.heap[k]?)->w'.heap.size=w.heap.size->K (pgT p y) w'):
  (zc (us.size=3)<|zt (aD r) (pgV p y)<|zl zfx (aD r) K) w:=
 refill (vs:=pgV p y) hb (by rw[hl];rfl) (kq p y) hu fun w' hb' hx hs hz=>zR (ls:=zfx) (pgT p y) hb' rfl (hK w' hb' hx hs hz)
theorem zjU {w:World} {r:Nat} {t:TypeId} {K:(Int×SLC×ByteArray×Unit)->WP} (p:Page) (y:SLC) (hb:Blk w r (pgV p y) t)
  (hK:∀ w',(∀ w0,Ext w0 w->w0.heap.size<=r->Ext w0 w')->(∀ k:Nat,k≠r->w'.heap[k]?=w.heap[k]?)->w'.heap.size=w.heap.size->K (pgT p y) w'):
  (zl zfx (aD r) fun(u:Int×SLC×ByteArray×Unit)=>zc ((#[(.int .u8 u.1),(.slice u.2.1.1 u.2.1.2.1 u.2.1.2.2),(.string u.2.2.1)]:Array Value).size=3)<|zt (aD r) [(.int .u8 u.1),(.slice u.2.1.1 u.2.1.2.1 u.2.1.2.2),(.string u.2.2.1)]<|zl zfx (aD r) K) w:=
 zR (ls:=zfx) (pgT p y) hb rfl (zd6 p y hb rfl rfl fun w' _ hx hs hz=>hK w' hx hs hz)
def zgB (w:World) (p:Page×Int) (v:Value) (w':World):Prop:=∃ y:SLC,v=.tuple #[.agg (pgV p.1 y).toArray,.int .i64 p.2]/\Owni (zw .u32) 41 w' w.heap.size y.1 y.2.1 y.2.2 p.1.2.1/\Ext w w'
theorem jv {w w':World} (he:Ext w w') (e:Int):zgB w (xg,e) (.tuple #[.agg (pgV xg (none,0,0)).toArray,.int .i64 e]) w':=⟨(none,0,0),rfl,Owni.nil _ _ _,he⟩
theorem Owni.qc {α:Type} {E:Enc α} {e:TypeId} {w w':World} {B:Nat} {A:Option Addr} {n c r:Nat} {xs:List α} (h:Owni E e w B A n c xs) (hr:r<B) (hz:w'.heap.size=w.heap.size) (ho:w'.os=w.os) (ht:w'.tape=w.tape) (hu:w'.output=w.output) (hs:∀ k:Nat,k≠r->w'.heap[k]?=w.heap[k]?):Owni E e w' B A n c xs:=
 h.only (F:=fun k=>k=r) ⟨ho,ht,hu,Nat.le_of_eq hz.symm,fun k _ hk=>hs k hk⟩ (fun j hj e=>by have:=h.row j hj;have:j=r:=e;omega)
variable {w w':World} {b db:Nat} {S:Spa} {F Fd:Nat->Prop} {x:SLC} {hb hr nb nr:Nat} {m:MkL}
theorem zho (h:SpM w b db S F Fd x hb hr nb nr m) (s:ByteArray) (hs:s.size<=1000000):
  Calls prog 138 #[.pointer (some ⟨b,0,none⟩),.string s] w (Ret (zgB w (qd S.N (B s)))):=by
 have hdim:=h.dims;have hN:=hdim.n;have hbl:=hdim.blocks;apply zl4;unfold S138;refine zs fun r1 w1 hb1 he1 hr1 hz1=>?_;have hb1:Blk w1 r1 (pgV xg (none,0,0)) _:=hb1;refine zb (zjI w1 s (by omega)) ?_;rintro _ w2 ⟨rfl,he2⟩;refine⟨(fT (yk (B s)).1,(yk (B s)).2,()),rfl,?_⟩;refine boxed (f:=(yk (B s)).1) fun r3 w3 hb3 he3 hr3=>?_;have hb1:=(hb1.ext he2).ext he3;have he:=(he1.trans he2).trans he3;have hz2:=he2.size;have hz3:=he3.size;have hlt1:r1<w3.heap.size:=hb1.lt;have hlt3:r3<w3.heap.size:=hb3.lt;have hbad:∀ {w4:World},Ext w w4->(qd S.N (B s)).2≠0\/(qd S.N (B s))=(xg,10)->qd S.N (B s)=(xg,10):=by
  intro w4 _ hh;rcases hh with hh|hh
  ·unfold qd at hh ⊢;split
   ·rename_i hc;rw[if_pos hc]at hh;exact absurd rfl hh
   ·rfl
  ·exact hh
 refine zg (fun hq=>?_) (fun hq=>?_)
 ·have hq:=bne_iff_ne.1 hq;have ep:qd S.N (B s)=(xg,10):=by unfold qd;rw[if_neg (fun hc=>hq hc.1)]
  refine zjU xg (none,0,0) hb1 fun w4 hx _ _=>?_;rw[ep];exact jv (hx w he (by omega)) 10
 have hg0:=bne_eq_false_iff_eq.1 hq;refine zC (((yk (B s)).1.1.toNat:Nat):Int) hb3 (by rfl) ?_;refine zg (fun hq=>?_) (fun hq=>?_)
 ·have hq:=of_decide_eq_true hq;have ep:qd S.N (B s)=(xg,10):=by unfold qd;rw[if_neg (fun hc=>by omega)]
  refine zjU xg (none,0,0) hb1 fun w4 hx _ _=>?_;rw[ep];exact jv (hx w he (by omega)) 10
 have hq3:3<=(yk (B s)).1.1.toNat:=by have:=of_decide_eq_false hq;omega
 have hdl:(B (yk (B s)).1.2.2).length<=4096:=by
  obtain⟨_,_,_,q4,_⟩:=zfo (by rw[(uE hg0).2]);rw[(uE hg0).1];have hsz:=zP s;have:=zfo (size:=((B s).length:Int)) (f:=xu (B s)) (by rw[(uE hg0).2]);omega
 have hpg:qd S.N (B s)=if za4 S.N (B (yk (B s)).1.2.2) then (((yk (B s)).1.1,kD (B (yk (B s)).1.2.2),mkB ((B (yk (B s)).1.2.2).drop (2+4*lev ((B (yk (B s)).1.2.2).take 2)))),0) else (xg,10):=by
  unfold qd
  by_cases hc:za4 S.N (B (yk (B s)).1.2.2)
  ·rw[if_pos ⟨hg0,hq3,hc⟩,if_pos hc]
  ·rw[if_neg (fun hh=>hc hh.2.2),if_neg hc]
 rw[hpg];clear hpg hbad;generalize (yk (B s)).1=f at *;refine zk 2 f.2.2 hb3 (by rfl) ?_;refine vd (u:=.string) (e:=5) (by kernel_rfl) (by kernel_rfl) (by kernel_rfl) (by have:=zP f.2.2;omega) ?_;intro c w4 hsl he4 hs4 hc4;have hb1:=hb1.ext he4;have hb3:=hb3.ext he4;have he4:=he.trans he4;have hlt14:=hb1.lt;have hlt34:=hb3.lt;refine zb (zjE hsl (by have:=zP f.2.2;dsimp only;omega)) ?_;rintro _ w5 ⟨rb,rfl,hrb,hrd,he5⟩;refine⟨some ⟨rb,0,none⟩,rfl,?_⟩;have hb1:=hb1.ext he5;have hb3:=hb3.ext he5;have he5':=he4.trans he5;generalize hd:B f.2.2=d at *;refine zb (zcq (k:=2) hrd (by omega) (by omega)) ?_;rintro _ w6 ⟨rfl,hrd6,hg6⟩;have hb1:=hb1.grown hg6 (by simp;omega);have hb3:=hb3.grown hg6 (by simp;omega);have he6:Ext w w6:=he5'.grown hg6 (fun j hj=>by injection hj with hj;have:=he4.size;omega);refine⟨(((rd d 2).1:Int),(rd d 2).2.1,()),rfl,?_⟩;dsimp only
 by_cases hl2:d.length<2
 ·have e1:rd d 2=(0,7,d):=by unfold rd;rw[if_pos hl2]
  rw[e1];refine zf (by rfl) ?_;refine zjU xg (none,0,0) hb1 fun w7 hx _ _=>?_;rw[if_neg (fun hc=>by have:=hc.1;omega)];exact jv (hx w he6 (by omega)) 10
 have e1:rd d 2=(lev (d.take 2),0,d.drop 2):=by unfold rd;rw[if_neg hl2]
 have hk16:lev (d.take 2)<65536:=by
  have:=zp1 d;rw[e1]at this;exact this
 rw[e1]at hrd6 ⊢;dsimp only at hrd6 ⊢;refine zd (by rfl) ?_;refine zC ((f.1.toNat:Nat):Int) hb3 (by rfl) ?_;refine zU hb1 (by show 0<3;omega) ?_;have hg7:=yP w6 r1 0 (.int .u8 (f.1.toNat:Int));have hb1:Blk (w6.setCell ⟨r1,0,none⟩ (.int .u8 (f.1.toNat:Int))) r1 (pgV (f.1,[],ByteArray.empty) (none,0,0)) _:=hb1.set 0 (.int .u8 (f.1.toNat:Int));have hrd7:=hrd6.grown hg7 (fun j hj=>by injection hj with hj;left;omega);have he7:=he6.grown hg7 (fun j hj=>by injection hj with hj;omega);generalize hw7:w6.setCell ⟨r1,0,none⟩ (.int .u8 (f.1.toNat:Int))=w7 at *;generalize hk:lev (d.take 2)=k at *;have hr1w:r1<w4.heap.size:=hlt14;have h45:=he5.size;have h67:w6.heap.size<=w7.heap.size:=by rw[<- hw7];simp
 have h56:=hg6.size;refine zu (fun y w'=>∃ (i:Nat) (A:Option Addr) (c:Nat),i<=k/\y=((i:Int),())/\2+4*i<=d.length/\(∀ n∈yR i (d.drop 2),2<=n/\n<S.N)/\Ext w w'/\w7.heap.size<=w'.heap.size/\Rdr w' w4.heap.size rb (d.drop (2+4*i))/\Blk w' r1 (pgV (f.1,[],ByteArray.empty) (A,i,c)) 56
   /\ Owni (zw .u32) 41 w' w7.heap.size A i c (yR i (d.drop 2))) (fun y=>(k-y.1).toNat) ⟨0,none,0,by omega,rfl,by omega,by simp[yR],he7,Nat.le_refl _,hrd7,hb1,Owni.nil _ _ _⟩ ?_
 rintro _ w8 ⟨i,A,c,hi,rfl,hdl8,hok,he8,hz8,hrd8,hb8,ho8⟩;dsimp only
 by_cases hlt:i<k
 ·refine zf (decide_eq_true (by omega)) ?_;refine zb (zcq (k:=4) hrd8 (by omega) (by omega)) ?_;rintro _ w9 ⟨rfl,hrd9,hg9⟩;have hb9:=hb8.grown hg9 (by simp;omega);have hrdlt:=hrd8.lt;have hrb7:rb<w7.heap.size:=by have:=hrd7.lt;omega
  have ho9:=ho8.grown hg9 (fun j hj e=>by injection hj with hj;have:=ho8.row _ e;omega);have he9:Ext w w9:=he8.grown hg9 (fun j hj=>by injection hj with hj;have:=he4.size;omega);refine⟨(((rd (d.drop (2+4*i)) 4).1:Int),(rd (d.drop (2+4*i)) 4).2.1,()),rfl,?_⟩;dsimp only
  by_cases hshort:d.length<2+4*i+4
  ·have e2:rd (d.drop (2+4*i)) 4=(0,7,d.drop (2+4*i)):=by unfold rd;rw[if_pos (by rw[length_drop];omega)]
   rw[e2];refine zf (by rfl) (zd6 xg (none,0,0) hb9 (by rfl) (by rfl) fun w10 _ hx _ _=>?_);rw[if_neg (fun hc=>by have:=hc.2.1;rw[hk]at this;omega)];exact jv (hx w he9 (by omega)) 10
  have e2:rd (d.drop (2+4*i)) 4=(lev ((d.drop (2+4*i)).take 4),0,(d.drop (2+4*i)).drop 4):=by unfold rd;rw[if_neg (by rw[length_drop];omega)]
  have hn32:lev ((d.drop (2+4*i)).take 4)<4294967296:=by
   have:=zkY (d.drop (2+4*i));rw[e2]at this;exact this
  rw[e2]at hrd9 ⊢;dsimp only at hrd9 ⊢;refine zd (by rfl) ?_;have hmem:∀ (hlen:2+4*k<=d.length),lev ((d.drop (2+4*i)).take 4)∈kD d:=by
   intro _;unfold kD yR;rw[hk];refine mem_map.2 ⟨i,mem_range.2 hlt,?_⟩;rw[drop_drop]
  generalize hn:lev ((d.drop (2+4*i)).take 4)=n at *;refine zg (fun hq=>?_) (fun hq=>?_)
  ·have hq:=of_decide_eq_true hq;refine zd6 xg (none,0,0) hb9 (by rfl) (by rfl) fun w10 _ hx _ _=>?_;rw[if_neg (fun hc=>by have h1:=hc.2.1;rw[hk]at h1;have:=hc.2.2 n (hmem h1);omega)];exact jv (hx w he9 (by omega)) 10
  have hq2:=of_decide_eq_false hq;obtain⟨t,hbx⟩:=(h.ext he9).box;refine zp (jb 3 S.sup.blocks hbx (by rfl) (by rfl) ?_);have eb:wrap .u64 S.sup.blocks=(S.N:Int):=by rw[hbl,zz (by omega)]
  rw[eb];refine zg (fun hq=>?_) (fun hq=>?_)
  ·have hq:=of_decide_eq_true hq;refine zd6 xg (none,0,0) hb9 (by rfl) (by rfl) fun w10 _ hx _ _=>?_;rw[if_neg (fun hc=>by have h1:=hc.2.1;rw[hk]at h1;have:=hc.2.2 n (hmem h1);omega)];exact jv (hx w he9 (by omega)) 10
  have hq3:=of_decide_eq_false hq;refine zk (l:=.slc) 1 (A,i,c) hb9 (by rfl) ?_;dsimp only;rw[uS (by omega)];have hle:=ho9.le;refine yG (E:=zw .u32) (ys:=[n]) (by rfl) rfl jV ho9 (by have:=hg9.size;omega) (by omega) (by omega) ?_;intro A' c' w10 ho10 hg10;have hx10:∀ j,orow A=some j->w7.heap.size<=j:=fun j hj=>ho9.row j hj;have hb10:=hb9.grown hg10.grown (fun e=>by have:=hx10 r1 e.symm;omega);have hrd10:=hrd9.grown hg10.grown (fun j hj=>by have:=hx10 j hj;omega);have he10:Ext w w10:=he9.grown hg10.grown (fun j hj=>by have:=hx10 j hj;have:=he7.size;omega);rw[zx];refine zU hb10 (by show 0+1<3;omega) ?_;have hg11:=yP w10 r1 (0+1) (.slice A' (i+1) c');have hb11:=hb10.set (0+1) (.slice A' (i+1) c');have ho11:=ho10.grown hg11 (fun j hj e=>by injection hj with hj;have:=ho10.row _ e;omega);have ew:yR (i+1) (d.drop 2)=yR i (d.drop 2)++[n]:=by rw[zhj,drop_drop,hn]
  refine⟨⟨i+1,A',c',by omega,by rw[wrap_u64,show((i:Int)+1) % 18446744073709551616=((i+1:Nat):Int) by omega],by omega,?_,he10.grown hg11 (fun j hj=>by injection hj with hj;omega),?_,?_,hb11,by rw[ew];exact ho11⟩,by rw[wrap_u64];omega⟩
  ·rw[ew];intro a ha;rcases mem_append.1 ha with ha|ha
   ·exact hok a ha
   ·rw[mem_singleton.1 ha];omega
  ·exact Nat.le_trans (Nat.le_trans (Nat.le_trans hz8 hg9.size) hg10.grown.size) hg11.size
  ·have:=hrd10.grown hg11 (fun j hj=>by injection hj with hj;left;omega);rw[drop_drop]at this;rw[show 2+4*(i+1)=2+4*i+4 by omega];exact this
 obtain rfl:i=k:=by omega
 refine zd (decide_eq_false (by omega)) ?_;refine zb (zjT hrd8) ?_;rintro _ w9 ⟨rfl,hw9⟩;refine⟨_,rfl,?_⟩;rw[hw9];refine zb (zit hrd8 (by rw[length_drop];omega)) ?_;rintro _ w10 ⟨A2,n2,c2,rfl,hs10,hg10⟩;refine⟨((A2,n2,c2),(rd (d.drop (2+4*i)) (d.drop (2+4*i)).length).2.1,()),rfl,?_⟩;have e3:rd (d.drop (2+4*i)) (d.drop (2+4*i)).length=(lev ((d.drop (2+4*i)).take (d.drop (2+4*i)).length),0,(d.drop (2+4*i)).drop (d.drop (2+4*i)).length):=by unfold rd;rw[if_neg (by omega)]
 rw[if_neg (by omega),List.take_length]at hs10;rw[e3];dsimp only;have hrb7:rb<w7.heap.size:=by have:=hrd7.lt;omega
 have hb10:=hb8.grown hg10 (by simp;omega);have ho10:=ho8.grown hg10 (fun j hj e=>by injection hj with hj;have:=ho8.row _ e;omega);have he10:Ext w w10:=he8.grown hg10 (fun j hj=>by injection hj with hj;have:=he4.size;omega);refine qa (e:=5) (by kernel_rfl) (by kernel_rfl) (by kernel_rfl) hs10 ?_;rw[zx];refine zU hb10 (by show 0+2<3;omega) ?_;have hg11:=yP w10 r1 (0+2) (.string (mkB (d.drop (2+4*i))));have hb11:Blk (w10.setCell ⟨r1,0+2,none⟩ (.string (mkB (d.drop (2+4*i))))) r1 (pgV (f.1,yR i (d.drop 2),mkB (d.drop (2+4*i))) (A,i,c)) _:=hb10.set (0+2) (.string (mkB (d.drop (2+4*i))));have ho11:=ho10.grown hg11 (fun j hj e=>by injection hj with hj;have:=ho10.row _ e;omega);have he11:=he10.grown hg11 (fun j hj=>by injection hj with hj;omega);refine zjU _ (A,i,c) hb11 fun w12 hx hs12 hz12=>?_;have hxx:=hx _ (Ext.refl _);have ekd:kD d=yR i (d.drop 2):=by unfold kD;rw[hk]
 rw[if_pos ⟨by omega,by rw[hk];omega,by rw[ekd];exact hok⟩,ekd];have he12:=hx w he11 (by omega);refine⟨(A,i,c),rfl,?_,he12⟩;refine Owni.lower ?_ (show w.heap.size<=w7.heap.size from he7.size);refine ho11.qc (r:=r1) (by omega) hz12 ?_ ?_ ?_ hs12
 ·exact he12.os.trans he11.os.symm
 ·exact he12.tape.trans he11.tape.symm
 ·exact he12.output.trans he11.output.symm
theorem ziu (h:SpM w b db S F Fd x hb hr nb nr m) (k:Int):
  Calls prog 137 #[.pointer (some ⟨db,0,none⟩),.int .i64 k] w (Ret fun v w'=>v=.tuple #[.string (S.dev.read k).1,.int .i64 (S.dev.read k).2]/\Ext w w'):=zjG h.dev k
theorem Dev.Ok.read {d:Dev} (h:d.Ok) {k:Int} (h0:0<=k) (h1:k<d.blocks):(d.read k).2=0/\((d.read k).1.size:Int)=d.size:=by
 unfold Dev.read;rw[if_neg (fun hh=>hh ⟨h0,h1⟩)];refine⟨rfl,?_⟩;have hl:=zab d.pen d.dur;have hlen:=h.len;have he:=zcr (n:=d.size) d.pen d.dur h.each (fun p hp=>(h.pend p hp).2.2);have hk:k.toNat<(d.pen.foldl Go.Proofs.YtplgodmmmppmeaaGreat.V.put d.dur).length:=by rw[hl];omega
 show(((d.pen.foldl Go.Proofs.YtplgodmmmppmeaaGreat.V.put d.dur).getD k.toNat ByteArray.empty).size:Int)=_;rw[getD_eq_getElem?_getD,List.getElem?_eq_getElem hk];exact he _ (getElem_mem hk)
theorem v8 {S:Spa} {n:Nat}:S.asked n=true↔2<=n/\n<S.N/\n∉S.sup.pages:=by simp[Spa.asked]
theorem uu (h:SpM w b db S F Fd x hb hr nb nr m) {n:Nat} (hn:n<4294967296):
  Calls prog 88 #[.pointer (some ⟨b,0,none⟩),.int .u32 (n:Int)] w (Ret (zgB w (S.get n))):=by
 have hdim:=h.dims;have hN:=hdim.n;have hbl:=hdim.blocks;have hsz:=hdim.size;apply zo4;unfold S88 Spa.get;refine zs fun r1 w1 hb1 he1 hr1 hz1=>?_;have hb1:Blk w1 r1 (pgV xg (none,0,0)) _:=hb1;refine zd (by rfl) ?_;refine zb (vS (h.ext he1) hn) ?_;rintro _ w2 ⟨rfl,hw2⟩;refine⟨_,rfl,?_⟩;rw[hw2];refine zg (fun hq=>?_) (fun hq=>?_)
 ·have hq:S.asked n=false:=by simpa using hq
  rw[if_pos hq];refine zd6 xg (none,0,0) hb1 (by rfl) (by rfl) fun w3 _ hx _ _=>?_;exact jv (hx w he1 (by omega)) 2
 have hq:S.asked n=true:=by simpa using hq
 rw[if_neg (by rw[hq];simp)];obtain⟨t,hbx⟩:=(h.ext he1).box;refine zp (jb (l:=.ptr) 8 (some ⟨nb,0,none⟩) hbx (by rfl) (by rfl) ?_);refine zb (vg (h.ext he1) n hn) ?_;rintro _ w3 ⟨rfl,hw3⟩;refine⟨_,rfl,?_⟩;rw[hw3];refine zg (fun hz=>?_) (fun hz=>?_)
 ·have hz:S.now.getD n 0=0:=by have:=beq_iff_eq.1 hz;omega
  rw[if_pos hz];refine zd6 xg (none,0,0) hb1 (by rfl) (by rfl) fun w3 _ hx _ _=>?_;exact jv (hx w he1 (by omega)) 8
 have hz:¬S.now.getD n 0=0:=by have:=beq_eq_false_iff_ne.1 hz;omega
 rw[if_neg hz];refine zp (zC (l:=.ptr) (some ⟨db,0,none⟩) hbx (by rfl) ?_);rw[wrap_i64 (by omega) (by omega)];refine zb (ziu (h.ext he1) (n:Int)) ?_;rintro _ w4 ⟨rfl,he4⟩;obtain⟨a1,a2,a3⟩:=v8.1 hq;have hrd:=h.dev.ok.read (k:=(n:Int)) (by omega) (by rw[<- h.ok.blocks];omega);refine⟨((S.dev.read n).1,(S.dev.read n).2,()),rfl,?_⟩;rw[hrd.1];refine zd (by rfl) ?_;have hb1:=hb1.ext he4;have he14:=he1.trans he4;have hr14:r1<w4.heap.size:=hb1.lt;refine zb (zho (h.ext he14) (S.dev.read n).1 (by have:=hrd.2;have:=h.ok.size;omega)) ?_;rintro _ w5 ⟨y,rfl,ho5,he5⟩;refine⟨(pgT (qd S.N (B (S.dev.read n).1)).1 y,(qd S.N (B (S.dev.read n).1)).2,()),rfl,?_⟩;have he15:=he14.trans he5;refine zd6 (qd S.N (B (S.dev.read n).1)).1 y (hb1.ext he5) (by rfl) (by rfl) fun w6 _ hx hs6 hz6=>?_;have he16:=hx w he15 (by omega);refine⟨y,rfl,?_,he16⟩;refine Owni.lower ?_ (show w.heap.size<=w4.heap.size from he14.size);exact ho5.qc (r:=r1) (by omega) hz6 (he16.os.trans he15.os.symm) (he16.tape.trans he15.tape.symm) (he16.output.trans he15.output.symm) hs6
end V
/- Contracts of the package space:write,Put. -/
namespace V
open Go Go.Proofs Go.RowKit Crc
theorem zcE {w:World} {db:Nat} {d:Dev} {Fd:Nat->Prop} (h:xp w db d Fd) (k:Nat) (hk:k<4294967296) (f:Fra) (hg:f.2.1<18446744073709551616) (hn:d.pen.length<=1000000):
  Calls prog 78 #[.pointer (some ⟨db,0,none⟩),.int .u32 (k:Int),.agg (fV f).toArray] w (Ret fun v w'=>v=.int .i64 (ym d k f).2/\Step w db Fd (ym d k f).1 w'):=by
 apply zoU;unfold S78 ym;refine zs fun r1 w1 hb1 he1 _ _=>?_;have hb1:Blk w1 r1 (fV f) 127:=hb1;refine zK fun w2 he2 _ _=>?_;have hb2:=hb1.ext he2;have he:=he1.trans he2;refine zR (ls:=fLs) (fT f) hb2 rfl ?_;refine zb (vY (h.ext he)) ?_;rintro _ w3 ⟨rfl,he3⟩;refine⟨(d.size,d.blocks,()),rfl,?_⟩;have hb3:=hb2.ext he3;have he3:=he.trans he3;refine⟨fun l hl p hp=>?_,?_⟩
 ·simp only [mem_singleton]at hl;subst hl;simp only [mem_cons,not_mem_nil,or_false]at hp;rcases hp with rfl|rfl|rfl
  ·exact(hb3.cell 0).trans rfl
  ·exact(hb3.cell 1).trans rfl
  ·exact(hb3.cell 2).trans rfl
 refine zb (zbt w3 d.size hg) ?_;rintro _ w4 ⟨rfl,he4⟩;refine⟨(mkB (xy d.size f).1,(xy d.size f).2,()),rfl,?_⟩;have he4:=he3.trans he4;have stay:∀ {w':World},Ext w w'->Step w db Fd d w':=fun e=>⟨Fd,h.ext e,fun k hk=>.inl hk,Only.zG e⟩;refine zg (fun hq=>?_) (fun hq=>?_)
 ·have hq:=bne_iff_ne.1 hq;rw[if_pos hq];exact⟨rfl,stay he4⟩
 ·have hq:=bne_eq_false_iff_eq.1 hq;rw[if_neg (fun hh=>hh hq)];rw[wrap_i64 (by omega) (by omega)];refine zb (zaF (h.ext he4) (k:Int) (mkB (xy d.size f).1) hn) ?_;rintro _ w5 ⟨rfl,F',g1,g2,g3⟩;refine⟨_,rfl,rfl,F',g1,fun j hj=>?_,Only.trans (Only.zG he4) g3 (fun j hj=>.inl hj)⟩;rcases g2 j hj with e|e
  ·exact .inl e
  ·exact .inr (Nat.le_trans he4.size e)
variable {w w':World} {b db:Nat} {S:Spa} {F Fd:Nat->Prop} {x:SLC} {hb hr nb nr:Nat} {m:MkL}
theorem zjV (h:SpM w b db S F Fd x hb hr nb nr m) {r k:Nat} (hr1:Blk w r [.pointer (some ⟨b,0,none⟩)] 48) (hk:k<4294967296):
  Calls prog 72 ([Value.int .u32 (k:Int)]++(#[Value.pointer (some ⟨r,0,none⟩)]:Array Value).toList).toArray w (Ret fun v w'=>v=.bool (!S.asked k)/\w'=w):=by
 apply zoP;unfold S72;refine zo (x:=some ⟨b,0,none⟩) hr1 (by rfl) ?_;refine zb (vS h hk) ?_;rintro _ w1 ⟨rfl,rfl⟩;exact⟨_,rfl,rfl,rfl⟩
theorem zjW (h:SpM w b db S F Fd x hb hr nb nr m) {r k:Nat} (hr1:Blk w r [.pointer (some ⟨b,0,none⟩)] 48) (hk:k<4294967296):
  Calls prog 74 ([Value.int .u32 (k:Int)]++(#[Value.pointer (some ⟨r,0,none⟩)]:Array Value).toList).toArray w (Ret fun v w'=>v=.bool (decide (S.now.getD k 0=0))/\w'=w):=by
 apply zoR;unfold S74;obtain⟨t,hbx⟩:=h.box;refine zo (x:=some ⟨b,0,none⟩) hr1 (by rfl) (zp (jb (l:=.ptr) 8 (some ⟨nb,0,none⟩) hbx (by rfl) (by rfl) ?_));refine zb (vg h k hk) ?_;rintro _ w1 ⟨rfl,rfl⟩;refine⟨_,rfl,?_,rfl⟩;congr 1;rw[Bool.eq_iff_iff,beq_iff_eq,decide_eq_true_iff];omega
theorem zk0 {S:Spa} {l:List Nat}:l.any (fun k=>!S.asked k)=true↔∃ k∈l,S.asked k=false:=by simp
theorem any_zero {S:Spa} {l:List Nat}:l.any (fun k=>decide (S.now.getD k 0=0))=true↔∃ k∈l,S.now.getD k 0=0:=by simp
theorem Sli.only' {α:Type} {E:Enc α} {F:Nat->Prop} {w w':World} {A:Option Addr} {n:Nat} {xs:List α} (h:Sli E w A n xs) (k:Only F w w') (hr:0<n->∀ a,A=some a->¬F a.block):Sli E w' A n xs:=by
 rcases Nat.eq_zero_or_pos n with e|e
 ·subst e;have:=h.len;rw[eq_nil_of_length_eq_zero this];exact Sli.nil w' A
 ·exact h.only k (hr e)
theorem ziv (h:SpM w b db S F Fd x hb hr nb nr m) (h01:S.now.getD 0 0≠0/\S.now.getD 1 0≠0) (hgen:S.sup.gen+1<18446744073709551616) (hpen:S.dev.pen.length<=1000000)
  {A:Option Addr} {n c:Nat} (p:Page) (hs:Sli (zw .u32) w A n p.2.1) (hk32:∀ k∈p.2.1,k<4294967296) (hA:0<n->∀ a,A=some a->¬F a.block) (hds:p.2.2.size<=1000000000):
  Calls prog 24 #[.pointer (some ⟨b,0,none⟩),.agg (pgV p (A,n,c)).toArray] w (Ret fun v w'=>v=.tuple #[.int .u32 ((S.put p).2.1:Int),.int .i64 (S.put p).2.2]/\yI w b db F (S.put p).1 w'):=by
 have hdim:=h.dims;have hN:=hdim.n;have hsz:=hdim.size;have hroom:=hdim.room;have hFlt:=h.lt;have hl:=hs.len;have hle:=hs.le;apply zod;unfold S24;refine zs fun r1 w1 hb1 he1 hr1 hz1=>?_;refine zs fun r2 w2 hb2 he2 hr2 hz2=>?_;have hb1:=hb1.ext he2;have he:=he1.trans he2;have hb2:Blk w2 r2 (pgV p (A,n,c)) 56:=hb2;have hS:=h.ext he;have hs2:=hs.ext he;have hz:=he1.size;have stay:∀ {w':World},Ext w w'->yI w b db F S w':=fun e=>⟨F,⟨Fd,x,hb,hr,nb,nr,m,h.ext e⟩,fun k hk=>.inl hk,Only.zG e⟩;refine zo (x:=some ⟨b,0,none⟩) hb1 (by rfl) (zd (by rfl) ?_);have e1:∀ e:Int,S.jU p=e->e≠0->(fun v w'=>v=Value.tuple #[.int .u32 ((S.put p).2.1:Int),.int .i64 (S.put p).2.2]/\yI w b db F (S.put p).1 w')=fun v w'=>v=Value.tuple #[.int .u32 (0:Int),.int .i64 e]/\yI w b db F S w':=by
  intro e he0 hne;unfold Spa.put;rw[if_pos (by rw[he0];exact hne),he0];rfl
 refine yi (fun y w'=>y=(decide (p.1.toNat<3\/p.2.1.length>65535\/(∃ k∈p.2.1,S.asked k=false)),())/\w'=w2) ?_ (fun J hJ=>?_);rotate_left
 ·refine zC ((p.1.toNat:Nat):Int) hb2 (by rfl) ?_;refine zg (fun hq=>?_) (fun hq=>?_)
  ·have hq:=of_decide_eq_true hq;exact hJ _ _ ⟨by rw[decide_eq_true (.inl (by omega))],rfl⟩
  have hq:=of_decide_eq_false hq;refine zk (l:=.slc) 1 (A,n,c) hb2 (by rfl) (zg (fun hq2=>?_) (fun hq2=>?_))
  ·have hq2:=of_decide_eq_true hq2;exact hJ _ _ ⟨by rw[decide_eq_true (.inr (.inl (by dsimp only at hq2;omega)))],rfl⟩
  have hq2:=of_decide_eq_false hq2;refine zk (l:=.slc) 1 (A,n,c) hb2 (by rfl) ?_;refine zb (zcD (c:=c) (q:=fun k=>!S.asked k) hs2 (by kernel_rfl) (fun k hk=>zjV hS hb1 (hk32 k hk))) ?_;rintro _ w3 ⟨rfl,hw3⟩;refine⟨_,rfl,hJ _ _ ⟨?_,hw3⟩⟩;congr 1;rw[Bool.eq_iff_iff,decide_eq_true_iff,zk0];dsimp only at hq2;constructor
  ·intro hh;exact .inr (.inr hh)
  ·rintro(hh|hh|hh)
   ·omega
   ·omega
   ·exact hh
 rintro y w3 ⟨rfl,hw3⟩;rw[hw3];refine zg (fun hq=>?_) (fun hq=>?_)
 ·have hq:=of_decide_eq_true hq;have:=e1 2 (by unfold Spa.jU;rw[if_pos hq]) (by decide);rw[show(Value.tuple #[.int .u32 (0:Int),.int .i64 (2:Int)])=Value.tuple #[.int .u32 (0:Int),.int .i64 (2:Int)] from rfl];exact(congrFun (congrFun this _) _).mpr ⟨rfl,stay he⟩
 have hq1:=of_decide_eq_false hq;refine zk (l:=.slc) 1 (A,n,c) hb2 (by rfl) ?_;refine zb (zcD (c:=c) (q:=fun k=>decide (S.now.getD k 0=0)) hs2 (by kernel_rfl) (fun k hk=>zjW hS hb1 (hk32 k hk))) ?_;rintro _ w4 ⟨rfl,hw4⟩;refine⟨_,rfl,?_⟩;rw[hw4];refine zg (fun hq=>?_) (fun hq=>?_)
 ·have:=e1 8 (by unfold Spa.jU;rw[if_neg hq1,if_pos (any_zero.1 hq)]) (by decide);exact(congrFun (congrFun this _) _).mpr ⟨rfl,stay he⟩
 have hq2:¬ ∃ k∈p.2.1,S.now.getD k 0=0:=fun hh=>by rw[any_zero.2 hh]at hq;cases hq
 have hr0:S.room 0=S.sup.size-18:=by unfold Spa.room;rw[hroom,if_neg (by omega)];omega
 refine yi (fun y w'=>y=(decide ((p.2.1.length:Int)>S.room 0 / 4\/(p.2.2.size:Int)>S.room p.2.1.length),())/\Ext w2 w') ?_ (fun J hJ=>?_);rotate_left
 ·refine zK fun w5 he5 _ _=>?_;refine zk (l:=.slc) 1 (A,n,c) (hb2.ext he5) (by rfl) ?_;refine zo (x:=some ⟨b,0,none⟩) (hb1.ext he5) (by rfl) ?_;refine zb (jc (hS.ext he5) (k:=0) (by omega) (by omega)) ?_;rintro _ w6 ⟨rfl,he6⟩;have he56:=he5.trans he6;refine⟨_,rfl,zgA (hb2.ext he56) (by rfl) ?_⟩;rw[Int.tdiv_eq_ediv_of_nonneg (by omega),wrap_i64 (x:=S.room 0 / 4) (by omega) (by omega)];dsimp only;refine zg (fun hq=>?_) (fun hq=>?_)
  ·have hq:=of_decide_eq_true hq;exact hJ _ _ ⟨by rw[decide_eq_true (.inl (by omega))],he56⟩
  have hq:=of_decide_eq_false hq;refine zk 2 p.2.2 (hb2.ext he56) (by rfl) ?_;refine zo (x:=some ⟨b,0,none⟩) (hb1.ext he56) (by rfl) ?_;refine zk (l:=.slc) 1 (A,n,c) (hb2.ext he56) (by rfl) ?_;dsimp only;refine zb (jc (hS.ext he56) (k:=(n:Int)) (by omega) (by omega)) ?_;rintro _ w7 ⟨rfl,he7⟩;have he57:=he56.trans he7;refine⟨_,rfl,zgA (hb2.ext he57) (by rfl) ?_⟩;refine hJ _ _ ⟨?_,he57⟩;congr 1;rw[hl];exact decide_eq_decide.2 ⟨fun hh=>.inr hh,fun hh=>by rcases hh with hh|hh;omega;exact hh⟩
 rintro y w5 ⟨rfl,he25⟩;have he5:=he.trans he25;have hb1:=hb1.ext he25;have hb2:=hb2.ext he25;refine zg (fun hq=>?_) (fun hq=>?_)
 ·have hq:=of_decide_eq_true hq;have:=e1 3 (by unfold Spa.jU;rw[if_neg hq1,if_neg hq2,if_pos hq]) (by decide);exact(congrFun (congrFun this _) _).mpr ⟨rfl,stay he5⟩
 have hq3:=of_decide_eq_false hq;refine zK fun w6 he6 _ _=>?_;have hb1:=hb1.ext he6;have hb2:=hb2.ext he6;have he6:=he5.trans he6;obtain⟨t,hbx⟩:=(h.ext he6).box;refine zo (x:=some ⟨b,0,none⟩) hb1 (by rfl) ?_;refine zo (x:=some ⟨b,0,none⟩) hb1 (by rfl) (zp (jb (l:=.slc) 5 x hbx (by rfl) (by rfl) ?_));refine zb (zir (h.ext he6)) ?_;rintro _ w7 ⟨rfl,he7⟩;refine⟨_,rfl,?_⟩;have hb1:=hb1.ext he7;have hb2:=hb2.ext he7;have he7:=he6.trans he7;obtain⟨t,hbx⟩:=(h.ext he7).box;refine⟨fun l hl' q hq'=>?_,?_⟩
 ·simp only [mem_cons,not_mem_nil,or_false]at hl';rcases hl' with rfl|rfl<;>(simp only [mem_cons,not_mem_nil,or_false]at hq';subst hq')
  ·exact(hbx.cell 5).trans rfl
  ·exact(hb1.cell 0).trans rfl
 have hpl:=h.pgs.len;refine zg (fun hq=>?_) (fun hq=>?_)
 ·have hq:=of_decide_eq_true hq;have:=e1 9 (by unfold Spa.jU;rw[if_neg hq1,if_neg hq2,if_neg hq3,if_pos (by omega)]) (by decide);exact(congrFun (congrFun this _) _).mpr ⟨rfl,stay he7⟩
 have hq4:=of_decide_eq_false hq;have hE0:S.jU p=0:=by unfold Spa.jU;rw[if_neg hq1,if_neg hq2,if_neg hq3,if_neg (by omega)]
 refine zo (x:=some ⟨b,0,none⟩) hb1 (by rfl) ?_;refine zb (zis (h.ext he7) h01) ?_;rintro _ w8 ⟨rfl,hS8,hO8⟩;refine⟨((S.takeN:Int),S.yW,()),rfl,?_⟩;dsimp only;have hnF:∀ j,w.heap.size<=j->¬F j:=fun j hj hf=>by have:=hFlt j hf;omega
 have hb1:=hb1.only hO8 (hnF r1 (by omega));have hb2:=hb2.only hO8 (hnF r2 (by omega));have hr1lt:r1<w8.heap.size:=hb1.lt;have hr2lt:r2<w8.heap.size:=hb2.lt;have hs8:=(hs.ext he7).only' hO8 hA;have o8:Only F w w8:=Only.trans (Only.zG he7) hO8 (fun j hj=>.inl hj);refine zg (fun hq=>?_) (fun hq=>?_)
 ·have hq:=bne_iff_ne.1 hq;have e2:S.put p=(S,0,S.yW):=by unfold Spa.put;rw[if_neg (by rw[hE0];simp),if_pos hq]
  have e3:S.yX=S.now:=by
   unfold Spa.yW at hq;unfold Spa.yX;split at hq
   ·exact absurd rfl hq
   ·rename_i hh;rw[if_neg hh]
  rw[e2];rw[e3]at hS8;exact⟨rfl,F,⟨Fd,x,hb,hr,nb,nr,m,hS8⟩,fun k hk=>.inl hk,o8⟩
 have hT0:=bne_eq_false_iff_eq.1 hq;have hTN:S.takeN<S.N:=by
  unfold Spa.yW at hT0;unfold Spa.takeN;have:=h.ok.now;split at hT0
  ·rename_i hh;rw[if_pos hh];omega
  ·cases hT0
 have hkl:(p.2.1.length:Int)<=S.room 0 / 4:=by
  by_cases hh:S.room 0 / 4<p.2.1.length
  ·exact absurd (Or.inl hh) hq3
  ·omega
 refine zk (l:=.slc) 1 (A,n,c) hb2 (by rfl) ?_;dsimp only;rw[zz (by omega)];refine zb (xt (bs:=[]) (v:=n) (k:=2) (Own.nil 5 w8 w8.heap.size) (Nat.le_refl _) (by omega) (by omega) (by omega) (by omega)) ?_;rintro _ w9 ⟨⟨A1,n1,c1⟩,rfl,ho9,hg9⟩;refine⟨(A1,n1,c1),rfl,?_⟩;have hg9':Ext w8 w9:=(Ext.refl w8).grown hg9.grown (fun j hj=>by cases hj);have hb1:=hb1.ext hg9';have hb2:=hb2.ext hg9';refine zk (l:=.slc) 1 (A,n,c) hb2 (by rfl) ?_;dsimp only;have h8:w.heap.size<=w8.heap.size:=o8.2.2.2.1;have ez:(([]:List UInt8)++le 2 n)=le 2 p.2.1.length++yr (p.2.1.take 0):=by rw[hl];simp[yr]
 rw[ez]at ho9;refine zu (fun y w'=>∃ (i:Nat) (A2:Option Addr) (n2 c2:Nat),i<=n/\y=((A2,n2,c2),(i:Int),())/\Ext w8 w'/\Own 5 w' w8.heap.size A2 n2 c2 (bV (le 2 p.2.1.length++yr (p.2.1.take i)))) (fun y=>(n-y.2.1).toNat) ⟨0,A1,n1,c1,by omega,rfl,hg9',ho9⟩ ?_;rintro _ w10 ⟨i,A2,n2,c2,hi,rfl,he10,ho10⟩;dsimp only;have hn2:n2=2+4*i:=by
  have:=ho10.len;rw[yZ,length_append,zy,xx,length_take]at this;omega
 by_cases hlt:i<n
 ·refine zf (decide_eq_true (by omega)) ?_;refine zY (hs8.ext he10) (by omega) (by omega) ?_;rw[Int.toNat_natCast];have e:p.2.1[i]?=some (p.2.1.getD i 0):=by rw[getD_eq_getElem?_getD,List.getElem?_eq_getElem (by omega)];rfl
  have hk:=hk32 _ (mem_of_getElem? e);rw[zz (by omega)];refine zb (xt (v:=p.2.1.getD i 0) (k:=4) ho10 he10.size (by omega) (by omega) (by omega) (by omega)) ?_;rintro _ w11 ⟨⟨A3,n3,c3⟩,rfl,ho11,hg11⟩;refine⟨(A3,n3,c3),rfl,?_⟩;rw[append_assoc,<- zdw (by omega)]at ho11;refine⟨⟨i+1,A3,n3,c3,by omega,by rw[wrap_i64 (by omega) (by omega)];rfl,he10.grown hg11.grown (fun j hj=>ho10.row' j hj),ho11⟩,by rw[wrap_i64 (by omega) (by omega)];omega⟩
 obtain rfl:i=n:=by omega
 refine zd (decide_eq_false (by omega)) ?_;rw[take_of_length_le (by omega)]at ho10;refine zK fun w11 he11 _ _=>?_;have ho11:=ho10.ext he11;have he11:=he10.trans he11;have hb1:Blk w11 r1 _ _:=(Blk.at_ hb1 (show w11.heap[r1]?=w9.heap[r1]? by rw[he11.block r1 hr1lt,hg9'.block r1 hr1lt]));have hb2:Blk w11 r2 _ _:=(Blk.at_ hb2 (show w11.heap[r2]?=w9.heap[r2]? by rw[he11.block r2 hr2lt,hg9'.block r2 hr2lt]));obtain⟨t,hbx⟩:=(hS8.ext he11).box;refine zo (x:=some ⟨b,0,none⟩) hb1 (by rfl) (zp (zC (l:=.ptr) (some ⟨db,0,none⟩) hbx (by rfl) ?_));refine zC ((p.1.toNat:Nat):Int) hb2 (by rfl) ?_;refine zo (x:=some ⟨b,0,none⟩) hb1 (by rfl) (zp (jb 1 (S.sup.gen:Int) hbx (by rfl) (by rfl) ?_));refine zk 2 p.2.2 hb2 (by rfl) ?_;refine qa (e:=5) (by kernel_rfl) (by kernel_rfl) (by kernel_rfl) ho11.sl ?_;refine⟨fun l hl' q hq'=>?_,?_⟩
 ·simp only [mem_cons,not_mem_nil,or_false]at hl';rcases hl' with rfl|rfl|rfl|rfl|rfl|rfl<;>(simp only [mem_cons,not_mem_nil,or_false]at hq';subst hq')
  ·exact(hb2.cell 2).trans rfl
  ·exact(hbx.cell 1).trans rfl
  ·exact(hb1.cell 0).trans rfl
  ·exact(hb2.cell 0).trans rfl
  ·exact(hbx.cell 0).trans rfl
  ·exact(hb1.cell 0).trans rfl
 have hsz1:(mkB (le 2 p.2.1.length++yr p.2.1)).size=2+4*i:=by rw[xb,length_append,zy,xx];omega
 have hsz1':(⟨(le 2 p.2.1.length++yr p.2.1).toArray⟩:ByteArray).size=2+4*i:=hsz1;refine zE (by rw[hsz1'];show _<=(9223372036854775807:Int);omega) ?_;have ecat:(⟨(le 2 p.2.1.length++yr p.2.1).toArray⟩:ByteArray)++p.2.2=mkB (pgB p):=jy (by rw[zlF,qo,yV,pgB,append_assoc]);rw[ecat,show(S.sup.gen:Int)+1=((S.sup.gen+1:Nat):Int) by omega,zz (by omega)];refine zb (zcE (hS8.ext he11).dev S.takeN (by omega) (S.frame p) hgen hpen) ?_;rintro _ w12 ⟨rfl,hst⟩;refine⟨_,rfl,?_⟩;have hdim2:(ym S.dev S.takeN (S.frame p)).1.size=S.dev.size/\(ym S.dev S.takeN (S.frame p)).1.blocks=S.dev.blocks:=by
  unfold ym Dev.write;split
  ·exact⟨rfl,rfl⟩
  ·split
   ·exact⟨rfl,rfl⟩
   ·split<;>exact⟨rfl,rfl⟩
 obtain⟨F',Fd',hS12,hF12,hO12⟩:=(hS8.ext he11).zp2 hst hdim2;have o11:Only F w w11:=Only.trans o8 (Only.zG (F:=F) he11) (fun j hj=>.inl hj);have fin:yI w b db F { S with now:=S.yX,dev:=(ym S.dev S.takeN (S.frame p)).1 } w12:=by
  refine⟨F',⟨Fd',x,hb,hr,nb,nr,m,hS12⟩,fun k hk=>?_,Only.trans o11 hO12 (fun j hj=>.inl hj)⟩;rcases hF12 k hk with e|e
  ·exact .inl e
  ·exact .inr (Nat.le_trans o11.2.2.2.1 e)
 refine zg (fun hq=>?_) (fun hq=>?_)
 ·have hq:=bne_iff_ne.1 hq;have e2:S.put p=({ S with now:=S.yX,dev:=(ym S.dev S.takeN (S.frame p)).1 },0,(ym S.dev S.takeN (S.frame p)).2):=by
   unfold Spa.put;rw[if_neg (by rw[hE0];simp),if_neg (by rw[hT0];simp),if_pos hq]
  rw[e2];exact⟨rfl,fin⟩
 ·have hq:=bne_eq_false_iff_eq.1 hq;have e2:S.put p=({ S with now:=S.yX,dev:=(ym S.dev S.takeN (S.frame p)).1 },S.takeN,0):=by
   unfold Spa.put;rw[if_neg (by rw[hE0];simp),if_neg (by rw[hT0];simp),if_neg (by rw[hq];simp)]
  rw[e2];exact⟨rfl,fin⟩
theorem zbC (h:SpM w b db S F Fd x hb hr nb nr m) (h01:S.now.getD 0 0≠0/\S.now.getD 1 0≠0) (hgen:S.sup.gen+1<18446744073709551616) (hpen:S.dev.pen.length<=1000000)
  {A:Option Addr} {n c:Nat} (p:Page) (hs:Sli (zw .u32) w A n p.2.1) (hk32:∀ k∈p.2.1,k<4294967296) (hA:∀ a,A=some a->¬F a.block) (hds:p.2.2.size<=1000000000):
  Calls prog 24 #[.pointer (some ⟨b,0,none⟩),.agg (pgV p (A,n,c)).toArray] w (Ret fun v w'=>v=.tuple #[.int .u32 ((S.put p).2.1:Int),.int .i64 (S.put p).2.2]/\yI w b db F (S.put p).1 w'):=ziv h h01 hgen hpen p hs hk32 (fun _=>hA) hds
end V
end Go.Proofs.YtplgodmmmppmeaaGreat
