/- Texts of mine, merged (wip/tool/mergep.py): KWalk2, KWalk3, Good, Good2, Good3, Taken, KCommit, KOpen, Great, Great2, BlobP, Great3, TreeP, KTree1, KTree2, KAtS, KAt2, KMark, KGreat, KTree3, KTree4, KTree5, KBlob1, KTree6, KTree7, KTree8, KSchema, KSchema2. -/
import Derived.Test.YtpagephahcnijaaGreatM4
import Derived.Test.YtpagephahcnijaaGreatM3
import Derived.Test.YtpagephahcnijaaGreatM1
open Go.IntKind (wrap)
open Go.Proofs.Tryz (prog)
open List (mem_cons_self mem_cons_of_mem mem_cons length_cons map_map mem_append mem_append_left mem_append_right drop_drop mem_range mem_of_getElem? getElem_mem mem_iff_getElem map_cons mem_map append_assoc nodup_cons foldl_cons length_nil append_nil length_map nil_append length_set eq_nil_of_length_eq_zero range_succ map_congr_left length_append drop_of_length_le take_of_length_le getD_eq_getElem?_getD mem_singleton length_take drop_eq_getElem_cons length_drop take_succ_eq_append_getElem take_add_one not_mem_nil map_append take_left' length_replicate drop_left' flatMap_cons length_range getElem_range flatMap_append length_singleton count_cons count_eq_zero)
set_option linter.unusedVariables false
set_option linter.unusedSimpArgs false
namespace Go.Proofs.YtpagephahcnijaaGreat
/- Contracts of the package space:Walk,Audit. -/
namespace V
open Go Go.Proofs Go.RowKit Crc
variable {w w':World} {b db:Nat} {S:Spa} {F Fd:Nat->Prop} {x:SLC} {hb hr nb nr:Nat} {m:MkL}
theorem zkw:Elem prog 225 4 (.bool false) 1:=⟨by kernel_rfl,by kernel_rfl,by kernel_rfl⟩
theorem zlM:Elem prog 100 3 (.int .i64 0) 8:=⟨by kernel_rfl,by kernel_rfl,by kernel_rfl⟩
def zfa (b db:Nat) (S:Spa) (F Fd:Nat->Prop) (x:SLC) (hb hr nb nr:Nat) (m:MkL) (x0:SLC) (roots:List Nat):WP:=fun w=>SpM w b db S F Fd x hb hr nb nr m/\Sli (zw .u32) w x0.1 x0.2.1 roots
theorem zkx (h:SpM w b db S F Fd x hb hr nb nr m) {x0:SLC} {roots ys:List Nat} {re:Nat} {d:Nat} {s':List Bool} {e:Int} (hs:Sli (zw .u32) w x0.1 x0.2.1 roots) (h32:∀ k∈roots,k<4294967296)
  (hre:Blk w re [.int .i64 0] 34) {N0:Nat} (hN0:N0<=re) (hF0:∀ k,F k->k<N0) (hR0:∀ a,x0.1=some a->a.block<N0) (hv:Vis S.get d (List.replicate S.N false) roots ys s' e):
  Calls prog 97 #[.pointer (some ⟨b,0,none⟩),.slice x0.1 x0.2.1 x0.2.2,.pointer (some ⟨re,0,none⟩)] w (Ret fun v w'=>∃ (Q:Nat->Prop) (R0:WP),zg2 prog v (nums ys) (zfa b db S F Fd x hb hr nb nr m x0 roots) Q R0 (fun w=>Blk w re [.int .i64 e] 34) (fun _ _=>True)/\R0 w'/\(∀ w1 w2,R0 w1->Ext w1 w2->R0 w2)/\(∀ k,Q k->k<w'.heap.size)/\(∀ k,Q k->k=re\/w.heap.size<=k)/\Ext w w'):=by
 have hdim:=h.dims;have hN:=hdim.n;have hbl:=hdim.blocks;apply zqc;unfold S97;refine zp fun r1 w1 hb1 he1 hr1 hz1=>?_;refine zp fun r2 w2 hb2 he2 hr2 hz2=>?_;refine zp fun r3 w3 hb3 he3 hr3 hz3=>?_;have hb1:=(hb1.ext he2).ext he3;have hb2:=hb2.ext he3;have he:=(he1.trans he2).trans he3;obtain⟨t,hbx⟩:=(h.ext he).box;refine zn (x:=some ⟨b,0,none⟩) hb1 (by rfl) (zu (qd 3 S.sup.blocks hbx (by rfl) (by rfl) ?_));rw[hbl];refine vK (kl:=.i64) (kc:=.i64) (B:=w3.heap.size) (z:=.bool false) (bytes:=1) zkw (by rfl) (Nat.le_refl _) (by omega) (by omega) ?_;intro w4 ho4 hg4;have he4:Ext w3 w4:=(Ext.refl w3).grown hg4 (fun j hj=>by cases hj);have hrow:Blk w4 w3.heap.size (vr (List.replicate S.N false)) 4:=by
  have:=zbN ho4;have e:(List.replicate S.N (Value.bool false))=vr (List.replicate S.N false):=by simp[vr]
  rw[<- e];exact this
 refine zp fun r8 w5 hb8 he5 hr8 hz8=>?_;refine zX hb8 (by show 0<1;omega) ?_;have hb8':=hb8.set 0 (.slice (some ⟨w3.heap.size,0,none⟩) S.N S.N);have hlt4:=hrow.lt;have he6:Ext w4 (w5.setCell ⟨r8,0,none⟩ (.slice (some ⟨w3.heap.size,0,none⟩) S.N S.N)):=he5.set (by show w4.heap.size<=r8;omega) _;have hz6:(w5.setCell ⟨r8,0,none⟩ (.slice (some ⟨w3.heap.size,0,none⟩) S.N S.N)).heap.size=r8+1:=by simp[hz8]
 generalize w5.setCell ⟨r8,0,none⟩ (.slice (some ⟨w3.heap.size,0,none⟩) S.N S.N)=w6 at *;refine zp fun r9 w7 hb9 he7 hr9 hz9=>?_;have hz0:(zbC prog 226)=#[.nilFunc]:=by kernel_rfl
 rw[hz0]at hb9;refine zX hb9 (by show 0<1;omega) ?_;have hb9':=hb9.set 0 (.func (.func 139) #[] #[.pointer (some ⟨r1,0,none⟩),.pointer (some ⟨r3,0,none⟩),.pointer (some ⟨r8,0,none⟩),.pointer (some ⟨r9,0,none⟩)]);have he8:Ext w6 (w7.setCell ⟨r9,0,none⟩ (.func (.func 139) #[] #[.pointer (some ⟨r1,0,none⟩),.pointer (some ⟨r3,0,none⟩),.pointer (some ⟨r8,0,none⟩),.pointer (some ⟨r9,0,none⟩)])):=he7.set (by show w6.heap.size<=r9;omega) _;have hz8':(w7.setCell ⟨r9,0,none⟩ (.func (.func 139) #[] #[.pointer (some ⟨r1,0,none⟩),.pointer (some ⟨r3,0,none⟩),.pointer (some ⟨r8,0,none⟩),.pointer (some ⟨r9,0,none⟩)])).heap.size=r9+1:=by simp[hz9]
 generalize w7.setCell ⟨r9,0,none⟩ (.func (.func 139) #[] #[.pointer (some ⟨r1,0,none⟩),.pointer (some ⟨r3,0,none⟩),.pointer (some ⟨r8,0,none⟩),.pointer (some ⟨r9,0,none⟩)])=w8 at *;have he36:=he4.trans he6;have he38:=he36.trans he8;have he08:=he.trans he38;have hrelt:=hre.lt;have hs4:=he4.size;have hs1:=he1.size
 let g:=w3.heap.size
 have hg:g=w3.heap.size:=rfl;have hRf:Refs w8 b re r1 r2 r3 r8 r9 g x0 (List.replicate S.N false) 0:=by
  refine⟨hb1.ext he38,hb2.ext he38,hb3.ext he38,?_,⟨_,hb9'⟩,hrow.ext (he6.trans he8),hre.ext he08⟩;rw[length_replicate];exact hb8'.ext he8
 have hne:ze9 re r1 r2 r3 r8 r9 g:=⟨⟨by omega,by omega,by omega,by omega,by omega,by omega⟩,⟨by omega,by omega,by omega,by omega,by omega⟩⟩;have hQ:∀ k,QB re r1 r2 r3 r8 r9 g k->k=re\/w.heap.size<=k:=fun k hk=>by
  rcases hk with rfl|rfl|rfl|rfl|rfl|rfl|rfl
  ·right;omega
  ·right;omega
  ·right;omega
  ·right;omega
  ·right;omega
  ·right;omega
  ·left;rfl
 have hQl:∀ k,QB re r1 r2 r3 r8 r9 g k->k<w8.heap.size:=fun k hk=>by
  rcases hk with rfl|rfl|rfl|rfl|rfl|rfl|rfl<;>omega
 have hQ0:∀ k,QB re r1 r2 r3 r8 r9 g k->N0<=k:=fun k hk=>by
  rcases hQ k hk with e|e<;>omega
 refine⟨QB re r1 r2 r3 r8 r9 g,fun w=>Refs w b re r1 r2 r3 r8 r9 g x0 (List.replicate S.N false) 0,?_,hRf,fun w1 w2 h1 h2=>?_,hQl,hQ,he08⟩;rotate_left
 ·obtain⟨t9,h9⟩:=h1.b9;exact⟨h1.b1.ext h2,h1.b2.ext h2,h1.b3.ext h2,h1.b8.ext h2,⟨t9,h9.ext h2⟩,h1.row.ext h2,h1.err.ext h2⟩
 refine⟨_,_,rfl,by kernel_rfl,fun l J E wc hJ0 hQc hR0c hJR hJs hEs hY=>?_⟩;apply zm9;unfold S140;obtain⟨t9,h9⟩:=hR0c.b9;refine zn (l:=.any) (x:=.func (.func 139) #[] #[.pointer (some ⟨r1,0,none⟩),.pointer (some ⟨r3,0,none⟩),.pointer (some ⟨r8,0,none⟩),.pointer (some ⟨r9,0,none⟩)]) h9 (by rfl) ?_;refine zn (l:=.slc) (x:=x0) hR0c.b2 (by rfl) ?_;have hcall:=ziX (N0:=N0) (l:=l) (J:=J) (E:=E) (L:=ys) (R:=zfa b db S F Fd x hb hr nb nr m x0 roots) (x0:=x0) (b:=b) (re:=re) (r1:=r1) (r2:=r2) (r3:=r3) (r8:=r8) (r9:=r9) (g:=g)
  (fun w h=>h.1) (fun w' w'' h hO=>⟨h.1.only hO (fun j hj hg=>by have:=hF0 j hj;have:N0<=j:=hg;omega),h.2.only hO (fun a ha hg=>by have:=hR0 a ha;have:N0<=a.block:=hg;omega)⟩) hne hQ0 hJR hJs (fun V i w' h hJ hV=>hY V i w' h hJ hV (fun _ _=>trivial)) d hv (QB re r1 r2 r3 r8 r9 g) 0 wc x0.1 x0.2.1 x0.2.2 hJ0 (fun k hk=>hk) hQc hQ0 hR0c (by simp) (fun w' h _=>h.2) h32 (fun j hj=>by rw[Nat.zero_add]) (by have:=hQc re (.inr (.inr (.inr (.inr (.inr (.inr rfl))))));omega)
 refine xm (by kernel_rfl) (zb hcall ?_);rintro v9 w9 (⟨V2,p1,p2,p3,p4,p5,rfl,p6,p7⟩|⟨rfl,V2,p1⟩)
 ·refine⟨_,rfl,V2,.inl ⟨?_,p2,p7.err⟩⟩;rw[Nat.zero_add]at p6;have:(nums ys).length=ys.length:=by simp[nums]
  rw[this];exact p6
 ·exact⟨_,rfl,V2,.inr p1⟩
def vO (l:List Int) (n:Nat):List Int:=l.set n (l.getD n 0+1)
def vt (N:Nat) (ys:List Nat):List Int:=ys.foldl vO (List.replicate N 0)
def ub (l:List Int) (ps:List Nat):List Int:=ps.foldl (fun l p=>l.set p 1) l
def uC (N:Nat) (ps ys:List Nat):List Int:=ub (((vt N ys).set 0 1).set 1 1) ps
theorem kF (N:Nat) (ys:List Nat):(vt N ys).length=N:=by
 unfold vt;have:∀ (ys:List Nat) (l:List Int),(ys.foldl vO l).length=l.length:=by
  intro ys
  induction ys with
  |nil=>intro l;rfl
  |cons a r ih=>intro l;rw[foldl_cons,ih];simp[vO]
 rw[this];simp
theorem zlN {N:Nat} {ys:List Nat} {i k:Nat} (h:ys[i]?=some k):vt N (ys.take (i+1))=vO (vt N (ys.take i)) k:=by
 unfold vt;rw[take_add_one,h,List.foldl_append];rfl
theorem zc7 (l:List Int):jF.flat l=l.map fun n:Int=>(.int .i64 n:Value):=by
 induction l with
 |nil=>rfl
 |cons a r ih=>rw[map_cons,<- ih];rfl
theorem zn4 (l:List Int) (i:Nat) (v:Int):(jF.flat l).set i (.int .i64 v)=jF.flat (l.set i v):=by rw[zc7,zc7,List.map_set]
theorem zb0 {w:World} {e:TypeId} {B:Nat} {A:Option Addr} {n c:Nat} {xs:List Int} {i:Int} {v:Int} {K:WP} (h:Owni jF e w B A n c xs) (h0:0<=i) (h1:i<(n:Int))
  (hK:∀ w',Owni jF e w' B A n c (xs.set i.toNat v)->w.grownBy w' (orow A)->K w'):
  (zc (0<=i/\i<((n:Nat):Int))<|zh A fun p=>stW (p.add (Int.toNat i*1)) (.int .i64 v) K) w:=by
 refine zfG (e:=e) (B:=B) (c:=c) (vs:=jF.flat xs) h h0 h1 fun w' ho hg=>hK w' ?_ (by rw[xv]at hg;exact hg);rw[zn4]at ho;exact ho
theorem zky (N:Nat):∀ (ys:List Nat) (k:Nat),0<=(vt N ys).getD k 0/\(vt N ys).getD k 0<=ys.length:=by
 have:∀ (ys:List Nat) (l:List Int) (c:Nat),(∀ k,0<=l.getD k 0/\l.getD k 0<=c)->∀ k,0<=(ys.foldl vO l).getD k 0/\(ys.foldl vO l).getD k 0<=((c+ys.length:Nat):Int):=by
  intro ys
  induction ys with
  |nil=>intro l c h k;exact h k
  |cons a r ih=>
   intro l c h k;rw[foldl_cons,length_cons,show c+(r.length+1)=(c+1)+r.length by omega];refine ih (vO l a) (c+1) (fun k=>?_) k;unfold vO;have h1:=h k;have h2:=h a;rw[getD_eq_getElem?_getD,List.getElem?_set];rw[getD_eq_getElem?_getD]at h1 h2;split
   ·split
    ·rw[getD_eq_getElem?_getD];simp only [Option.getD_some];omega
    ·simp;omega
   ·omega
 intro ys k;have:=this ys (List.replicate N 0) 0 (fun k=>by
  rw[getD_eq_getElem?_getD,List.getElem?_replicate]
  split<;>simp) k
 rw[Nat.zero_add]at this;exact this
theorem zkz (h:SpM w b db S F Fd x hb hr nb nr m) {x0:SLC} {roots ys:List Nat} {d:Nat} {s':List Bool} {e:Int} (hs:Sli (zw .u32) w x0.1 x0.2.1 roots) (h32:∀ k∈roots,k<4294967296)
  (hrl:∀ a,x0.1=some a->a.block<w.heap.size) (hpg:∀ p∈S.sup.pages,p<S.N) (hyN:∀ y∈ys,y<S.N) (hyl:ys.length<=1000000000) (hv:Vis S.get d (List.replicate S.N false) roots ys s' e):
  Calls prog 47 #[.pointer (some ⟨b,0,none⟩),.slice x0.1 x0.2.1 x0.2.2] w (Ret fun v w'=>Ext w w'/\((e≠0/\v=.tuple #[.slice none 0 0,.int .i64 e])\/(e=0/\∃ A c,v=.tuple #[.slice A S.N c,.int .i64 0]/\Owni jF 3 w' w.heap.size A S.N c (uC S.N S.sup.pages ys)))):=by
 have hdim:=h.dims;have hN:=hdim.n;have hbl:=hdim.blocks;have hFlt:=h.lt;apply zpu;unfold S47;refine zd (by rfl) ?_;obtain⟨t,hbx⟩:=h.box;refine zu (qd 3 S.sup.blocks hbx (by rfl) (by rfl) ?_);rw[hbl];refine vK (kl:=.i64) (kc:=.i64) (B:=w.heap.size) (z:=.int .i64 0) (bytes:=8) zlM (by rfl) (Nat.le_refl _) (by omega) (by omega) ?_;intro w1 ho1 hg1;have he1:Ext w w1:=(Ext.refl w).grown hg1 (fun j hj=>by cases hj);have ho1:Owni jF 3 w1 w.heap.size (some ⟨w.heap.size,0,none⟩) S.N S.N (List.replicate S.N 0):=by
  have e:(List.replicate S.N (Value.int .i64 0))=jF.flat (List.replicate S.N 0):=by rw[zc7,List.map_replicate]
  rw[e]at ho1;exact ho1
 have hglt:=ho1.ye w.heap.size rfl;refine zp fun r4 w2 hb4 he2 hr4 hz4=>?_;refine zX hb4 (by show 0<1;omega) ?_;have hb4':=hb4.set 0 (.slice (some ⟨w.heap.size,0,none⟩) S.N S.N);have he3:Ext w1 (w2.setCell ⟨r4,0,none⟩ (.slice (some ⟨w.heap.size,0,none⟩) S.N S.N)):=he2.set (by show w1.heap.size<=r4;omega) _;have hz3:(w2.setCell ⟨r4,0,none⟩ (.slice (some ⟨w.heap.size,0,none⟩) S.N S.N)).heap.size=r4+1:=by simp[hz4]
 generalize w2.setCell ⟨r4,0,none⟩ (.slice (some ⟨w.heap.size,0,none⟩) S.N S.N)=w3 at *;refine zp fun r5 w4 hb5 he4 hr5 hz5=>?_;refine zX hb5 (by show 0<1;omega) ?_;have hb5':=hb5.set 0 (.int .i64 0);have he5:Ext w3 (w4.setCell ⟨r5,0,none⟩ (.int .i64 0)):=he4.set (by show w3.heap.size<=r5;omega) _;have hz5':(w4.setCell ⟨r5,0,none⟩ (.int .i64 0)).heap.size=r5+1:=by simp[hz5]
 generalize w4.setCell ⟨r5,0,none⟩ (.int .i64 0)=w5 at *;have he15:=he3.trans he5;have he05:=he1.trans he15;have hs1:=he1.size;refine zb (zkx (h.ext he05) (x0:=x0) (roots:=roots) (ys:=ys) (re:=r5) (hs.ext he05) h32 hb5' (N0:=w.heap.size) (by omega) hFlt hrl hv) ?_;rintro v w6 ⟨Q,R0,hit,hR0,hRx,hQl,hQ,he6⟩;refine⟨v,rfl,?_⟩;have he06:=he05.trans he6;have he16:=he15.trans he6;have h56:=he6.size;have hs16:=he16.size;have hb4'':=(hb4'.ext he5).ext he6;have ho6:=ho1.ext he16;refine zex (fun i=>(((ys.getD i 0:Nat):Int),())) ?_ (fun V i w'=>zfa b db S F Fd x hb hr nb nr m x0 roots w'/\Blk w' r4 [.slice (some ⟨w.heap.size,0,none⟩) S.N S.N] 100/\Owni jF 3 w' w.heap.size (some ⟨w.heap.size,0,none⟩) S.N S.N (vt S.N (ys.take i))/\Ext w w'/\(∀ k,V k->w.heap.size<=k/\k≠r4/\k≠w.heap.size)/\w6.heap.size<=w'.heap.size) (fun _ _ _=>False)
  hit hQl ?_ ?_ ?_ ?_ ?_ ?_ ?_ ?_ ?_ ?_
 ·intro i hi;have hi':i<ys.length:=by simpa [nums] using hi
  simp[nums,hi']
 ·rintro w' w'' hsb ⟨g1,g2⟩;have hlt:∀ k,k<w.heap.size->k≠w6.heap.size/\k≠w6.heap.size+1:=fun k hk=>by have:=he06.size;omega
  refine⟨g1.qi hsb (fun hf=>(hlt _ (hFlt _ hf)).1 rfl) (fun hf=>(hlt _ (hFlt _ hf)).2 rfl),g2.congr (fun a ha=>hsb.2.2.2.2 _ (hlt _ (hrl a ha)).1 (hlt _ (hrl a ha)).2)⟩
 ·intro w' w'' hsb hE;exact hsb.blk hE (by omega)
 ·intro V i w' hI;exact hI.1
 ·rintro V V' i w' w'' ⟨g1,g2,g3,g4,g5,g6⟩ hO hV hR;have hx:∀ k,k<w6.heap.size->¬V k->¬(V k\/k=w6.heap.size\/k=w6.heap.size+1):=fun k h1 h2 hh=>by
   rcases hh with hh|hh|hh
   ·exact h2 hh
   ·omega
   ·omega
  refine⟨hR,g2.only hO (hx r4 (by omega) (fun hh=>(g5 _ hh).2.1 rfl)),g3.only hO (fun j hj=>(show w.heap.size=j from Option.some.inj hj)▸hx w.heap.size (by omega) (fun hh=>(g5 _ hh).2.2 rfl)),?_,fun k hk=>?_,?_⟩
  ·refine Only.ext g4 hO (fun j hj=>?_);rcases hj with hj|rfl|rfl
   ·exact(g5 j hj).1
   ·omega
   ·omega
  ·rcases hV k hk with e|e
   ·exact g5 k e
   ·omega
  ·have:=hO.2.2.2.1;omega
 ·intro V V' c w' w'' hD;exact hD.elim
 ·intro o;have hx:Ext w6 ((w6.alloc (.deferred (some []))).alloc o):=((Ext.refl w6).alloc _).alloc _;refine⟨⟨(h.ext he06).ext hx,(hs.ext he06).ext hx⟩,hb4''.ext hx,ho6.ext hx,he06.trans hx,fun k hk=>?_,hx.size⟩;rcases hQ k hk with rfl|e
  ·omega
  ·omega
 ·intro o;exact hRx _ _ hR0 (((Ext.refl w6).alloc _).alloc _)
 ·rintro V i hi w' G N jump hI hsz hV _ hG;have hi':i<ys.length:=by simpa [nums] using hi
  have ei:ys[i]?=some (ys.getD i 0):=by rw[getD_eq_getElem?_getD,List.getElem?_eq_getElem hi'];rfl
  have hyi:=hyN _ (mem_of_getElem? ei);refine hG _ w' hI (Nat.le_refl _) (fun _ _=>rfl) ?_;rintro w2' ⟨g1,g2,g3,g4,g5,g6⟩ hs2 hk2 _ hN' hJ';refine zn (l:=.slc) (x:=((some ⟨w.heap.size,0,none⟩:Option Addr),S.N,S.N)) g2 (by rfl) ?_;dsimp only;refine zfI g3.sl (by omega) (by omega) ?_;have hcb:=zky S.N (ys.take i) (ys.getD i 0);have htl:(ys.take i).length<=1000000000:=by rw[length_take];omega
  refine zb0 (i:=((ys.getD i 0:Nat):Int)) g3 (by omega) (by omega) ?_;intro w3' ho3 hg3;rw[Int.toNat_natCast,wrap_i64 (by omega) (by omega)]at ho3;have hgo:∀ k,k≠w.heap.size->w3'.heap[k]?=w2'.heap[k]?\/True:=fun _ _=>.inr trivial;have ocl:Only (fun k=>k=w.heap.size) w2' w3':=Only.zV hg3 (fun j hj=>.inl (by injection hj with hj;exact hj.symm));have hR3:zfa b db S F Fd x hb hr nb nr m x0 roots w3':=⟨g1.1.only ocl (fun j hj e=>by have:=hFlt j hj;have:j=w.heap.size:=e;omega),g1.2.only ocl (fun a ha e=>by have:=hrl a ha;have:a.block=w.heap.size:=e;omega)⟩;have hs3:=hg3.size;refine hN' w3' hR3 ⟨hR3,g2.only ocl (by show ¬r4=w.heap.size;omega),?_,Only.ext g4 ocl (fun j hj=>by have:j=w.heap.size:=hj;omega),g5,by omega⟩ hs3 (fun k hk=>?_)
  ·rw[zlN ei];exact ho3
  ·have hlt:k<w2'.heap.size/\k≠w.heap.size:=by
    rcases hk with rfl|rfl|hk
    ·omega
    ·omega
    ·exact⟨by have:=(hV k hk).1;omega,(g5 k hk).2.2⟩
   exact ocl.2.2.2.2 k hlt.1 (fun e=>hlt.2 e)
 ·rintro V w' ⟨g1,g2,g3,g4,g5,g6⟩ hE hsz hdf;rw[qN];have hnl:(nums ys).length=ys.length:=by simp[nums]
  rw[hnl,List.take_length]at g3;refine zn (x:=e) hE (by rfl) ?_;have fin:∀ {w2:World} {K:WP},Ext w w2->w6.heap.size<=w2.heap.size->w2.heap[w6.heap.size]?=some (.deferred (some []))->(∀ w3,Ext w w3->yZ w6.heap.size (w6.heap.size+1) w2 w3->K w3)->zW prog (⟨.collected w6.heap.size,#[]⟩::[]) K w2:=by
   intro w2 K hx hs hdf hK;refine jn hdf (hK _ ?_ (yb (.inl rfl)));have hsb:=yb (a:=w6.heap.size) (b:=w6.heap.size+1) (w:=w2) (o:=.deferred none) (.inl rfl);exact hsb.ext hx he06.size
  refine zg (fun hq=>?_) (fun hq=>?_)
  ·have hq:=bne_iff_ne.1 hq;refine zN fun w2 he2 hs2 hk2=>?_;refine zn (x:=e) (hE.ext he2) (by rfl) ?_;refine fin (g4.trans he2) (by omega) (by rw[hk2];exact hdf) (fun w3 hx3 _=>?_);exact⟨hx3,.inl ⟨hq,rfl⟩⟩
  have hq:=bne_eq_false_iff_eq.1 hq;refine zN fun w2 he2 hs2 hk2=>?_;have g2':=g2.ext he2;have g3':=g3.ext he2;have g4':=g4.trans he2;refine zn (l:=.slc) (x:=((some ⟨w.heap.size,0,none⟩:Option Addr),S.N,S.N)) g2' (by rfl) ?_;refine zn (l:=.slc) (x:=((some ⟨w.heap.size,0,none⟩:Option Addr),S.N,S.N)) g2' (by rfl) ?_;dsimp only;refine zb0 (i:=0) g3' (by omega) (by omega) ?_;intro w7 ho7 hg7;have ocl:∀ {wa wb:World},wa.grownBy wb (orow (some ⟨w.heap.size,0,none⟩))->Only (fun k=>k=w.heap.size) wa wb:=fun hg=>Only.zV hg (fun j hj=>.inl (by injection hj with hj;exact hj.symm));have o7:=ocl hg7;have g27:=g2'.only o7 (by show ¬r4=w.heap.size;omega);refine⟨fun l hl p hp=>?_,?_⟩
  ·simp only [mem_singleton]at hl;subst hl;simp only [mem_singleton]at hp;subst hp;exact(g27.cell 0).trans rfl
  refine zb0 (i:=1) ho7 (by omega) (by omega) ?_;intro w8 ho8 hg8;have o8:=ocl hg8;have o28:Only (fun k=>k=w.heap.size) w2 w8:=Only.trans o7 o8 (fun j hj=>.inl hj);have hS8:=(g1.1.ext he2).only o28 (fun j hj e=>by have:=hFlt j hj;have:j=w.heap.size:=e;omega);obtain⟨t8,hbx8⟩:=hS8.box;refine zu (qd (l:=.slc) 5 x hbx8 (by rfl) (by rfl) ?_);have hpl:=h.pgs.len;have hple:=h.pgs.sl.le;have hsz2:w6.heap.size+2<=w2.heap.size:=by omega
  refine zy (fun y w'=>∃ i:Nat,i<=x.2.1/\y=((i:Int),())/\Only (fun k=>k=w.heap.size) w2 w'/\Owni jF 3 w' w.heap.size (some ⟨w.heap.size,0,none⟩) S.N S.N (ub (((vt S.N ys).set 0 1).set 1 1) (S.sup.pages.take i))) (fun y=>(x.2.1-y.1).toNat) ⟨0,by omega,rfl,o28,ho8⟩ ?_;rintro _ w9 ⟨i,hi,rfl,o9,ho9⟩;dsimp only;have hS9:=(g1.1.ext he2).only o9 (fun j hj e=>by have:=hFlt j hj;have:j=w.heap.size:=e;omega);have g29:=g2'.only o9 (by show ¬r4=w.heap.size;omega)
  by_cases hlt:i<x.2.1
  ·refine zf (decide_eq_true (by omega)) ?_;refine ya hS9.pgs.sl (by omega) (by omega) ?_;rw[Int.toNat_natCast];have ep:S.sup.pages[i]?=some (S.sup.pages.getD i 0):=by rw[getD_eq_getElem?_getD,List.getElem?_eq_getElem (by omega)];rfl
   have hp:=hpg _ (mem_of_getElem? ep);refine zn (l:=.slc) (x:=((some ⟨w.heap.size,0,none⟩:Option Addr),S.N,S.N)) g29 (by rfl) ?_;dsimp only;refine zb0 ho9 (by omega) (by omega) ?_;intro w10 ho10 hg10;rw[Int.toNat_natCast]at ho10;have e1:ub (((vt S.N ys).set 0 1).set 1 1) (S.sup.pages.take (i+1))=(ub (((vt S.N ys).set 0 1).set 1 1) (S.sup.pages.take i)).set (S.sup.pages.getD i 0) 1:=by
    unfold ub;rw[take_add_one,ep,List.foldl_append];rfl
   refine⟨⟨i+1,by omega,by rw[wrap_i64 (by omega) (by omega)];rfl,Only.trans o9 (ocl hg10) (fun j hj=>.inl hj),by rw[e1];exact ho10⟩,by rw[wrap_i64 (by omega) (by omega)];omega⟩
  ·obtain rfl:i=x.2.1:=by omega
   refine zd (decide_eq_false (by omega)) ?_;rw[take_of_length_le (by omega)]at ho9;refine zn (l:=.slc) (x:=((some ⟨w.heap.size,0,none⟩:Option Addr),S.N,S.N)) g29 (by rfl) ?_;refine fin (Only.ext g4' o9 (fun j hj=>by have:j=w.heap.size:=hj;omega)) (by have:=o9.2.2.2.1;omega) ?_ (fun w10 hx10 hsb=>?_)
   ·rw[o9.2.2.2.2 _ (by omega) (by omega),hk2];exact hdf
   ·refine⟨hx10,.inr ⟨hq,some ⟨w.heap.size,0,none⟩,S.N,rfl,?_⟩⟩;exact ho9.only (F:=fun k=>k=w6.heap.size\/k=w6.heap.size+1) ⟨hsb.1,hsb.2.1,hsb.2.2.1,Nat.le_of_eq hsb.2.2.2.1.symm,fun k _ hk=>hsb.2.2.2.2 k (fun e=>hk (.inl e)) (fun e=>hk (.inr e))⟩ (fun j hj e=>by have hj':w.heap.size=j:=Option.some.inj hj;have:=he06.size;have e:j=w6.heap.size\/j=w6.heap.size+1:=e;omega)
 ·intro V c w' hD;exact hD.elim
end V
/- Contracts of the package space:Audit. -/
namespace V
open Go Go.Proofs Go.RowKit Crc
variable {w w':World} {b db:Nat} {S:Spa} {F Fd:Nat->Prop} {x:SLC} {hb hr nb nr:Nat} {m:MkL}
theorem ziY {A A2:Option Addr} {n c n2 c2:Nat} {xs ys:List Int} (h:Sli jF w A n xs) (h2:Sli jF w A2 n2 ys):
  Calls prog 48 #[.slice A n c,.slice A2 n2 c2] w (Ret fun v w'=>v=.bool (decide (xs=ys))/\Ext w w'):=by
 apply zpv;unfold S48;have hl:=h.len;have hl2:=h2.len;have hle:=h.le;refine zg (fun hq=>?_) (fun hq=>?_)
 ·have hq:=bne_iff_ne.1 hq;refine⟨?_,Ext.refl w⟩;rw[decide_eq_false (fun e=>hq (by rw[<- hl,<- hl2,e]))]
 have hq:=bne_eq_false_iff_eq.1 hq;refine zy (fun y w'=>∃ i:Nat,i<=n/\y=((i:Int),())/\Ext w w'/\∀ k,k<i->xs[k]?=ys[k]?) (fun y=>(n-y.1).toNat) ⟨0,by omega,rfl,Ext.refl w,fun k hk=>by omega⟩ ?_;rintro _ w1 ⟨i,hi,rfl,he,hall⟩;dsimp only
 by_cases hlt:i<n
 ·refine zf (decide_eq_true (by omega)) ?_;refine zN fun w2 he2 _ _=>?_;have he:=he.trans he2;refine zfI (h.ext he) (by omega) (by omega) ?_;refine zfI (h2.ext he) (by omega) (by omega) ?_;rw[Int.toNat_natCast];have e1:xs[i]?=some (xs.getD i 0):=by rw[getD_eq_getElem?_getD,List.getElem?_eq_getElem (by omega)];rfl
  have e2:ys[i]?=some (ys.getD i 0):=by rw[getD_eq_getElem?_getD,List.getElem?_eq_getElem (by omega)];rfl
  refine zg (fun hz=>?_) (fun hz=>?_)
  ·have hz:=bne_iff_ne.1 hz;refine⟨?_,he⟩;rw[decide_eq_false (fun e=>hz (by rw[e]))]
  ·have hz:=bne_eq_false_iff_eq.1 hz;refine⟨⟨i+1,by omega,by rw[wrap_i64 (by omega) (by omega)];rfl,he,fun k hk=>?_⟩,by rw[wrap_i64 (by omega) (by omega)];omega⟩
   by_cases hki:k=i
   ·subst hki;rw[e1,e2,hz]
   ·exact hall k (by omega)
 ·obtain rfl:i=n:=by omega
  refine zd (decide_eq_false (by omega)) ⟨?_,he⟩;rw[decide_eq_true];apply List.ext_getElem?;intro k
  by_cases hk:k<i
  ·exact hall k hk
  ·rw[List.getElem?_eq_none (by omega),List.getElem?_eq_none (by omega)]
theorem ziZ (h:SpM w b db S F Fd x hb hr nb nr m) {x0:SLC} {roots ys:List Nat} {d:Nat} {s':List Bool} {e:Int} (hs:Sli (zw .u32) w x0.1 x0.2.1 roots) (h32:∀ k∈roots,k<4294967296)
  (hrl:∀ a,x0.1=some a->a.block<w.heap.size) (hpg:∀ p∈S.sup.pages,p<S.N) (hyN:∀ y∈ys,y<S.N) (hyl:ys.length<=1000000000) (hv:Vis S.get d (List.replicate S.N false) roots ys s' e):
  Calls prog 20 #[.pointer (some ⟨b,0,none⟩),.slice x0.1 x0.2.1 x0.2.2] w (Ret fun v w'=>v=.int .i64 (if e≠0 then e else if uC S.N S.sup.pages ys=zan S.now then 0 else 8)/\Ext w w'):=by
 apply zo6;unfold S20;refine zb (zkz h hs h32 hrl hpg hyN hyl hv) ?_;rintro _ w1 ⟨he1,⟨hne,rfl⟩|⟨rfl,A,c,rfl,ho⟩⟩
 ·refine⟨((none,0,0),e,()),rfl,zf (bne_iff_ne.2 hne) ?_⟩;rw[if_pos hne];exact⟨rfl,he1⟩
 refine⟨((A,S.N,c),0,()),rfl,zd (by rfl) ?_⟩;rw[if_neg (by simp)];have hS:=h.ext he1;obtain⟨t,hbx⟩:=hS.box;refine zu (qd (l:=.ptr) 8 (some ⟨nb,0,none⟩) hbx (by rfl) (by rfl) ?_);obtain⟨q,hc⟩:=hS.nowC;refine zb (zlz hc) ?_;rintro _ w2 ⟨y,rfl,ho2,he2⟩;refine⟨y,rfl,?_⟩;refine zb (ziY (c:=c) (c2:=y.2.2) (ho.sl.ext he2) ho2.sl) ?_;rintro _ w3 ⟨rfl,he3⟩;refine⟨_,rfl,?_⟩;have he:=(he1.trans he2).trans he3;refine zg (fun hz=>?_) (fun hz=>?_)
 ·rw[if_neg (by intro e;rw[decide_eq_true e]at hz;cases hz)];exact⟨rfl,he⟩
 ·rw[if_pos (by
   by_cases e:uC S.N S.sup.pages ys=zan S.now
   ·exact e
   ·rw[decide_eq_false e]at hz;cases hz)]
  exact⟨rfl,he⟩
end V
/- Spaces that are well:what Put,Get,Drop,Audit come to. -/
namespace V
open Go Go.Proofs Go.RowKit Crc
structure Good (S:Spa) (R:List Nat):Prop where
 ok:S.Ok
 dev:S.dev.Ok
 fuse:S.dev.fuse=-1
 gen:S.sup.gen<1000000000000
 well:yg S.N S.sup.pages S.page S.now R
theorem Good.dims {S:Spa} {R:List Nat} (h:Good S R):zao S:=by
 have hg:=h.dev.geo;rw[<- h.ok.size,<- h.ok.blocks]at hg;obtain⟨g1,g2,g3,g4,g5⟩:=qk hg;have:S.sup.blocks=(S.N:Int):=by unfold Spa.N;omega
 exact⟨hg,g1,⟨g2,g3⟩,this,by omega⟩
theorem Good.h01 {S:Spa} {R:List Nat} (h:Good S R):S.now.getD 0 0≠0/\S.now.getD 1 0≠0:=by
 have:=h.well.head;omega
theorem Good.perm {S:Spa} {R R':List Nat} (h:Good S R) (hp:R.Perm R'):Good S R':=⟨h.ok,h.dev,h.fuse,h.gen,h.well.perm hp⟩
theorem qp {S:Spa} {R:List Nat} (h:Good S R) {n:Nat} (hn:zE S.sup.pages S.now n=true):S.asked n=true/\S.now.getD n 0≠0/\n<S.N:=by
 obtain⟨h1,h2,h3⟩:=zC.1 hn;have:=h.well.lt hn;exact⟨vd.2 ⟨h1,this,h2⟩,by omega,this⟩
theorem Good.get {S:Spa} {R:List Nat} (h:Good S R) {n:Nat} (hn:zE S.sup.pages S.now n=true):S.get n=S.page n/\(S.page n).2=0:=by
 obtain⟨h1,h2,h3⟩:=qp h hn;refine⟨?_,(h.well.good n hn).1⟩;unfold Spa.get;rw[if_neg (by rw[h1];simp),if_neg h2]
theorem qb {d:Dev} (h:d.Ok) {k j:Int} {s:ByteArray} (hk:0<=k/\k<d.blocks) (hs:(s.size:Int)=d.size) (hf:d.fuse≠0) (hj:0<=j/\j<d.blocks):
  (d.write k s).2=0/\((d.write k s).1.read j).1=if j=k then s else (d.read j).1:=by
 unfold Dev.write;rw[if_neg (by rintro(e|e);exact e hk;exact e hs),if_neg hf];refine⟨rfl,?_⟩;unfold Dev.read;dsimp only;rw[if_neg (show ¬ ¬(0<=j/\j<d.burnt.blocks) from fun e=>e hj),if_neg (show ¬ ¬(0<=j/\j<d.blocks) from fun e=>e hj)];dsimp only;rw[List.foldl_append];show((List.foldl Go.Proofs.YtpagephahcnijaaGreat.V.put d.dur d.pen).set k.toNat s).getD j.toNat ByteArray.empty=_;rw[getD_set];have hl:=zag d.pen d.dur;have hlen:=h.len
 by_cases e:j=k
 ·subst e;rw[if_pos ⟨rfl,by rw[hl];omega⟩,if_pos rfl]
 ·rw[if_neg (fun e'=>e (by omega)),if_neg e]
theorem vP {d:Dev} (h:d.Ok) {k:Int} {s:ByteArray} (hk:0<=k/\k<d.blocks) (hs:(s.size:Int)=d.size) (hf:d.fuse=-1):(d.write k s).1.Ok/\(d.write k s).1.fuse=-1/\(d.write k s).1.pen.length=d.pen.length+1:=by
 unfold Dev.write;rw[if_neg (by rintro(e|e);exact e hk;exact e hs),if_neg (by omega)];have hb:=h.burnt;refine⟨⟨h.geo,h.len,h.each,fun p hp=>?_,hb.fuse⟩,?_,by simp⟩
 ·rcases mem_append.1 hp with hp|hp
  ·exact h.pend p hp
  ·rw[mem_singleton.1 hp];exact⟨hk.1,hk.2,hs⟩
 ·show max (-1) (d.fuse-1)=-1;rw[hf];decide
theorem zgo (S:Spa):∀ n,(∀ j,j<n->¬((decide (2<=j)&&S.yG j)=true))->jv S n=[]
 |0,_=>rfl
 |n+1,h=>by
  rw[qQ,if_neg (h n (by omega)),zgo S n (fun j hj=>h j (by omega))]
theorem uj {S:Spa} {n:Nat}:n∈S.yk↔n<S.N/\2<=n/\S.yG n=true:=by
 unfold Spa.yk;rw[List.mem_filter,mem_range,Bool.and_eq_true,decide_eq_true_iff]
theorem zkA {S:Spa} {R:List Nat} (h:Good S R) (hf:0<S.zY):S.zK<S.N/\2<=S.zK/\S.yG S.zK=true/\(∀ j,j<S.zK->S.yG j=false)/\S.zK∉S.sup.pages:=by
 have hnow:=h.ok.now;obtain⟨n,hn⟩:∃ n,n∈S.yk:=by
  unfold Spa.zY at hf;cases hq:S.yk with
  |nil=>rw[hq]at hf;simp at hf
  |cons a r=>exact⟨a,mem_cons_self⟩
 obtain⟨h1,h2,h3⟩:=uj.1 hn;have hlt:S.zK<(List.range S.now.length).length:=List.findIdx_lt_length_of_exists ⟨n,mem_range.2 (by omega),h3⟩;rw[length_range]at hlt;have hfr:S.yG S.zK=true:=by
  have:=List.findIdx_getElem (p:=S.yG) (xs:=List.range S.now.length) (w:=by rw[length_range];exact hlt);rw[getElem_range]at this;exact this
 obtain⟨f1,f2,f3⟩:=zU.1 hfr;have hhd:=h.well.head;refine⟨by omega,?_,hfr,fun j hj=>?_,fun hp=>?_⟩
 ·rcases Nat.lt_or_ge S.zK 2 with hh|hh
  ·have:S.zK=0\/S.zK=1:=by omega
   rcases this with e|e<;>rw[e]at f1<;>omega
  ·exact hh
 ·have:=List.not_of_lt_findIdx (p:=S.yG) (xs:=List.range S.now.length) (i:=j) hj;rw[getElem_range]at this
  simpa using this
 ·have:=(h.well.pgs _ hp).2.2;omega
structure kg (S S':Spa) (p:Page) (n:Nat):Prop where
 two:2<=n
 lt:n<S.N
 pgs:n∉S.sup.pages
 free:S.yG n=true
 now:S'.now=S.now.set n 1
 sup:S'.sup=S.sup
 held:S'.held=S.held
 mark:S'.mark=S.mark
 slot:S'.slot=S.slot
 page:S'.page n=(p,0)
 other:∀ k,k≠n->k<S.N->S'.page k=S.page k
 pen:S'.dev.pen.length=S.dev.pen.length+1
 yk:S.yk=n::S'.yk
 read:∀ k:Int,0<=k->k<S.N->k≠n->(S'.dev.read k).1=(S.dev.read k).1
 dim:S'.dev.size=S.dev.size/\S'.dev.blocks=S.dev.blocks
theorem zkB {S S':Spa} {n:Nat} (hn:n<S.N) (h2:2<=n) (hf:S.yG n=true) (hno:∀ j,j<n->S.yG j=false) (hN:S'.N=S.N) (hf':∀ j,j<S.N->S'.yG j=if j=n then false else S.yG j):S.yk=n::S'.yk:=by
 have key:∀ k,k<=S.N->jv S k=if n<k then n::jv S' k else jv S' k:=by
  intro k
  induction k with
  |zero=>intro _;rw[if_neg (by omega)];rfl
  |succ k ih=>
   intro hk;have ih:=ih (by omega);rw[qQ,qQ,hf' k (by omega)]
   by_cases hkn:k=n
   ·subst hkn;have hA:(decide (2<=k)&&S.yG k)=true:=by rw[hf,decide_eq_true h2];rfl
    have e1:jv S k=[]:=zgo S k (fun j hj hh=>by rw[hno j hj]at hh;simp at hh);rw[if_neg (by omega)]at ih;rw[if_pos hA,if_pos (Nat.lt_succ_self k),if_pos rfl,Bool.and_false,if_neg (by simp),<- ih,e1];rfl
   ·rw[if_neg hkn]
    by_cases hlt:n<k
    ·rw[if_pos hlt]at ih;rw[if_pos (by omega:n<k+1),ih];split<;>simp
    ·rw[if_neg hlt]at ih;rw[if_neg (by omega:¬n<k+1),ih]
 have h1:=key S.N (Nat.le_refl _);rw[if_pos hn]at h1;have e2:jv S' S.N=S'.yk:=by unfold jv Spa.yk;rw[hN]
 rw[e2]at h1;exact h1
theorem zey {S:Spa} {R:List Nat} {p:Page} (h:Good S (p.2.1++R)) (ht:3<=p.1.toNat) (hk:(p.2.1.length:Int)<=S.room 0 / 4) (hd:(p.2.2.size:Int)<=S.room p.2.1.length) (hfree:S.sup.pages.length<S.zY):
  (S.put p).2.2=0/\kg S (S.put p).1 p (S.put p).2.1/\Good (S.put p).1 ((S.put p).2.1::R):=by
 have hdim:=h.dims;have hN:=hdim.n;have hsz:=hdim.size;have hroom:=hdim.room;have hr0:S.room 0=S.sup.size-18:=by unfold Spa.room;rw[hroom,if_neg (by omega)];omega
 have hrk:S.room p.2.1.length=S.sup.size-18-4*p.2.1.length:=by unfold Spa.room;rw[hroom,if_neg (by omega)];omega
 obtain⟨t1,t2,t3,t4,t5⟩:=zkA h (by omega);obtain⟨f1,f2,f3⟩:=zU.1 t3;have hnow:=h.ok.now;have eN:S.takeN=S.zK:=by unfold Spa.takeN;rw[if_pos (by omega)]
 have eE:S.xf=0:=by unfold Spa.xf;rw[if_pos (by omega)]
 have eL:S.xg=S.now.set S.zK 1:=by unfold Spa.xg;rw[if_pos (by omega)]
 have hku:∀ k∈p.2.1,zE S.sup.pages S.now k=true:=fun k hk=>h.well.root k (mem_append_left _ hk);have hE0:S.jQ p=0:=by
  unfold Spa.jQ;rw[if_neg,if_neg,if_neg,if_neg]
  ·omega
  ·rintro(e|e)<;>omega
  ·rintro⟨k,hk,e⟩;exact(qp h (hku k hk)).2.1 e
  ·rintro(e|e|⟨k,hk,e⟩)
   ·omega
   ·omega
   ·rw[(qp h (hku k hk)).1]at e;cases e
 have hpl:(pgB p).length=2+(4*p.2.1.length+p.2.2.size):=by simp[pgB,zA,xD,yu]
 have hdz:=h.ok.size;have hdb:=h.ok.blocks;have hbl:=hdim.blocks;obtain⟨z,hz⟩:∃ z:Nat,S.sup.size=(z:Int):=⟨S.sup.size.toNat,by omega⟩;have hfit:(pgB p).length+16<=z:=by omega
 have hBp:(B (mkB (pgB p))).length=(pgB p).length:=by rw[xC]
 have hputR:xG S.dev.size (S.frame p)=(yQ z (S.frame p),0):=by
  unfold xG;rw[<- hdz,if_neg (by rw[hroom];omega)];rw[if_neg (by show ¬(((B (mkB (pgB p))).length:Int)>_);rw[hBp,hroom];omega),hz];rfl
 have hbl2:(yQ z (S.frame p)).length=z:=kB (by show(B (mkB (pgB p))).length+16<=z;rw[hBp];exact hfit);have hws:(((mkB (yQ z (S.frame p))).size:Nat):Int)=S.dev.size:=by rw[xF,hbl2,<- hz,hdz]
 have hwf:yz S.dev S.zK (S.frame p)=S.dev.write S.zK (mkB (yQ z (S.frame p))):=by
  unfold yz;rw[hputR,if_neg (by simp)]
 have hk2:0<=(S.zK:Int)/\(S.zK:Int)<S.dev.blocks:=by omega
 have hfz:=h.fuse;obtain⟨q1,q2,q3⟩:=vP h.dev hk2 hws hfz;have hwe:(S.dev.write S.zK (mkB (yQ z (S.frame p)))).2=0:=(qb h.dev hk2 hws (by omega) hk2).1;have eput:S.put p=({ S with now:=S.now.set S.zK 1,dev:=(S.dev.write S.zK (mkB (yQ z (S.frame p)))).1 },S.zK,0):=by
  unfold Spa.put;rw[if_neg (by rw[hE0];simp),if_neg (by rw[eE];simp),eN,eL,hwf,if_neg (by rw[hwe];simp)]
 rw[eput];dsimp only;have hpg:∀ k,k<S.N->Spa.page { S with now:=S.now.set S.zK 1,dev:=(S.dev.write S.zK (mkB (yQ z (S.frame p)))).1 } k=if k=S.zK then (p,0) else S.page k:=by
  intro k hkN;unfold Spa.page;dsimp only;have hrw:=(qb h.dev hk2 hws (by omega) (j:=(k:Int)) (by omega)).2;show xX S.N (B ((S.dev.write S.zK (mkB (yQ z (S.frame p)))).1.read k).1)=_;rw[hrw]
  by_cases e:k=S.zK
  ·subst e;rw[if_pos rfl,if_pos rfl,xC];have hg:=h.gen;refine zki (by rw[<- hz];exact hroom) (by omega) (by omega) hfit (by omega) ht (fun n hn=>?_) hN.2;obtain⟨a1,a2,a3⟩:=zC.1 (hku n hn);exact⟨a1,h.well.lt (hku n hn)⟩
  ·rw[if_neg (by omega),if_neg e]
 have hdim2:=jT S.dev S.zK (mkB (yQ z (S.frame p)));have hwell:yg S.N S.sup.pages (Spa.page { S with now:=S.now.set S.zK 1,dev:=(S.dev.write S.zK (mkB (yQ z (S.frame p)))).1 }) (S.now.set S.zK 1) (S.zK::R):=by
  refine yg.put (ks:=p.2.1) h.well t2 t1 t5 f1 ?_ ?_ (fun k hk hkN=>?_)
  ·rw[hpg _ t1,if_pos rfl]
  ·unfold zR;rw[hpg _ t1,if_pos rfl]
  ·rw[hpg k hkN,if_neg hk]
 refine⟨rfl,⟨t2,t1,t5,t3,rfl,rfl,rfl,rfl,rfl,by rw[hpg _ t1,if_pos rfl],fun k hk hkN=>by rw[hpg k hkN,if_neg hk],q3,?_,fun k h0 hkN hne=>by
  show((S.dev.write S.zK (mkB (yQ z (S.frame p)))).1.read k).1=_
  rw[(qb h.dev hk2 hws (by omega) (j:=k) (by omega)).2,if_neg hne],⟨hdim2.1,hdim2.2.1⟩⟩,⟨⟨?_,?_,h.ok.fits,h.ok.held,?_,h.ok.mark⟩,q1,q2,h.gen,hwell⟩⟩
 ·refine zkB t1 t2 t3 t4 rfl (fun j hj=>?_);rw[Bool.eq_iff_iff,zU];dsimp only;rw[yn]
  by_cases e:j=S.zK
  ·subst e;rw[if_pos ⟨rfl,by omega⟩,if_pos rfl];simp
  ·rw[if_neg (fun e'=>e e'.1.symm),if_neg e,zU]
 ·exact hdz.trans hdim2.1.symm
 ·exact hdb.trans hdim2.2.1.symm
 ·show(S.now.set S.zK 1).length=_;rw[length_set];exact hnow
end V
/- Spaces that are well:Share,Drop,Audit. -/
namespace V
open Go Go.Proofs Go.RowKit Crc
theorem Good.kD {S:Spa} {R R':List Nat} {c:List Nat} (h:Good S R) (hl:c.length=S.now.length) (hw:yg S.N S.sup.pages S.page c R'):Good { S with now:=c } R':=
 ⟨⟨h.ok.size,h.ok.blocks,h.ok.fits,h.ok.held,hl.trans h.ok.now,h.ok.mark⟩,h.dev,h.fuse,h.gen,hw⟩
theorem zkC {S:Spa} {R:List Nat} {n:Nat} (h:Good S R) (hn:zE S.sup.pages S.now n=true) (h6:S.now.getD n 0<65535):(S.share n).2=0/\Good (S.share n).1 (n::R)/\(S.share n).1={ S with now:=S.now.set n (S.now.getD n 0+1) }:=by
 obtain⟨h1,h2,h3⟩:=qp h hn;have ha:=zbY h.well hn;have e1:zal S.now n=0:=by unfold zal;rw[if_pos ha,if_neg (by omega)]
 have e2:zam S.now n=S.now.set n (S.now.getD n 0+1):=by unfold zam;rw[if_pos e1]
 unfold Spa.share;rw[if_neg (by rw[h1];simp),e1,e2];exact⟨rfl,h.kD (by simp) (h.well.share hn),rfl⟩
theorem zlO {S:Spa} {R:List Nat} {n:Nat} (h:Good S (n::R)):∃ c',Drp S.asked S.page S.now [n] c' 0/\Good { S with now:=c' } R/\c'.length=S.now.length/\∀ k,c'.getD k 0<=S.now.getD k 0:=by
 obtain⟨c',h1,h2,h3,h4⟩:=yg.drop (N:=S.N) (ps:=S.sup.pages) (pg:=S.page) (ask:=S.asked) (fun n a1 a2 a3=>vd.2 ⟨a1,a2,a3⟩) S.now.sum [n] (Nat.le_refl _) (R:=R) h.well;exact⟨c',h1,h.kD h3 h2,h3,h4⟩
def jU (N:Nat) (s s':List Bool) (pg:PgF) (x m:Nat):Nat:=if s'.getD m false=true/\s.getD m false=false then (zR pg m).count x else 0
theorem zgp (l:List Bool) (i k:Nat) (x:Bool):(l.set i x).getD k false=if i=k/\k<l.length then x else l.getD k false:=by
 rw[getD_eq_getElem?_getD,getD_eq_getElem?_getD,List.getElem?_set]
 by_cases hik:i=k
 ·subst hik
  by_cases hk:i<l.length
  ·simp[hk]
  ·simp[hk]
 ·rw[if_neg hik,if_neg (fun h=>hik h.1)]
theorem sum_add {f g:Nat->Nat}:∀ N,((List.range N).map fun m=>f m+g m).sum=((List.range N).map f).sum+((List.range N).map g).sum
 |0=>rfl
 |N+1=>by
  have:=sum_add (f:=f) (g:=g) N;simp only [range_succ,map_append,map_cons,List.map_nil,List.sum_append,List.sum_cons,List.sum_nil];omega
theorem qw {f g:Nat->Nat} {N:Nat} (h:∀ m,m<N->f m=g m):((List.range N).map f).sum=((List.range N).map g).sum:=by
 congr 1;exact map_congr_left (fun m hm=>h m (mem_range.1 hm))
theorem qx:∀ N:Nat,((List.range N).map fun _=>0).sum=0
 |0=>rfl
 |N+1=>by
  rw[range_succ,map_append,List.sum_append,qx N];rfl
structure zrv (N:Nat) (U:Nat->Bool) (pg:PgF) (s:List Bool) (l ys:List Nat) (s':List Bool):Prop where
 cnt:∀ x,ys.count x=l.count x+((List.range N).map (jU N s s' pg x)).sum
 sub:∀ m,s.getD m false=true->s'.getD m false=true
 all:∀ k∈l,s'.getD k false=true
 new:∀ m,s'.getD m false=true->s.getD m false=true\/(U m=true/\∀ k∈zR pg m,s'.getD k false=true)
 use:∀ y∈ys,U y=true
theorem zq9 {N:Nat} {get pg:PgF} {U:Nat->Bool} {r:Nat->Nat} (hU:∀ n,U n=true->2<=n/\n<N/\get n=pg n/\(pg n).2=0/\∀ k∈zR pg n,U k=true/\r k<r n):
  ∀ (d:Nat) (l:List Nat) (s:List Bool),s.length=N->(∀ k∈l,U k=true/\r k<d)->∃ ys s',Vis get d s l ys s' 0/\zrv N U pg s l ys s':=by
 intro d
 induction d with
 |zero=>
  intro l s hs hl;cases l with
  |nil=>exact⟨[],s,.nil 0 s,⟨fun x=>by rw[List.count_nil,Nat.zero_add];exact(by rw[qw (g:=fun _=>0) (fun m _=>by unfold jU;rw[if_neg (by rintro⟨a,c⟩;rw[a]at c;cases c)]),qx]),fun m h=>h,by simp,fun m h=>.inl h,by simp⟩⟩
  |cons a t=>have:=(hl a mem_cons_self).2;omega
 |succ d ihd=>
  intro l
  induction l with
  |nil=>
   intro s hs hl;exact⟨[],s,.nil _ s,⟨fun x=>by rw[List.count_nil,Nat.zero_add];exact(by rw[qw (g:=fun _=>0) (fun m _=>by unfold jU;rw[if_neg (by rintro⟨a,c⟩;rw[a]at c;cases c)]),qx]),fun m h=>h,by simp,fun m h=>.inl h,by simp⟩⟩
  |cons a t iht=>
   intro s hs hl;obtain⟨hUa,hra⟩:=hl a mem_cons_self;obtain⟨u1,u2,u3,u4,u5⟩:=hU a hUa;have hlt:∀ k∈t,U k=true/\r k<d+1:=fun k hk=>hl k (mem_cons_of_mem _ hk);have hk:zR get a=zR pg a:=by unfold zR;rw[u3]
   cases hsa:s.getD a false with
   |true=>
    obtain⟨ys,s',v1,v2⟩:=iht s hs hlt;refine⟨a::ys,s',.seen (by omega) (by rw[u3];exact u4) hsa v1,⟨fun x=>?_,v2.sub,fun k hk=>?_,v2.new,fun y hy=>?_⟩⟩
    ·rw[count_cons,count_cons,v2.cnt x];omega
    ·rcases mem_cons.1 hk with rfl|hk
     ·exact v2.sub _ hsa
     ·exact v2.all k hk
    ·rcases mem_cons.1 hy with rfl|hy
     ·exact hUa
     ·exact v2.use y hy
   |false=>
    obtain⟨ys1,s1,v1,v2⟩:=ihd (zR pg a) (s.set a true) (by simpa using hs) (fun k hk=>⟨(u5 k hk).1,by have:=(u5 k hk).2;omega⟩);have hs1:s1.length=N:=by rw[v1.len];simpa using hs
    obtain⟨ys2,s2,v3,v4⟩:=iht s1 hs1 hlt;have hsa1:(s.set a true).getD a false=true:=by rw[zgp,if_pos ⟨rfl,by omega⟩]
    have hs1a:s1.getD a false=true:=v2.sub _ hsa1;have hset:∀ m,m≠a->(s.set a true).getD m false=s.getD m false:=fun m hm=>by rw[zgp,if_neg (fun e=>hm e.1.symm)]
    refine⟨a::(ys1++ys2),s2,.new (by omega) (by rw[u3];exact u4) hsa (by rw[hk];exact v1) v3,⟨fun x=>?_,fun m hm=>?_,fun k hk=>?_,fun m hm=>?_,fun y hy=>?_⟩⟩
    ·rw[count_cons,List.count_append,v2.cnt x,v4.cnt x,count_cons];have e1:=zbr (f:=jU N (s.set a true) s1 pg x) (g:=fun m=>jU N s s1 pg x m) (n:=a) (N:=N) (fun m hm=>by unfold jU;rw[hset m hm]);rw[if_pos u2,if_pos u2]at e1;have e2:jU N (s.set a true) s1 pg x a=0:=by unfold jU;rw[if_neg (by rw[hsa1];simp)]
     have e3:jU N s s1 pg x a=(zR pg a).count x:=by unfold jU;rw[if_pos ⟨hs1a,hsa⟩]
     have e4:((List.range N).map (jU N s s2 pg x)).sum=((List.range N).map (jU N s s1 pg x)).sum+((List.range N).map (jU N s1 s2 pg x)).sum:=by
      rw[<- sum_add];refine qw (fun m _=>?_);unfold jU
      by_cases c0:s.getD m false=true
      ·have c1:s1.getD m false=true:=by
        by_cases hma:m=a
        ·subst hma;exact hs1a
        ·exact v2.sub m (by rw[hset m hma];exact c0)
       rw[c0,c1];simp
      ·have c0:s.getD m false=false:=by simpa using c0
       by_cases c1:s1.getD m false=true
       ·rw[c0,c1,v4.sub m c1];simp
       ·have c1:s1.getD m false=false:=by simpa using c1
        rw[c0,c1];simp
     simp only [e2,e3,Nat.add_zero]at e1;rw[e4];have e1':((List.range N).map (jU N s s1 pg x)).sum=((List.range N).map (jU N (s.set a true) s1 pg x)).sum+(zR pg a).count x:=e1;omega
    ·by_cases hma:m=a
     ·subst hma;exact v4.sub _ hs1a
     ·exact v4.sub _ (v2.sub m (by rw[hset m hma];exact hm))
    ·rcases mem_cons.1 hk with rfl|hk
     ·exact v4.sub _ hs1a
     ·exact v4.all k hk
    ·rcases v4.new m hm with h1|h1
     ·rcases v2.new m h1 with h2|h2
      ·by_cases hma:m=a
       ·subst hma;exact .inr ⟨hUa,fun k hk=>v4.sub _ (v2.all k hk)⟩
       ·rw[hset m hma]at h2;exact .inl h2
      ·exact .inr ⟨h2.1,fun k hk=>v4.sub _ (h2.2 k hk)⟩
     ·exact .inr h1
    ·rcases mem_cons.1 hy with rfl|hy
     ·exact hUa
     ·rcases mem_append.1 hy with hy|hy
      ·exact v2.use y hy
      ·exact v4.use y hy
theorem zn5 (N:Nat) (ys:List Nat) (h:∀ y∈ys,y<N):∀ k,(vt N ys).getD k 0=if k<N then ((ys.count k:Nat):Int) else 0:=by
 have:∀ (ys:List Nat) (l:List Int),(∀ y∈ys,y<l.length)->∀ k,k<l.length->(ys.foldl vO l).getD k 0=l.getD k 0+((ys.count k:Nat):Int):=by
  intro ys
  induction ys with
  |nil=>intro l _ k _;simp
  |cons a t ih=>
   intro l hl k hk;rw[foldl_cons,ih (vO l a) (fun y hy=>by unfold vO;rw[length_set];exact hl y (mem_cons_of_mem _ hy)) k (by unfold vO;rw[length_set];exact hk)];have ha:=hl a mem_cons_self;rw[count_cons];unfold vO
   by_cases hak:a=k
   ·subst hak;simp[getD_eq_getElem?_getD,ha];omega
   ·rw[getD_eq_getElem?_getD,List.getElem?_set_ne hak,<- getD_eq_getElem?_getD,if_neg (by simpa using hak)];omega
 intro k
 by_cases hk:k<N
 ·rw[if_pos hk];have:=this ys (List.replicate N 0) (by simpa using h) k (by simpa using hk);unfold vt;rw[this];simp[getD_eq_getElem?_getD,hk]
 ·rw[if_neg hk,getD_eq_getElem?_getD,List.getElem?_eq_none (by rw[kF];omega)];rfl
theorem zgq:∀ (ps:List Nat) (l:List Int) (k:Nat),k<l.length->(ub l ps).getD k 0=if k∈ps then 1 else l.getD k 0
 |[],l,k,_=>by simp[ub]
 |p::r,l,k,hk=>by
  show(ub (l.set p 1) r).getD k 0=_;rw[zgq r _ k (by rw[length_set];exact hk)]
  by_cases hr:k∈r
  ·rw[if_pos hr,if_pos (mem_cons_of_mem _ hr)]
  ·rw[if_neg hr]
   by_cases hpk:p=k
   ·subst hpk;rw[if_pos mem_cons_self];simp[getD_eq_getElem?_getD,hk]
   ·rw[if_neg (fun e=>by rcases mem_cons.1 e with e|e;exact hpk e.symm;exact hr e),getD_eq_getElem?_getD,List.getElem?_set_ne hpk,<- getD_eq_getElem?_getD]
theorem zc8:∀ (ps:List Nat) (l:List Int),(ub l ps).length=l.length
 |[],l=>rfl
 |p::r,l=>by show(ub (l.set p 1) r).length=_;rw[zc8 r];simp
theorem zc9 {N:Nat}:∀ ys:List Nat,(∀ y∈ys,y<N)->ys.length=((List.range N).map fun k=>ys.count k).sum
 |[],_=>by
  simp only [List.count_nil];rw[qx];rfl
 |a::t,h=>by
  have ih:=zc9 t (fun y hy=>h y (mem_cons_of_mem _ hy));have ha:=h a mem_cons_self;have e1:=zbr (f:=fun k=>t.count k) (g:=fun k=>(a::t).count k) (n:=a) (N:=N) (fun m hm=>by rw[count_cons,if_neg (by simpa using fun e=>hm e.symm)];rfl);rw[if_pos ha,if_pos ha,List.count_cons_self]at e1;rw[length_cons];omega
theorem zjF {f:Nat->Nat} {B:Nat}:∀ N,(∀ m,m<N->f m<=B)->((List.range N).map f).sum<=N*B
 |0,_=>by simp
 |N+1,h=>by
  have:=zjF (f:=f) (B:=B) N (fun m hm=>h m (by omega));have:=h N (by omega);simp only [range_succ,map_append,map_cons,List.map_nil,List.sum_append,List.sum_cons,List.sum_nil];rw[Nat.add_mul];omega
theorem zkD {S:Spa} {R:List Nat} (h:Good S R) (hfit:∀ n,S.now.getD n 0<65536):∃ d ys s',Vis S.get d (List.replicate S.N false) R ys s' 0/\(∀ y∈ys,y<S.N)/\ys.length<=1000000000/\uC S.N S.sup.pages ys=zan S.now:=by
 have hN:=h.dims.n;have hnow:=h.ok.now;have hw:=h.well;obtain⟨r,hr⟩:=hw.rank;have hrb:∀ n,n<S.N->r n<=((List.range S.N).map r).sum:=fun n hn=>uA (mem_map.2 ⟨n,mem_range.2 hn,rfl⟩);generalize hM:((List.range S.N).map r).sum=M at hrb;obtain⟨ys,s',v1,v2⟩:=zq9 (N:=S.N) (get:=S.get) (pg:=S.page) (U:=zE S.sup.pages S.now) (r:=r) (fun n hn=>by
  have hg:=h.get hn
  have hgd:=hw.good n hn
  refine⟨(zC.1 hn).1,hw.lt hn,hg.1,hg.2,fun k hk=>⟨hgd.2 k hk,hr n hn k hk⟩⟩) (M+1) R (List.replicate S.N false) (by simp) (fun k hk=>⟨hw.root k hk,by have:=hrb k (hw.lt (hw.root k hk));omega⟩)
 have hs0:∀ m,(List.replicate S.N false).getD m false=false:=fun m=>by
  rw[getD_eq_getElem?_getD,List.getElem?_replicate];split<;>rfl
 have hsu:∀ m,s'.getD m false=true->zE S.sup.pages S.now m=true/\∀ k∈zR S.page m,s'.getD k false=true:=fun m hm=>by
  rcases v2.new m hm with e|e
  ·rw[hs0]at e;cases e
  ·exact e
 have hall:∀ t n,zE S.sup.pages S.now n=true->M-r n<=t->s'.getD n false=true:=by
  intro t
  induction t with
  |zero=>
   intro n hn ht;have hsum:=hw.sum n (zC.1 hn).1 (zC.1 hn).2.1;have hpos:=(zC.1 hn).2.2
   by_cases hR:n∈R
   ·exact v2.all n hR
   ·exfalso
    have:R.count n=0:=count_eq_zero.2 hR;have hz:qo S.N S.sup.pages S.page S.now n=0:=by
     unfold qo;rw[qw (g:=fun _=>0) (fun m hm=>?_)]
     ·exact qx _
     ·unfold xr;split
      ·rename_i hum;refine count_eq_zero.2 (fun hk=>?_);have:=hr m hum n hk;have:=hrb m hm;omega
      ·rfl
    omega
  |succ t ih=>
   intro n hn ht;have hsum:=hw.sum n (zC.1 hn).1 (zC.1 hn).2.1;have hpos:=(zC.1 hn).2.2
   by_cases hR:n∈R
   ·exact v2.all n hR
   ·have:R.count n=0:=count_eq_zero.2 hR
    by_cases hex:∃ m,zE S.sup.pages S.now m=true/\n∈zR S.page m
    ·obtain⟨m,hum,hk⟩:=hex;have h1:=hr m hum n hk;have h2:=hrb m (hw.lt hum);exact(hsu m (ih m hum (by omega))).2 n hk
    ·exfalso
     have hz:qo S.N S.sup.pages S.page S.now n=0:=by
      unfold qo;rw[qw (g:=fun _=>0) (fun m hm=>?_)]
      ·exact qx _
      ·unfold xr;split
       ·rename_i hum;exact count_eq_zero.2 (fun hk=>hex ⟨m,hum,hk⟩)
       ·rfl
     omega
 have hcnt:∀ x,ys.count x=R.count x+qo S.N S.sup.pages S.page S.now x:=by
  intro x;rw[v2.cnt x];congr 1;unfold qo;refine qw (fun m hm=>?_);unfold jU xr;rw[hs0]
  by_cases hu:zE S.sup.pages S.now m=true
  ·rw[if_pos ⟨hall _ m hu (Nat.le_refl _),rfl⟩,if_pos hu]
  ·rw[if_neg (fun e=>hu (hsu m e.1).1),if_neg hu]
 have hyN:∀ y∈ys,y<S.N:=fun y hy=>hw.lt (v2.use y hy);have hcn:∀ x,ys.count x=if 2<=x/\x∉S.sup.pages then S.now.getD x 0 else 0:=by
  intro x
  by_cases hx:2<=x/\x∉S.sup.pages
  ·rw[if_pos hx,hcnt x,<- hw.sum x hx.1 hx.2]
  ·rw[if_neg hx];refine count_eq_zero.2 (fun hy=>hx ?_);have:=zC.1 (v2.use x hy);exact⟨this.1,this.2.1⟩
 refine⟨M+1,ys,s',v1,hyN,?_,?_⟩
 ·rw[zc9 ys hyN];have:=zjF (f:=fun k=>ys.count k) (B:=65535) S.N (fun m _=>by
   show ys.count m<=_
   rw[hcn m]
   have:=hfit m
   split<;>omega)
  have h2:S.N*65535<=4096*65535:=Nat.mul_le_mul_right _ hN.2;omega
 ·have hlen:(uC S.N S.sup.pages ys).length=S.N:=by
   unfold uC;rw[zc8,length_set,length_set,kF]
  apply List.ext_getElem
  ·rw[hlen];simp[zan,hnow]
  ·intro k h1 h2;rw[hlen]at h1;have e1:(uC S.N S.sup.pages ys).getD k 0=((S.now.getD k 0:Nat):Int):=by
    unfold uC;rw[zgq _ _ k (by rw[length_set,length_set,kF];exact h1)]
    by_cases hp:k∈S.sup.pages
    ·rw[if_pos hp,(hw.pgs k hp).2.2];rfl
    ·rw[if_neg hp];have hc:=zn5 S.N ys hyN k;rw[if_pos h1,hcn k]at hc
     by_cases hk1:k=1
     ·subst hk1;rw[getD_eq_getElem?_getD,List.getElem?_set_self (by rw[length_set,kF];exact h1),hw.head.2];rfl
     ·rw[getD_eq_getElem?_getD,List.getElem?_set_ne (by omega)]
      by_cases hk0:k=0
      ·subst hk0;rw[List.getElem?_set_self (by rw[kF];exact h1),hw.head.1];rfl
      ·rw[List.getElem?_set_ne (by omega),<- getD_eq_getElem?_getD,hc,if_pos ⟨by omega,hp⟩]
   rw[getD_eq_getElem?_getD,List.getElem?_eq_getElem (by rw[hlen];exact h1)]at e1;rw[show(uC S.N S.sup.pages ys)[k]=((S.now.getD k 0:Nat):Int) from e1];have h2':k<S.now.length:=by omega
   simp[zan,getD_eq_getElem?_getD,h2']
end V
/- Spaces that are well:commit,Format. -/
namespace V
open Go Go.Proofs Go.RowKit Crc
structure vu (d:Dev):Prop where
 ok:d.Ok
 fuse:d.fuse=-1
theorem Dev.Ok.facts {d:Dev} (h:d.Ok):∃ z N:Nat,d.size=(z:Int)/\d.blocks=(N:Int)/\zM d.size=(z:Int)-16/\128<=z/\z<=4096/\8<=N/\N<=4096/\zM d.size=((2*zT d.size:Nat):Int):=by
 obtain⟨g1,g2,g3,g4,g5⟩:=qk h.geo;obtain⟨h8,_⟩:=zet h.geo;have h4:=zes h8;exact⟨d.size.toNat,d.blocks.toNat,by omega,by omega,by omega,by omega,by omega,by omega,by omega,h4⟩
theorem zd0 {d:Dev} (h:vu d) {k:Nat} {f:Fra} (hk:(k:Int)<d.blocks) (hf:((B f.2.2).length:Int)<=zM d.size):
  (yz d k f).2=0/\vu (yz d k f).1/\(∀ j:Int,0<=j/\j<d.blocks->((yz d k f).1.read j).1=if j=k then mkB (yQ d.size.toNat f) else (d.read j).1):=by
 obtain⟨z,N,e1,e2,e3,e4,e5,e6,e7,e8⟩:=h.ok.facts;have hputR:xG d.size f=(yQ z f,0):=by
  unfold xG;rw[if_neg (by omega),if_neg (by omega),e1];rfl
 have hl:(yQ z f).length=z:=kB (by omega);have hws:(((mkB (yQ z f)).size:Nat):Int)=d.size:=by rw[xF,hl,e1]
 have hwf:yz d k f=d.write k (mkB (yQ z f)):=by
  unfold yz;rw[hputR,if_neg (by simp)]
 have hk2:0<=(k:Int)/\(k:Int)<d.blocks:=by omega
 obtain⟨q1,q2,q3⟩:=vP h.ok hk2 hws h.fuse;rw[hwf];have hez:d.size.toNat=z:=by omega
 rw[hez];exact⟨(qb h.ok hk2 hws (by rw[h.fuse];decide) hk2).1,⟨q1,q2⟩,fun j hj=>(qb h.ok hk2 hws (by rw[h.fuse];decide) hj).2⟩
theorem uD {d:Dev} (h:vu d):d.flush.2=0/\vu d.flush.1/\d.flush.1.pen=[]/\∀ j:Int,(d.flush.1.read j).1=(d.read j).1:=by
 have hok:=h.ok;have hb:=hok.burnt;have hf:max (-1) (d.fuse-1)=-1:=by rw[h.fuse];decide
 unfold Dev.flush;rw[if_neg (by rw[h.fuse];decide)];refine⟨rfl,⟨⟨hok.geo,?_,zcS _ _ hok.each (fun p hp=>(hok.pend p hp).2.2),(fun p hp=>by cases hp),hb.fuse⟩,hf⟩,rfl,fun j=>rfl⟩;show(((d.pen.foldl Go.Proofs.YtpagephahcnijaaGreat.V.put d.dur).length:Nat):Int)=d.blocks;rw[zag];exact hok.len
theorem zb1:∀ (l:List (Nat×Fra)) (d:Dev),vu d->(∀ p∈l,(p.1:Int)<d.blocks/\((B p.2.2.2).length:Int)<=zM d.size)->
  (wrL d l).2=0/\vu (wrL d l).1/\(∀ j:Int,0<=j/\j<d.blocks->(∀ p∈l,(p.1:Int)≠j)->((wrL d l).1.read j).1=(d.read j).1)
 |[],d,h,_=>⟨rfl,h,fun _ _ _=>rfl⟩
 |kf::r,d,h,hl=>by
  obtain⟨h1,h2⟩:=hl kf mem_cons_self;obtain⟨g1,g2,g3⟩:=zd0 h h1 h2;obtain⟨d1,d2,d3⟩:=uB d kf.1 kf.2;obtain⟨k1,k2,k3⟩:=zb1 r (yz d kf.1 kf.2).1 g2 (fun p hp=>by rw[d1,d2];exact hl p (mem_cons_of_mem _ hp));unfold wrL;rw[if_neg (fun hh=>hh g1)];refine⟨k1,k2,fun j hj hno=>?_⟩;rw[k3 j (by rw[d2];exact hj) (fun p hp=>hno p (mem_cons_of_mem _ hp)),g3 j hj,if_neg (fun e=>hno kf mem_cons_self e.symm)]
theorem zgr (l:List Nat) (per i:Nat):(zdz l per i).length<=2*per:=by
 unfold zdz;have:∀ l:List Nat,(l.flatMap (le 2)).length=2*l.length:=by
  intro l
  induction l with
  |nil=>rfl
  |cons a t ih=>rw[flatMap_cons,length_append,ih,zA,length_cons];omega
 rw[this,length_take];omega
theorem zi0 {d:Dev} (h:vu d) {c:List Nat} {s:Sup} {slot:Int} (hchk:chk s=0) (hsz:s.size=d.size) (hps:∀ p∈s.pages,2<=p/\(p:Int)<d.blocks) (hslot:slot=0\/slot=1):
  (xa d c s slot).2=0/\vu (xa d c s slot).1/\(xa d c s slot).1.pen=[]/\(∀ j:Int,2<=j/\j<d.blocks->(∀ p∈s.pages,(p:Int)≠j)->((xa d c s slot).1.read j).1=(d.read j).1):=by
 obtain⟨z,N,e1,e2,e3,e4,e5,e6,e7,e8⟩:=h.ok.facts;have hL:∀ p∈xH s.gen s.pages (yc c (zT d.size)),p.1∈s.pages/\((B p.2.2.2).length:Int)<=zM d.size:=by
  intro p hp;unfold xH at hp;obtain⟨q,hq,rfl⟩:=mem_map.1 hp;have h1:=(List.of_mem_zip hq).1;have h2:=(List.of_mem_zip hq).2;refine⟨h1,?_⟩;unfold yc at h2;obtain⟨i,_,hi⟩:=mem_map.1 h2;show((B q.2).length:Int)<=_;rw[<- hi,jN];have:=zgr c (zT d.size) i;omega
 obtain⟨w1,w2,w3⟩:=zb1 (xH s.gen s.pages (yc c (zT d.size))) d h (fun p hp=>⟨(hps _ (hL p hp).1).2,(hL p hp).2⟩);obtain⟨dm1,dm2,dm3⟩:=zdB (xH s.gen s.pages (yc c (zT d.size))) d;obtain⟨f1,f2,f3,f4⟩:=uD w2;have fd:=ui (wrL d (xH s.gen s.pages (yc c (zT d.size)))).1;unfold xa;generalize (wrL d (xH s.gen s.pages (yc c (zT d.size))))=r at *;have hp0:(xN s).2=0:=by rw[kZ hchk]
 have hpl:=(zdU hchk).1;have hs2:((((mkB (xN s).1).size:Nat)):Int)=r.1.flush.1.size:=by rw[xF,hpl,fd.1,dm1,hsz]
 have hsl:0<=slot/\slot<r.1.flush.1.blocks:=by rw[fd.2.1,dm2];omega
 obtain⟨q1,q2,q3⟩:=vP f2.ok hsl hs2 f2.fuse;have hrw:=fun(j:Int) (hj:0<=j/\j<r.1.flush.1.blocks)=>qb f2.ok hsl hs2 (by rw[f2.fuse];decide) (j:=j) hj;have hw0:=(hrw slot hsl).1;have hwd:=jT r.1.flush.1 slot (mkB (xN s).1);obtain⟨y1,y2,y3,y4⟩:=uD (d:=(r.1.flush.1.write slot (mkB (xN s).1)).1) ⟨q1,q2⟩;rw[if_neg (fun hh=>hh w1),if_neg (fun hh=>hh f1),if_neg (fun hh=>hh hp0),if_neg (fun hh=>hh hw0)];refine⟨y1,y2,y3,fun j hj hno=>?_⟩;rw[y4 j,(hrw j (by rw[fd.2.1,dm2];omega)).2,if_neg (by omega),f4 j,w3 j (by omega) (fun p hp=>hno p.1 (hL p hp).1)]
theorem zda {size:Int} {N:Nat} (h:yd size N=true):kY size N=((zP size N:Nat):Int):=by
 obtain⟨h8,n,hn,h1,h2⟩:=zet h;obtain⟨hp1,hp2,_⟩:=ka h8;unfold kY zP yC;rw[if_pos h,zes h8];rw[show(2:Int)*(N:Int)+((2*zT size:Nat):Int)-1=((2*N+2*zT size-1:Nat):Int) by omega,<- Int.natCast_ediv];congr 1;rw[<- Nat.div_div_eq_div_mul];congr 1;omega
theorem zqn {size:Int} {N:Nat} (h:yd size N=true):chk (xn size N)=if 14+4*((zP size N:Nat):Int)>zM size then 3 else 0:=by
 have hn:=zbs h;have hl:(xn size N).pages.length=zP size N:=kE _;have hget:∀ j,j<zP size N->(xn size N).pages.getD j 0=j+2:=fun j hj=>by
  show(xO (zP size N)).getD j 0=_;unfold xO;simp[getD_eq_getElem?_getD,hj]
 rw[zhE]
 ·rw[hl];rfl
 ·exact⟨h,(show(1:Nat)≠0 by decide),.inl rfl,by rw[hl];exact(zda h).symm⟩
 ·intro j hj;rw[hl]at hj;refine⟨?_,?_,?_⟩
  ·rw[hget j hj];unfold uh;rw[decide_eq_true];exact⟨by omega,by show((j+2:Nat):Int)<(N:Int);omega⟩
  ·rw[hget j hj];show j+2≠0;omega
  ·rw[hget j hj];intro hm;have hm:j+2∈(xO (zP size N)).take j:=hm;unfold xO at hm;rw[<- List.map_take,List.take_range]at hm;obtain⟨i,hi,e⟩:=mem_map.1 hm;have:=mem_range.1 hi;omega
theorem zi1 {d:Dev} (h:vu d) (hchk:chk (xn d.size d.blocks.toNat)=0):(yR d).2=0/\Good (qB d) []/\(qB d).dev.pen=[]:=by
 obtain⟨z,N,e1,e2,e3,e4,e5,e6,e7,e8⟩:=h.ok.facts;have hN:d.blocks.toNat=N:=by omega
 have hg:yd d.size (N:Int)=true:=by rw[<- e2];exact h.ok.geo
 obtain⟨n1,n2,n3⟩:=zbs hg;rw[hN]at hchk;have hz:(((yU d.size.toNat).size:Nat):Int)=d.size:=by rw[zbS];omega
 have h1:0<=(1:Int)/\(1:Int)<d.blocks:=by omega
 obtain⟨q1,q2,q3⟩:=vP h.ok h1 hz h.fuse;have hw0:=(qb h.ok h1 hz (by rw[h.fuse];decide) h1).1;have hwd:=jT d 1 (yU d.size.toNat);have hpages:∀ p∈xO (zP d.size N),2<=p/\p<N:=fun p hp=>by
  unfold xO at hp;obtain⟨i,hi,rfl⟩:=mem_map.1 hp;have:=mem_range.1 hi;omega
 obtain⟨c1,c2,c3,c4⟩:=zi0 (d:=(d.write 1 (yU d.size.toNat)).1) ⟨q1,q2⟩ (c:=yt N (zP d.size N)) (s:=xn d.size N) (slot:=0) hchk hwd.1.symm (fun p hp=>by have:=hpages p hp;rw[hwd.2.1];omega) (.inl rfl);have eD:yR d=xa (d.write 1 (yU d.size.toNat)).1 (yt N (zP d.size N)) (xn d.size N) 0:=by
  unfold yR;rw[hN,if_neg (fun hh=>hh hchk),if_neg (fun hh=>hh hw0)]
 have dm:=za0 (d.write 1 (yU d.size.toNat)).1 (yt N (zP d.size N)) (xn d.size N) 0;have eS:qB d=⟨(yR d).1,xn d.size N,0,yt N (zP d.size N),yt N (zP d.size N),none⟩:=by unfold qB;rw[hN]
 rw[eS,eD];refine⟨c1,⟨⟨(dm.1.trans hwd.1).symm,?_,zc6 hg,?_,?_,fun l hl=>by cases hl⟩,c2.ok,c2.fuse,by show 1<_;decide,?_⟩,c3⟩
 ·show(N:Int)=_;rw[dm.2,hwd.2.1,e2]
 ·show(yt N (zP d.size N)).length=((N:Int)).toNat;rw[jb n1];omega
 ·show(yt N (zP d.size N)).length=((N:Int)).toNat;rw[jb n1];omega
 ·show yg ((N:Int)).toNat (xO (zP d.size N)) _ (yt N (zP d.size N)) [];have hget:=fun k=>kS (N:=N) (np:=zP d.size N) (k:=k) n1;have hnone:∀ k,zE (xO (zP d.size N)) (yt N (zP d.size N)) k=false:=fun k=>by
   cases hq:zE (xO (zP d.size N)) (yt N (zP d.size N)) k with
   |false=>rfl
   |true=>
    obtain⟨a1,a2,a3⟩:=zC.1 hq;rw[hget k]at a3;split at a3
    ·exfalso
     apply a2;unfold xO;exact mem_map.2 ⟨k-2,mem_range.2 (by omega),by omega⟩
    ·omega
  refine⟨by rw[jb n1];omega,by omega,⟨by rw[hget,if_pos (by omega)],by rw[hget,if_pos (by omega)]⟩,fun p hp=>?_,by simp,(fun n hn=>by rw[hnone]at hn;cases hn),⟨fun _=>0,(fun n hn=>by rw[hnone]at hn;cases hn)⟩,fun n h2 hp=>?_⟩
  ·have:=hpages p hp;refine⟨this.1,by omega,?_⟩;unfold xO at hp;obtain⟨i,hi,rfl⟩:=mem_map.1 hp;have:=mem_range.1 hi;rw[hget,if_pos (by omega)]
  ·have hz0:qo ((N:Int)).toNat (xO (zP d.size N)) (Spa.page ⟨(xa (d.write 1 (yU d.size.toNat)).1 (yt N (zP d.size N)) (xn d.size N) 0).1,xn d.size N,0,yt N (zP d.size N),yt N (zP d.size N),none⟩) (yt N (zP d.size N)) n=0:=by
    unfold qo;rw[qw (g:=fun _=>0) (fun m _=>by unfold xr;rw[hnone];rfl)];exact qx _
   have e0:(yt N (zP d.size N)).getD n 0=0:=by
    rw[hget,if_neg];intro hlt;apply hp;show n∈xO (zP d.size N);unfold xO;exact mem_map.2 ⟨n-2,mem_range.2 (by omega),by omega⟩
   rw[e0,List.count_nil,Nat.zero_add];exact hz0.symm
end V
/- Spaces:several blocks taken,and what Commit comes to:plain. -/
namespace V
open Go Go.Proofs Go.RowKit Crc
theorem zn6 (S:Spa):S.yk.Nodup:=List.Nodup.sublist List.filter_sublist List.nodup_range
namespace Spa
end Spa
namespace Spa
end Spa
structure zrw (S:Spa):Prop where
 at_:∀ p∈S.sup.pages,2<=p/\p<S.N/\S.now.getD p 0=1
 nodup:S.sup.pages.Nodup
 len:S.sup.pages.length=yC S.N (zT S.sup.size)
end V
/- Contracts of the package space:Commit. -/
namespace V
open Go Go.Proofs Go.RowKit Crc
def zkE:List Value->Nat->List Value->List Value
 |cs,_,[]=>cs
 |cs,k,v::r=>zkE (cs.set k v) (k+1) r
theorem zd1 {w:World} {b:Nat} {cs:List Value} {t:TypeId} (h:Blk w b cs t) {o:Nat}:∀ (vs:List Value) (i:Nat),o+i+vs.length<=cs.length->(∀ v∈vs,v.oneCell'=true)->Storable w ⟨b,o,none⟩ i vs
 |[],_,_,_=>trivial
 |v::r,i,hl,ho=>by
  simp only [length_cons]at hl;refine⟨ho v mem_cons_self,?_,?_,zd1 h r (i+1) (by omega) (fun u hu=>ho u (mem_cons_of_mem _ hu))⟩
  ·rw[zx,h.cell];exact⟨_,List.getElem?_eq_getElem (by omega)⟩
  ·rw[zx];exact h.frozen _
theorem zd2 {b o:Nat} {t:TypeId}:∀ (vs:List Value) (i:Nat) (w:World) (cs:List Value),Blk w b cs t->Blk (setCells w ⟨b,o,none⟩ i vs) b (zkE cs (o+i) vs) t/\Only (fun k=>k=b) w (setCells w ⟨b,o,none⟩ i vs)
 |[],i,w,cs,h=>⟨h,Only.refl _ _⟩
 |v::r,i,w,cs,h=>by
  simp only [setCells,zx];have h2:=h.set (o+i) v;have o2:Only (fun k=>k=b) w (w.setCell ⟨b,o+i,none⟩ v):=Only.zV (yS w b (o+i) v) (fun j hj=>.inl (by injection hj with hj;exact hj.symm));obtain⟨g1,g2⟩:=zd2 (o:=o) r (i+1) _ _ h2;exact⟨g1,Only.trans o2 g2 (fun j hj=>.inl hj)⟩
theorem zqo {w:World} {b n:Nat} (o:Nat) {a:Addr} {cs vs:List Value} {t:TypeId} {us:Array Value} {K:WP} (h:Blk w b cs t) (ha:a=⟨b,o,none⟩) (hl:o+vs.length<=cs.length) (hv:∀ v∈vs,v.oneCell'=true) (hu:us.size=n)
  (hK:∀ w',Blk w' b (zkE cs o vs) t->Only (fun k=>k=b) w w'->K w'):(zc (us.size=n)<|zq a vs K) w:=by
 subst ha;obtain⟨g1,g2⟩:=zd2 (o:=o) vs 0 w cs h;exact⟨hu,zd1 h vs 0 (by omega) hv,hK _ g1 g2⟩
theorem stE {w:World} {b o:Nat} {a:Addr} {cs:List Value} {t:TypeId} {v:Value} {K:WP} (h:Blk w b cs t) (ha:a=⟨b,o,none⟩) (ho:o<cs.length) (hK:∀ w',Blk w' b (cs.set o v) t->Only (fun k=>k=b) w w'->K w'):stW a v K w:=by
 subst ha;exact zX h ho (hK _ (h.set o v) (Only.zV (yS w b o v) (fun j hj=>.inl (by injection hj with hj;exact hj.symm))))
variable {w w':World} {b db:Nat} {S:Spa} {F Fd:Nat->Prop} {x:SLC} {hb hr nb nr:Nat} {m:MkL}
end V
/- Contracts of the package space:Open,Root. -/
namespace V
open Go Go.Proofs Go.RowKit Crc
end V
/- Spaces that are well,with what was committed and marked:plain. -/
namespace V
open Go Go.Proofs Go.RowKit Crc
theorem uE {S S':Spa} (hN:S'.N=S.N) (h:∀ n,S.yG n=true->S'.yG n=true):S.zY<=S'.zY:=by
 unfold Spa.zY Spa.yk;rw[<- List.countP_eq_length_filter,<- List.countP_eq_length_filter,hN];refine List.countP_mono_left (fun n _ hn=>?_);rw[Bool.and_eq_true]at hn ⊢;exact⟨hn.1,h n hn.2⟩
theorem zaI:∀ {a b:List Nat},a.Nodup->(∀ x∈a,x∈b)->a.length<=b.length
 |[],b,_,_=>Nat.zero_le _
 |x::r,b,hn,h=>by
  obtain⟨hx,hr⟩:=nodup_cons.1 hn;have hb:=h x mem_cons_self;have:=zaI (a:=r) (b:=b.erase x) hr (fun y hy=>by
   have hyx:y≠x:=fun e=>hx (e▸hy)
   exact(List.mem_erase_of_ne hyx).2 (h y (mem_cons_of_mem _ hy)))
  rw[List.length_erase_of_mem hb]at this;have:=List.length_pos_of_mem hb;rw[length_cons];omega
theorem zgs:∀ (l:List (Nat×Fra)) (d:Dev),vu d->(∀ p∈l,(p.1:Int)<d.blocks/\((B p.2.2.2).length:Int)<=zM d.size)->(l.map (·.1)).Nodup->
  ∀ p∈l,((wrL d l).1.read (p.1:Int)).1=mkB (yQ d.size.toNat p.2)
 |[],d,_,_,_,p,hp=>by cases hp
 |kf::r,d,h,hl,hnd,p,hp=>by
  obtain⟨h1,h2⟩:=hl kf mem_cons_self;obtain⟨g1,g2,g3⟩:=zd0 h h1 h2;obtain⟨d1,d2,d3⟩:=uB d kf.1 kf.2;have hr:=fun p hp=>hl p (mem_cons_of_mem kf hp);have hr':∀ p∈r,(p.1:Int)<(yz d kf.1 kf.2).1.blocks/\((B p.2.2.2).length:Int)<=zM (yz d kf.1 kf.2).1.size:=fun p hp=>by rw[d1,d2];exact hr p hp
  obtain⟨k1,k2,k3⟩:=zb1 r _ g2 hr';rw[map_cons,nodup_cons]at hnd;unfold wrL;rw[if_neg (fun hh=>hh g1)];rcases mem_cons.1 hp with rfl|hp
  ·rw[k3 (p.1:Int) (by rw[d2];exact⟨by omega,h1⟩) (fun q hq e=>hnd.1 (mem_map.2 ⟨q,hq,by omega⟩)),g3 _ ⟨by omega,h1⟩,if_pos rfl]
  ·have:=zgs r _ g2 hr' hnd.2 p hp;rw[this,d1]
theorem zn7 {gen:Nat} {ps:List Nat} {l:List ByteArray} (h:ps.length=l.length):(xH gen ps l).map (·.1)=ps:=by
 unfold xH;rw[map_map];have:(fun p:Nat×ByteArray=>p.1)=Prod.fst:=rfl;show(ps.zip l).map Prod.fst=ps;rw[List.map_fst_zip (by omega)]
theorem zhT {d:Dev} (h:vu d) {c:List Nat} {s:Sup} {slot:Int} (hchk:chk s=0) (hsz:s.size=d.size) (hps:∀ p∈s.pages,2<=p/\(p:Int)<d.blocks) (hnd:s.pages.Nodup) (hslot:slot=0\/slot=1)
  (hlen:s.pages.length=yC c.length (zT d.size)):
  ((xa d c s slot).1.read slot).1=mkB (xN s).1/\(∀ j:Int,0<=j->j<d.blocks->j≠slot->(∀ p∈s.pages,(p:Int)≠j)->((xa d c s slot).1.read j).1=(d.read j).1)/\
   ∀ i,i<s.pages.length->((xa d c s slot).1.read ((s.pages.getD i 0:Nat):Int)).1=mkB (yQ d.size.toNat ((2:UInt8),s.gen,(yc c (zT d.size)).getD i ByteArray.empty)):=by
 obtain⟨z,N,e1,e2,e3,e4,e5,e6,e7,e8⟩:=h.ok.facts;have hPl:=zcv c (zT d.size);have hL:∀ p∈xH s.gen s.pages (yc c (zT d.size)),p.1∈s.pages/\((B p.2.2.2).length:Int)<=zM d.size:=by
  intro p hp;unfold xH at hp;obtain⟨q,hq,rfl⟩:=mem_map.1 hp;have h1:=(List.of_mem_zip hq).1;have h2:=(List.of_mem_zip hq).2;refine⟨h1,?_⟩;unfold yc at h2;obtain⟨i,_,hi⟩:=mem_map.1 h2;show((B q.2).length:Int)<=_;rw[<- hi,jN];have:=zgr c (zT d.size) i;omega
 have hL':∀ p∈xH s.gen s.pages (yc c (zT d.size)),(p.1:Int)<d.blocks/\((B p.2.2.2).length:Int)<=zM d.size:=fun p hp=>⟨(hps _ (hL p hp).1).2,(hL p hp).2⟩;obtain⟨w1,w2,w3⟩:=zb1 _ d h hL';have w4:=zgs _ d h hL' (by rw[zn7 (by omega)];exact hnd);obtain⟨dm1,dm2,dm3⟩:=zdB (xH s.gen s.pages (yc c (zT d.size))) d;have hget:=fun i (hi:i<s.pages.length)=>zhP (gen:=s.gen) (ps:=s.pages) (l:=yc c (zT d.size)) (by omega) (i:=i) (by omega);obtain⟨f1,f2,f3,f4⟩:=uD w2;have fd:=ui (wrL d (xH s.gen s.pages (yc c (zT d.size)))).1;unfold xa;generalize (xH s.gen s.pages (yc c (zT d.size)))=L at *;generalize hr:(wrL d L)=r at *;have hp0:(xN s).2=0:=by rw[kZ hchk]
 have hpl:=(zdU hchk).1;have hs2:((((mkB (xN s).1).size:Nat)):Int)=r.1.flush.1.size:=by rw[xF,hpl,fd.1,dm1,hsz]
 have hsl:0<=slot/\slot<r.1.flush.1.blocks:=by rw[fd.2.1,dm2];omega
 obtain⟨q1,q2,q3⟩:=vP f2.ok hsl hs2 f2.fuse;have hrw:=fun(j:Int) (hj:0<=j/\j<r.1.flush.1.blocks)=>qb f2.ok hsl hs2 (by rw[f2.fuse];decide) (j:=j) hj;have hw0:=(hrw slot hsl).1;obtain⟨y1,y2,y3,y4⟩:=uD (d:=(r.1.flush.1.write slot (mkB (xN s).1)).1) ⟨q1,q2⟩;rw[if_neg (fun hh=>hh w1),if_neg (fun hh=>hh f1),if_neg (fun hh=>hh hp0),if_neg (fun hh=>hh hw0)];refine⟨?_,fun j hj hjb hjs hno=>?_,fun i hi=>?_⟩
 ·rw[y4,(hrw slot hsl).2,if_pos rfl]
 ·rw[y4 j,(hrw j (by rw[fd.2.1,dm2];omega)).2,if_neg hjs,f4 j,w3 j ⟨hj,hjb⟩ (fun p hp=>hno p.1 (hL p hp).1)]
 ·have hg:=hget i hi;have hm:=mem_of_getElem? hg;have h2:=hps _ (hL _ hm).1;dsimp only at h2;rw[y4,(hrw _ (by rw[fd.2.1,dm2];omega)).2,if_neg (by omega),f4,w4 _ hm]
structure zhU (S:Spa):Prop where
 slot:S.slot=0\/S.slot=1
 chk:chk S.sup=0
 cur:kR (B (S.dev.read S.slot).1)=(S.sup,0)
 old:(kR (B (S.dev.read (other S.slot)).1)).2≠0\/(kR (B (S.dev.read (other S.slot)).1)).1.gen<S.sup.gen
 pgs:∀ i,i<S.sup.pages.length->(S.dev.read ((S.sup.pages.getD i 0:Nat):Int)).1=mkB (yQ S.dev.size.toNat ((2:UInt8),S.sup.gen,(yc S.held (zT S.dev.size)).getD i ByteArray.empty))
 fit:∀ c∈S.held,c<65536
def MW (N:Nat) (ps:List Nat) (pg:PgF):Option (List Nat)->Option (List Nat)->Prop
 |none,none=>True
 |some l,some m=>yg N ps pg l m
 |_,_=>False
structure Great (S:Spa) (R H:List Nat) (M:Option (List Nat)):Prop where
 good:Good S R
 heldOK:zhU S
 hwell:yg S.N S.sup.pages S.page S.held H
 mwell:MW S.N S.sup.pages S.page S.mark M
 room:S.sup.pages.length<=S.zY
theorem MW.zap {N:Nat} {ps:List Nat} {pg pg':PgF} {l m:Option (List Nat)} (h:MW N ps pg l m) (ho:∀ n,cnt l n≠0->2<=n->n<N->pg' n=pg n):MW N ps pg' l m:=by
 cases l with
 |none=>cases m with
  |none=>trivial
  |some _=>exact h.elim
 |some l=>cases m with
  |none=>exact h.elim
  |some m=>
   have h:yg N ps pg l m:=h;refine yg.zap h (fun n hn=>ho n ?_ ?_ (h.lt hn))
   ·have:=(zC.1 hn).2.2;show l.getD n 0≠0;omega
   ·exact(zC.1 hn).1
theorem zhU.zoG {S:Spa} {R:List Nat} (h:zhU S) (hg:Good S R):zrw S:=by
 obtain⟨⟨c1,c2,c3,c4⟩,c5,c6⟩:=zbo h.chk;have hN:S.sup.blocks=(S.N:Int):=hg.dims.blocks;have h4:=zda (size:=S.sup.size) (N:=S.N) (by rw[<- hN];exact c1);rw[hN,h4]at c4;refine⟨hg.well.pgs,?_,by unfold zP at c4;omega⟩;rw[List.nodup_iff_pairwise_ne,List.pairwise_iff_getElem];intro i j hi hj hij e;apply(c5 j hj).2.2;rw[getD_eq_getElem?_getD,List.getElem?_eq_getElem hj,Option.getD_some,<- e];exact List.mem_take_iff_getElem.2 ⟨i,by omega,rfl⟩
theorem zlP {S:Spa} {R H:List Nat} {M:Option (List Nat)} {p:Page} (h:Great S (p.2.1++R) H M) (ht:3<=p.1.toNat) (hk:(p.2.1.length:Int)<=S.room 0 / 4) (hd:(p.2.2.size:Int)<=S.room p.2.1.length) (hfree:S.sup.pages.length<S.zY):
  (S.put p).2.2=0/\kg S (S.put p).1 p (S.put p).2.1/\Great (S.put p).1 ((S.put p).2.1::R) H M:=by
 obtain⟨h1,h2,h3⟩:=zey h.good ht hk hd hfree;refine⟨h1,h2,?_⟩;generalize (S.put p).1=S' at *;generalize (S.put p).2.1=n at *;have hN:S'.N=S.N:=by unfold Spa.N;rw[h2.sup]
 obtain⟨f1,f2,f3⟩:=zU.1 h2.free;have hb:=h.good.dims.blocks;have hn:=h.good.dims.n;have ho:=h.heldOK;have hslot:∀ j:Int,j=0\/j=1->(S'.dev.read j).1=(S.dev.read j).1:=fun j hj=>h2.read j (by omega) (by omega) (by have:=h2.two;omega);refine⟨h3,⟨?_,?_,?_,?_,?_,?_⟩,?_,?_,?_⟩
 ·rw[h2.slot];exact ho.slot
 ·rw[h2.sup];exact ho.chk
 ·rw[h2.slot,h2.sup,hslot _ ho.slot];exact ho.cur
 ·rw[h2.slot,h2.sup,hslot _ (by unfold other;split<;>simp)];exact ho.old
 ·intro i hi;rw[h2.sup]at hi ⊢;rw[h2.held,h2.dim.1,h2.read _ (by omega) ?_ ?_]
  ·exact ho.pgs i hi
  ·have:=(h.good.well.pgs (S.sup.pages.getD i 0) (by rw[getD_eq_getElem?_getD,List.getElem?_eq_getElem hi];exact getElem_mem _)).2.1;omega
  ·intro e;have e:S.sup.pages.getD i 0=n:=by omega
   apply h2.pgs;rw[<- e,getD_eq_getElem?_getD,List.getElem?_eq_getElem hi];exact getElem_mem _
 ·rw[h2.held];exact ho.fit
 ·rw[hN,h2.sup,h2.held];exact yg.zap h.hwell (fun m hm=>h2.other m (fun e=>by subst e;have:=(zC.1 hm).2.2;omega) (h.hwell.lt hm))
 ·rw[hN,h2.sup,h2.mark];exact h.mwell.zap (fun m hm _ hmN=>h2.other m (fun e=>by subst e;exact hm f3) hmN)
 ·have:=h2.yk;have hh:=h.room;rw[h2.sup];unfold Spa.zY at hfree ⊢;rw[this]at hfree;simp only [length_cons]at hfree;omega
theorem Great.kD {S:Spa} {R R' H:List Nat} {M:Option (List Nat)} {c:List Nat} (h:Great S R H M) (hg:Good { S with now:=c } R') (hr:S.sup.pages.length<=({ S with now:=c }:Spa).zY):Great { S with now:=c } R' H M:=
 ⟨hg,⟨h.heldOK.slot,h.heldOK.chk,h.heldOK.cur,h.heldOK.old,h.heldOK.pgs,h.heldOK.fit⟩,h.hwell,h.mwell,hr⟩
theorem Great.perm {S:Spa} {R R' H:List Nat} {M:Option (List Nat)} (h:Great S R H M) (hp:R.Perm R'):Great S R' H M:=⟨h.good.perm hp,h.heldOK,h.hwell,h.mwell,h.room⟩
end V
/- Spaces that are well:Commit,Format,Mark,Back,Done,Share,Drop:plain. -/
namespace V
open Go Go.Proofs Go.RowKit Crc
theorem zn8 {size:Int} {N:Nat} (h:yd size N=true):2*zP size N+2<=N:=by
 obtain⟨h8,n,hn,h1,h2⟩:=zet h;obtain rfl:N=n:=by omega
 obtain⟨hp1,hp2,_⟩:=ka h8;have hx:yC N (zT size)<=(N+55) / 56:=by
  unfold yC;rw[Nat.div_le_iff_le_mul_add_pred (by omega)];have h3:N+55<56*((N+55) / 56+1):=Nat.lt_mul_div_succ _ (by omega);have h4:56*((N+55) / 56)<=zT size*((N+55) / 56):=Nat.mul_le_mul_right _ hp1;omega
 unfold zP;omega
theorem zlQ (n:Nat):(kR (B (yU n))).2≠0:=by
 intro h;obtain⟨h1,h2⟩:=zqg h;have hc:=zjB (s:=(kR (B (yU n))).1) (by rw[h1]);rw[kZ hc]at h1;injection h1 with h1 _
 have h3:(B (yU n)).getD 0 0=0:=by
  unfold yU;have:∀ k:Nat,(List.replicate k (0:UInt8)).getD 0 0=0:=fun k=>by cases k<;>rfl
  first
   |(rw[jN];exact this _)
   |(rw[xC];exact this _)
 rw[<- h1]at h3;have h4:(yQ (kR (B (yU n))).1.size.toNat (vM (kR (B (yU n))).1)).getD 0 0=1:=by
  unfold yQ xW kK;rfl
 rw[h4]at h3;cases h3
theorem zaq {d:Dev} (h:vu d) (hchk:chk (xn d.size d.blocks.toNat)=0):(yR d).2=0/\Great (qB d) [] [] none/\(qB d).dev.pen=[]:=by
 obtain⟨g1,g2,g3⟩:=zi1 h hchk;refine⟨g1,?_,g3⟩;obtain⟨z,N,e1,e2,e3,e4,e5,e6,e7,e8⟩:=h.ok.facts;have hN:d.blocks.toNat=N:=by omega
 have hg:yd d.size (N:Int)=true:=by rw[<- e2];exact h.ok.geo
 obtain⟨n1,n2,n3⟩:=zbs hg;have n4:=zn8 hg;rw[hN]at hchk;have hz:(((yU d.size.toNat).size:Nat):Int)=d.size:=by rw[zbS];omega
 have h1:0<=(1:Int)/\(1:Int)<d.blocks:=by omega
 obtain⟨q1,q2,q3⟩:=vP h.ok h1 hz h.fuse;have hw0:=(qb h.ok h1 hz (by rw[h.fuse];decide) h1).1;have hw1:=(qb h.ok h1 hz (by rw[h.fuse];decide) h1).2;have hwd:=jT d 1 (yU d.size.toNat);have hpm:∀ p,p∈xO (zP d.size N)↔2<=p/\p<2+zP d.size N:=fun p=>by
  unfold xO;constructor
  ·intro hp;obtain⟨i,hi,rfl⟩:=mem_map.1 hp;have:=mem_range.1 hi;omega
  ·intro hp;exact mem_map.2 ⟨p-2,mem_range.2 (by omega),by omega⟩
 have hnd:(xO (zP d.size N)).Nodup:=by
  unfold xO;rw[List.nodup_iff_pairwise_ne,List.pairwise_map];exact List.Pairwise.imp (fun hab e=>by omega) List.pairwise_lt_range
 have hfl:=jb (N:=N) (np:=zP d.size N) n1;obtain⟨r1,r2,r3⟩:=zhT (d:=(d.write 1 (yU d.size.toNat)).1) ⟨q1,q2⟩ (c:=yt N (zP d.size N)) (s:=xn d.size N) (slot:=0) hchk hwd.1.symm (fun p hp=>by have:=(hpm p).1 hp;rw[hwd.2.1];omega) hnd (.inl rfl) (by rw[hwd.1,hfl];exact kE _);have eD:yR d=xa (d.write 1 (yU d.size.toNat)).1 (yt N (zP d.size N)) (xn d.size N) 0:=by
  unfold yR;rw[hN,if_neg (fun hh=>hh hchk),if_neg (fun hh=>hh hw0)]
 have dm:=za0 (d.write 1 (yU d.size.toNat)).1 (yt N (zP d.size N)) (xn d.size N) 0;have eS:qB d=⟨(yR d).1,xn d.size N,0,yt N (zP d.size N),yt N (zP d.size N),none⟩:=by unfold qB;rw[hN]
 rw[eS]at g2 ⊢;refine⟨g2,⟨.inl rfl,hchk,?_,.inl ?_,?_,?_⟩,g2.well,trivial,?_⟩
 ·show kR (B ((yR d).1.read 0).1)=_;rw[eD,r1,xC];exact znW (zc6 hg) (by rw[kZ hchk])
 ·show(kR (B ((yR d).1.read 1).1)).2≠0;rw[eD,r2 1 (by omega) (by rw[hwd.2.1];omega) (by omega) (fun p hp=>by have:=(hpm p).1 hp;omega),hw1,if_pos rfl];exact zlQ _
 ·intro i hi;show((yR d).1.read (((xO (zP d.size N)).getD i 0:Nat):Int)).1=mkB (yQ (yR d).1.size.toNat ((2:UInt8),1,(yc (yt N (zP d.size N)) (zT (yR d).1.size)).getD i ByteArray.empty));rw[eD,dm.1];exact r3 i hi
 ·intro c hc;have hc:c∈yt N (zP d.size N):=hc;unfold yt at hc;rw[mem_append,List.mem_replicate,List.mem_replicate]at hc;omega
 ·show(xO (zP d.size N)).length<=List.length _;rw[kE];have:=zaI (a:=(List.range (zP d.size N)).map (·+(2+zP d.size N))) (b:=Spa.yk ⟨(yR d).1,xn d.size N,0,yt N (zP d.size N),yt N (zP d.size N),none⟩) ?_ ?_
  ·rw[length_map,length_range]at this;exact this
  ·rw[List.nodup_iff_pairwise_ne,List.pairwise_map];exact List.Pairwise.imp (fun hab e=>by omega) List.pairwise_lt_range
  ·intro k hk;obtain⟨i,hi,rfl⟩:=mem_map.1 hk;have:=mem_range.1 hi;refine uj.2 ⟨by show i+(2+zP d.size N)<((N:Int)).toNat;omega,by omega,zU.2 ⟨?_,?_,rfl⟩⟩
   ·show(yt N (zP d.size N)).getD _ 0=0;rw[kS n1,if_neg (by omega)]
   ·show(yt N (zP d.size N)).getD _ 0=0;rw[kS n1,if_neg (by omega)]
theorem Great.less {S:Spa} {R R' H:List Nat} {M:Option (List Nat)} {c:List Nat} (h:Great S R H M) (hg:Good { S with now:=c } R') (hle:∀ k,c.getD k 0<=S.now.getD k 0):Great { S with now:=c } R' H M:=by
 refine h.kD hg (Nat.le_trans h.room (uE rfl fun n hn=>?_));obtain⟨f1,f2,f3⟩:=zU.1 hn;exact zU.2 ⟨by have:=hle n;show c.getD n 0=0;omega,f2,f3⟩
theorem Great.more {S:Spa} {R R' H:List Nat} {M:Option (List Nat)} {n:Nat} (h:Great S R H M) (hu:zE S.sup.pages S.now n=true) (hg:Good { S with now:=S.now.set n (S.now.getD n 0+1) } R'):Great { S with now:=S.now.set n (S.now.getD n 0+1) } R' H M:=by
 refine h.kD hg (Nat.le_trans h.room (uE rfl fun k hk=>?_));obtain⟨f1,f2,f3⟩:=zU.1 hk;refine zU.2 ⟨?_,f2,f3⟩;show(S.now.set n (S.now.getD n 0+1)).getD k 0=0;have:=(zC.1 hu).2.2;rw[yn,if_neg (fun e=>by rw[e.1]at this;omega)];exact f1
end V
/- Blobs:plain. -/
namespace V
open Go Go.Proofs Go.RowKit Crc
structure Kept (S S':Spa):Prop where
 sup:S'.sup=S.sup
 held:S'.held=S.held
 mark:S'.mark=S.mark
 slot:S'.slot=S.slot
 dim:S'.dev.size=S.dev.size/\S'.dev.blocks=S.dev.blocks
 read:∀ k:Int,0<=k->k<S.N->(k.toNat<2\/S.yG k.toNat=false)->(S'.dev.read k).1=(S.dev.read k).1
structure Puts (S Si:Spa) (R ks:List Nat) (ps:List Page):Prop where
 good:Good Si (ks++R)
 sup:Si.sup=S.sup
 held:Si.held=S.held
 mark:Si.mark=S.mark
 slot:Si.slot=S.slot
 len:ps.length=ks.length
 free:S.yk=ks++Si.yk
 page:∀ j,j<ks.length->Si.page (ks.getD j 0)=(ps.getD j xl,0)
 other:∀ k,k<S.N->k∉ks->Si.page k=S.page k
 now:∀ k,Si.now.getD k 0=if k∈ks then 1 else S.now.getD k 0
 nlen:Si.now.length=S.now.length
 pen:Si.dev.pen.length=S.dev.pen.length+ks.length
 read:∀ k:Int,0<=k->k<S.N->k.toNat∉ks->(Si.dev.read k).1=(S.dev.read k).1
 dim:Si.dev.size=S.dev.size/\Si.dev.blocks=S.dev.blocks
theorem Puts.N {S Si:Spa} {R ks:List Nat} {ps:List Page} (h:Puts S Si R ks ps):Si.N=S.N:=by unfold Spa.N;rw[h.sup]
theorem Puts.nil {S:Spa} {R:List Nat} (h:Good S R):Puts S S R [] []:=⟨h,rfl,rfl,rfl,rfl,rfl,rfl,fun j hj=>absurd hj (Nat.not_lt_zero j),fun _ _ _=>rfl,fun _=>by simp,rfl,rfl,fun _ _ _ _=>rfl,rfl,rfl⟩
theorem Puts.mem {S Si:Spa} {R ks:List Nat} {ps:List Page} (h:Puts S Si R ks ps) {k:Nat} (hk:k∈ks):2<=k/\k<S.N/\S.yG k=true/\k∉S.sup.pages:=by
 have hm:k∈S.yk:=by rw[h.free];exact mem_append_left _ hk
 obtain⟨h1,h2,h3⟩:=uj.1 hm;refine⟨h2,h1,h3,fun hp=>?_⟩;have hpg:=(h.good.well.pgs k (by rw[h.sup];exact hp)).2.2;have hu:=h.good.well.root k (mem_append_left _ hk);have:=(zC.1 hu).2.1;rw[h.sup]at this;exact this hp
theorem Puts.kept {S Si:Spa} {R ks:List Nat} {ps:List Page} (h:Puts S Si R ks ps):Kept S Si:=
 ⟨h.sup,h.held,h.mark,h.slot,h.dim,fun k h0 hk hf=>h.read k h0 hk (fun hm=>by
  obtain⟨a1,a2,a3,a4⟩:=h.mem hm
  rcases hf with hf|hf
  ·omega
  ·rw[hf]at a3;cases a3)⟩
theorem Puts.step {S Si:Spa} {R ks:List Nat} {ps:List Page} (h:Puts S Si R ks ps) {t:UInt8} {d:ByteArray} (ht:3<=t.toNat) (hd:(d.size:Int)<=Si.room 0) (hfree:Si.sup.pages.length<Si.zY):
  (Si.put (t,[],d)).2.2=0/\Puts S (Si.put (t,[],d)).1 R (ks++[(Si.put (t,[],d)).2.1]) (ps++[(t,[],d)]):=by
 have hdim:=h.good.dims;have hsz:=hdim.size;have hr0:Si.room 0=Si.sup.size-18:=by unfold Spa.room;rw[hdim.room,if_neg (by omega)];omega
 obtain⟨h1,h2,h3⟩:=zey (p:=(t,[],d)) (R:=ks++R) h.good ht (by show(0:Int)<=_;omega) hd hfree;refine⟨h1,?_⟩;generalize (Si.put (t,[],d)).2.1=n at *;generalize (Si.put (t,[],d)).1=S' at *;have hnk:n∉ks:=fun hk=>by
  have hf:=(zU.1 h2.free).1;rw[h.now n,if_pos hk]at hf;cases hf
 refine⟨h3.perm ?_,h2.sup.trans h.sup,h2.held.trans h.held,h2.mark.trans h.mark,h2.slot.trans h.slot,by simp[h.len],?_,fun j hj=>?_,fun k hk hks=>?_,fun k=>?_,?_,?_,fun k h0 hk hks=>?_,h2.dim.1.trans h.dim.1,h2.dim.2.trans h.dim.2⟩
 ·rw[append_assoc];exact List.perm_middle.symm
 ·rw[h.free,h2.yk,append_assoc,List.singleton_append]
 ·rw[length_append,length_singleton]at hj
  by_cases hjl:j<ks.length
  ·rw[show(ks++[n]).getD j 0=ks.getD j 0 by rw[getD_eq_getElem?_getD,List.getElem?_append_left hjl,<- getD_eq_getElem?_getD],show(ps++[((t,[],d):Page)]:List Page).getD j xl=ps.getD j xl by rw[getD_eq_getElem?_getD,List.getElem?_append_left (by rw[h.len];exact hjl),<- getD_eq_getElem?_getD]];have hmem:ks.getD j 0∈ks:=by rw[getD_eq_getElem?_getD,List.getElem?_eq_getElem hjl];exact getElem_mem hjl
   rw[h2.other _ (fun e=>hnk (e▸hmem)) (by rw[h.N];exact(h.mem hmem).2.1),h.page j hjl]
  ·obtain rfl:j=ks.length:=by omega
   rw[show(ks++[n]).getD ks.length 0=n by simp,show(ps++[((t,[],d):Page)]:List Page).getD ks.length xl=(t,[],d) by rw[<- h.len];simp];exact h2.page
 ·simp only [mem_append,mem_singleton,not_or]at hks;rw[h2.other k hks.2 (by rw[h.N];exact hk),h.other k hk hks.1]
 ·rw[h2.now,yn,h.now k];have hnl:n<Si.now.length:=by have:=h2.lt;rw[h.good.ok.now];exact this
  by_cases hkn:n=k
  ·subst hkn;rw[if_pos ⟨rfl,hnl⟩,if_pos (by simp)]
  ·rw[if_neg (fun e=>hkn e.1)]
   by_cases hk:k∈ks
   ·rw[if_pos hk,if_pos (mem_append_left _ hk)]
   ·rw[if_neg hk,if_neg (fun e=>by rcases mem_append.1 e with e|e;exact hk e;exact hkn (mem_singleton.1 e).symm)]
 ·rw[h2.now,length_set];exact h.nlen
 ·rw[h2.pen,h.pen,length_append,length_singleton];omega
 ·simp only [mem_append,mem_singleton,not_or]at hks;rw[h2.read k h0 (by rw[h.N];exact hk) (by omega),h.read k h0 hk hks.1]
theorem zhV {S:Spa} {R:List Nat} {p:Page} (h:Good S (p.2.1++R)) (ht:3<=p.1.toNat) (hk:(p.2.1.length:Int)<=S.room 0 / 4) (hd:(p.2.2.size:Int)<=S.room p.2.1.length) (hfree:S.zY<=S.sup.pages.length):S.put p=(S,0,9):=by
 have hdim:=h.dims;have hsz:=hdim.size;have hr0:S.room 0=S.sup.size-18:=by unfold Spa.room;rw[hdim.room,if_neg (by omega)];omega
 have hku:∀ k∈p.2.1,zE S.sup.pages S.now k=true:=fun k hk=>h.well.root k (mem_append_left _ hk);have hE0:S.jQ p=9:=by
  unfold Spa.jQ;rw[if_neg,if_neg,if_neg,if_pos hfree]
  ·rintro(e|e)<;>omega
  ·rintro⟨k,hk,e⟩;exact(qp h (hku k hk)).2.1 e
  ·rintro(e|e|⟨k,hk,e⟩)
   ·omega
   ·omega
   ·rw[(qp h (hku k hk)).1]at e;cases e
 unfold Spa.put;rw[if_pos (by rw[hE0];simp),hE0]
inductive Drps (ask:Nat->Bool) (pg:PgF):List Nat->List Nat->List Nat->Prop
 |nil (c:List Nat):Drps ask pg c [] c
 |cons {c c1 c' ks:List Nat} {k:Nat} {e:Int}:(ask k=true->Drp ask pg c [k] c1 e)->(ask k=false->c1=c/\e=2)->Drps ask pg c1 ks c'->Drps ask pg c (k::ks) c'
theorem zd3 {ask:Nat->Bool} {pg:PgF}:∀ (ks c:List Nat),ks.Nodup->(∀ k∈ks,ask k=true/\2<=k/\k<c.length/\c.getD k 0=1/\(pg k).2=0/\zR pg k=[])->∃ c',Drps ask pg c ks c'/\c'.length=c.length/\∀ k,c'.getD k 0=if k∈ks then 0 else c.getD k 0
 |[],c,_,_=>⟨c,.nil c,rfl,fun k=>by simp⟩
 |a::t,c,hnd,h=>by
  obtain⟨h1,h2,h3,h4,h5,h6⟩:=h a mem_cons_self;obtain⟨hat,hnd⟩:=nodup_cons.1 hnd;have ea:atE c a=0:=by unfold atE;rw[if_neg (by omega),if_neg (by omega)]
  have es:xB c a=c.set a 0:=by unfold xB;rw[if_pos ea,h4]
  obtain⟨c',g1,g2,g3⟩:=zd3 t (c.set a 0) hnd (fun k hk=>by
   obtain⟨k1,k2,k3,k4,k5,k6⟩:=h k (mem_cons_of_mem _ hk)
   refine⟨k1,k2,by rw[length_set];exact k3,?_,k5,k6⟩
   rw[yn,if_neg (show ¬(a=k/\k<c.length) from fun e=>hat (e.1▸hk))]
   exact k4)
  refine⟨c',.cons (c1:=c.set a 0) (e:=0) (fun _=>.last h4 h1 h5 (by rw[h6,es];exact .nil _)) (fun e=>by rw[h1]at e;cases e) g1,by rw[g2,length_set],fun k=>?_⟩;rw[g3 k,yn]
  by_cases hk:k∈t
  ·rw[if_pos hk,if_pos (mem_cons_of_mem _ hk)]
  ·rw[if_neg hk]
   by_cases hak:a=k
   ·subst hak;rw[if_pos ⟨rfl,h3⟩,if_pos mem_cons_self]
   ·rw[if_neg (fun e=>hak e.1),if_neg (fun e=>by rcases mem_cons.1 e with e|e;exact hak e.symm;exact hk e)]
theorem zi2 (S:Spa):S.yk.Nodup:=by
 unfold Spa.yk;exact List.Pairwise.filter _ List.nodup_range
theorem Puts.undo {S Si:Spa} {R ks:List Nat} {ps:List Page} (h:Puts S Si R ks ps) (h0:Good S R) (hp:∀ j,j<ks.length->(ps.getD j xl).2.1=[]):
  ∃ c',Drps Si.asked Si.page Si.now ks c'/\c'=S.now/\Good { Si with now:=c' } R:=by
 have hnd:ks.Nodup:=by
  have:=zi2 S;rw[h.free]at this;exact(List.nodup_append.1 this).1
 have hkl:∀ k∈ks,∃ j,j<ks.length/\ks.getD j 0=k:=fun k hk=>by
  obtain⟨j,hj,e⟩:=mem_iff_getElem.1 hk;exact⟨j,hj,by rw[getD_eq_getElem?_getD,List.getElem?_eq_getElem hj];exact e⟩
 obtain⟨c',g1,g2,g3⟩:=zd3 (ask:=Si.asked) (pg:=Si.page) ks Si.now hnd (fun k hk=>by
  obtain⟨m1,m2,m3,m4⟩:=h.mem hk
  obtain⟨j,hj,e⟩:=hkl k hk
  have hpj:=h.page j hj
  rw[e]at hpj
  refine⟨vd.2 ⟨m1,by rw[h.N];exact m2,by rw[h.sup];exact m4⟩,m1,by rw[h.good.ok.now,h.N];exact m2,by rw[h.now k,if_pos hk],by rw[hpj],by unfold zR;rw[hpj];exact hp j hj⟩)
 have ec:c'=S.now:=by
  refine qL (by rw[g2,h.nlen]) (fun k=>?_);rw[g3 k,h.now k]
  by_cases hk:k∈ks
  ·rw[if_pos hk];have:=(zU.1 (h.mem hk).2.2.1).1;omega
  ·rw[if_neg hk,if_neg hk]
 refine⟨c',g1,ec,?_⟩;rw[ec];refine h.good.kD (by rw[h.nlen]) ?_;rw[h.N,h.sup];refine h0.well.zap (fun m hm=>?_);refine h.other m (h0.well.lt hm) (fun hk=>?_);have:=(zU.1 (h.mem hk).2.2.1).1;have:=(zC.1 hm).2.2;omega
def nparts (r len:Nat):Nat:=(len+r-1) / r
def part (r:Nat) (b:ByteArray) (i:Nat):ByteArray:=b.extract (i*r) (min b.size ((i+1)*r))
def uc (r:Nat) (b:ByteArray) (n:Nat):List Page:=(List.range n).map fun i=>((7:UInt8),[],part r b i)
theorem zkF (r:Nat) (b:ByteArray) (n:Nat):uc r b (n+1)=uc r b n++[((7:UInt8),[],part r b n)]:=by simp[uc,range_succ]
theorem zaJ {r len i:Nat} (hr:1<=r):i<nparts r len↔i*r<len:=zaf hr
theorem zdb {r:Nat} {b:ByteArray} {i:Nat} (hr:1<=r) (h:i<nparts r b.size):(part r b i).size=min r (b.size-i*r)/\1<=(part r b i).size:=by
 have:=(zaJ hr).1 h;unfold part;rw[ByteArray.size_extract];have e:(i+1)*r=i*r+r:=by rw[Nat.add_mul,Nat.one_mul]
 rw[e];omega
theorem zfb {r:Nat} (hr:1<=r) (b:ByteArray):∀ n,n<=nparts r b.size->((List.range n).flatMap fun i=>B (part r b i))=(B b).take (n*r)
 |0,_=>by simp
 |n+1,h=>by
  have ih:=zfb hr b n (by omega);rw[range_succ,flatMap_append,ih];have hlt:=(zaJ (r:=r) (len:=b.size) (i:=n) hr).1 (by omega);have e:(n+1)*r=n*r+r:=by rw[Nat.add_mul,Nat.one_mul]
  simp only [flatMap_cons,List.flatMap_nil,append_nil];unfold part;rw[jO,e,List.take_add];congr 1;have hl:(B b).length=b.size:=(yu b).symm;rcases Nat.le_total b.size (n*r+r) with hh|hh
  ·rw[Nat.min_eq_left hh,take_of_length_le (by rw[length_drop];omega),take_of_length_le (by rw[length_drop];omega)]
  ·rw[Nat.min_eq_right hh,show n*r+r-n*r=r by omega]
def Spa.r0 (S:Spa):Nat:=(S.room 0).toNat
def qF (r:Nat):Nat:=min 65536 ((r-4) / 4*r)
structure Blob (S:Spa) (n:Nat) (b:ByteArray) (ks:List Nat):Prop where
 idx:S.get n=(((6:UInt8),ks,mkB (le 4 b.size)),0)
 len:ks.length=nparts S.r0 b.size
 data:∀ i,i<ks.length->S.get (ks.getD i 0)=(((7:UInt8),[],part S.r0 b i),0)
 most:b.size<=qF S.r0
end V
/- Spaces that are well,and blobs;what may have changed is told by Kept:plain. -/
namespace V
open Go Go.Proofs Go.RowKit Crc
end V
/- Trees of at most two levels:plain. -/
namespace V
open Go Go.Proofs Go.RowKit Crc
structure Mk (S S':Spa) (ks:List Nat):Prop where
 sup:S'.sup=S.sup
 held:S'.held=S.held
 mark:S'.mark=S.mark
 slot:S'.slot=S.slot
 dim:S'.dev.size=S.dev.size/\S'.dev.blocks=S.dev.blocks
 yk:S.yk=ks++S'.yk
 now:∀ k,S'.now.getD k 0=if k∈ks then 1 else S.now.getD k 0
 other:∀ k,k<S.N->k∉ks->S'.page k=S.page k
 read:∀ k:Int,0<=k->k<S.N->k.toNat∉ks->(S'.dev.read k).1=(S.dev.read k).1
 pen:S'.dev.pen.length=S.dev.pen.length+ks.length
theorem Mk.refl (S:Spa):Mk S S []:=⟨rfl,rfl,rfl,rfl,⟨rfl,rfl⟩,rfl,fun k=>by simp,fun _ _ _=>rfl,fun _ _ _ _=>rfl,rfl⟩
theorem Mk.N {S S':Spa} {ks:List Nat} (h:Mk S S' ks):S'.N=S.N:=by unfold Spa.N;rw[h.sup]
theorem Mk.trans {S S1 S2:Spa} {ks ls:List Nat} (h:Mk S S1 ks) (g:Mk S1 S2 ls):Mk S S2 (ks++ls):=by
 have hN:=h.N;refine⟨g.sup.trans h.sup,g.held.trans h.held,g.mark.trans h.mark,g.slot.trans h.slot,⟨g.dim.1.trans h.dim.1,g.dim.2.trans h.dim.2⟩,by rw[h.yk,g.yk,append_assoc],fun k=>?_,fun k hk hn=>?_,fun k h0 hk hn=>?_,by rw[g.pen,h.pen,length_append,Nat.add_assoc]⟩
 ·rw[g.now,h.now]
  by_cases e1:k∈ls
  ·rw[if_pos e1,if_pos (mem_append_right _ e1)]
  ·rw[if_neg e1]
   by_cases e2:k∈ks
   ·rw[if_pos e2,if_pos (mem_append_left _ e2)]
   ·rw[if_neg e2,if_neg (fun e=>by rcases mem_append.1 e with e|e;exact e2 e;exact e1 e)]
 ·rw[mem_append,not_or]at hn;rw[g.other k (by omega) hn.2,h.other k hk hn.1]
 ·rw[mem_append,not_or]at hn;rw[g.read k h0 (by omega) hn.2,h.read k h0 hk hn.1]
theorem kg.mk_ {S S':Spa} {p:Page} {n:Nat} (h:kg S S' p n) (hl:S.now.length=S.N):Mk S S' [n]:=by
 refine⟨h.sup,h.held,h.mark,h.slot,h.dim,h.yk,fun k=>?_,fun k hk hn=>h.other k (fun e=>hn (by simp[e])) hk,fun k h0 hk hn=>h.read k h0 hk (fun e=>hn (by simp[e])),h.pen⟩;have:=h.lt;rw[h.now,yn,hl]
 by_cases e:k=n
 ·subst e;rw[if_pos ⟨rfl,this⟩,if_pos (mem_singleton.2 rfl)]
 ·rw[if_neg (fun e'=>e e'.1.symm),if_neg (fun e'=>e (mem_singleton.1 e'))]
theorem Puts.mk_ {S Si:Spa} {R ks:List Nat} {ps:List Page} (h:Puts S Si R ks ps):Mk S Si ks:=
 ⟨h.sup,h.held,h.mark,h.slot,h.dim,h.free,h.now,h.other,h.read,h.pen⟩
theorem Mk.free {S S':Spa} {ks:List Nat} (h:Mk S S' ks):S.zY=S'.zY+ks.length:=by
 unfold Spa.zY;rw[h.yk,length_append];omega
theorem Mk.mem {S S':Spa} {ks:List Nat} (h:Mk S S' ks) {k:Nat} (hk:k∈ks):k<S.N/\2<=k/\S.yG k=true:=uj.1 (by rw[h.yk];exact mem_append_left _ hk)
theorem Mk.used {S S':Spa} {ks R:List Nat} (h:Mk S S' ks) (hg:Good S R) {k:Nat} (hu:zE S.sup.pages S.now k=true):S'.page k=S.page k/\S'.now.getD k 0=S.now.getD k 0/\k∉ks:=by
 have hn:k∉ks:=fun hk=>by
  have:=(zU.1 (h.mem hk).2.2).1;have:=(zC.1 hu).2.2;omega
 exact⟨h.other k (hg.well.lt hu) hn,by rw[h.now,if_neg hn],hn⟩
theorem Mk.room {S S':Spa} {ks:List Nat} (h:Mk S S' ks) (k:Int):S'.room k=S.room k:=by unfold Spa.room;rw[h.sup]
theorem Mk.r0 {S S':Spa} {ks:List Nat} (h:Mk S S' ks):S'.r0=S.r0:=by unfold Spa.r0;rw[h.room]
abbrev Nd:=UInt8×List Nat×List Nat×List Nat
def k8B (l:List Nat):List UInt8:=l.flatMap (le 8)
theorem uF:∀ l:List Nat,(k8B l).length=8*l.length
 |[]=>rfl
 |x::r=>by
  have:=uF r;unfold k8B at this ⊢;rw[flatMap_cons,length_append,zA,this,length_cons];omega
def xT:List Nat->Bool
 |[]=>true
 |[_]=>true
 |x::y::r=>decide (x<y)&&xT (y::r)
inductive jc:Page->Nd->Prop
 |refs (ks kids:List Nat):ks.length=kids.length->1<=ks.length->xT ks=true->(∀ k∈ks,k<18446744073709551616)->jc ((5:UInt8),kids,mkB (k8B ks)) ((5:UInt8),ks,[],kids)
 |inner (ks kids:List Nat):ks.length=kids.length->2<=ks.length->xT ks=true->(∀ k∈ks,k<18446744073709551616)->jc ((3:UInt8),kids,mkB (k8B ks)) ((3:UInt8),ks,[],kids)
 |leaf (k v:Nat):k<18446744073709551616->v<18446744073709551616->jc ((4:UInt8),[],mkB (k8B [k,v])) ((4:UInt8),[k],[v],[])
theorem qS:∀ {l:List Nat},xT l=true↔∀ i,i+1<l.length->l.getD i 0<l.getD (i+1) 0
 |[]=>by simp[xT]
 |[_]=>by simp[xT]
 |x::y::r=>by
  have ih:=qS (l:=y::r);simp only [xT,Bool.and_eq_true,decide_eq_true_iff];constructor
  ·rintro⟨h1,h2⟩ i hi;cases i with
   |zero=>exact h1
   |succ i=>exact ih.1 h2 i (by simpa using hi)
  ·intro h;exact⟨h 0 (by simp),ih.2 fun i hi=>h (i+1) (by simpa using hi)⟩
theorem zdc {l:List Nat} (h:xT l=true):∀ (d i:Nat),i+d+1<l.length->l.getD i 0<l.getD (i+d+1) 0
 |0,i,hi=>qS.1 h i hi
 |d+1,i,hi=>Nat.lt_trans (zdc h d i (by omega)) (qS.1 h (i+d+1) (by omega))
theorem zi3 {l:List Nat} (h:xT l=true) (n:Nat):xT (l.take n)=true:=by
 rw[qS]at h ⊢;intro i hi;rw[length_take]at hi;have e:∀ j,j<n->(l.take n).getD j 0=l.getD j 0:=fun j hj=>by rw[getD_eq_getElem?_getD,List.getElem?_take,if_pos hj,<- getD_eq_getElem?_getD]
 rw[e i (by omega),e (i+1) (by omega)];exact h i (by omega)
theorem zi4 {l:List Nat} (h:xT l=true) (n:Nat):xT (l.drop n)=true:=by
 rw[qS]at h ⊢;intro i hi;rw[length_drop]at hi;have e:∀ j,(l.drop n).getD j 0=l.getD (n+j) 0:=fun j=>by rw[getD_eq_getElem?_getD,List.getElem?_drop,<- getD_eq_getElem?_getD]
 rw[e i,e (i+1)];exact h (n+i) (by omega)
def jB (S:Spa) (n:Nat) (ks vs:List Nat):Prop:=S.page n=(((5:UInt8),vs,mkB (k8B ks)),0)/\ks.length=vs.length/\1<=ks.length/\xT ks=true/\∀ k∈ks,k<18446744073709551616
inductive jC (S:Spa) (n:Nat) (ks vs:List Nat):Prop
 |one:jB S n ks vs->jC S n ks vs
 |two (m a b:Nat):1<=m->m<ks.length->ks.length=vs.length->xT ks=true->(∀ k∈ks,k<18446744073709551616)->S.page n=(((3:UInt8),[a,b],mkB (k8B [ks.getD 0 0,ks.getD m 0])),0)->
   jB S a (ks.take m) (vs.take m)->jB S b (ks.drop m) (vs.drop m)->jC S n ks vs
theorem jB.ok {S:Spa} {n:Nat} {ks vs:List Nat} (h:jB S n ks vs):jc (S.page n).1 ((5:UInt8),ks,[],vs):=by
 rw[h.1];exact jc.refs ks vs h.2.1 h.2.2.1 h.2.2.2.1 h.2.2.2.2
theorem jB.keep {S S':Spa} {n:Nat} {ks vs:List Nat} (h:jB S n ks vs) (e:S'.page n=S.page n):jB S' n ks vs:=by
 unfold jB;rw[e];exact h
theorem jC.len {S:Spa} {n:Nat} {ks vs:List Nat} (h:jC S n ks vs):ks.length=vs.length:=by
 cases h with
 |one h=>exact h.2.1
 |two m a b h1 h2 h3=>exact h3
theorem jC.keep {S S':Spa} {n:Nat} {ks vs:List Nat} (h:jC S n ks vs) (hp:∀ k,k=n\/k∈zR S.page n->S'.page k=S.page k):jC S' n ks vs:=by
 cases h with
 |one h=>exact .one (h.keep (hp n (.inl rfl)))
 |two m a b h1 h2 h3 h4 h5 h6 h7 h8=>
  have hk:zR S.page n=[a,b]:=by unfold zR;rw[h6]
  rw[hk]at hp;exact .two m a b h1 h2 h3 h4 h5 ((hp n (.inl rfl)).trans h6) (h7.keep (hp a (.inr (by simp)))) (h8.keep (hp b (.inr (by simp))))
end V
/- Contracts of the package tree:words,parse,get. -/
namespace V
open Go Go.Proofs Go.RowKit Crc
theorem kT:qm prog 138 40 (.int .u64 0) 1 8:=⟨by kernel_rfl,by kernel_rfl,by kernel_rfl⟩
theorem zjG:∀ (ks:List Nat) (i:Nat),i<ks.length->((k8B ks).drop (8*i)).take 8=le 8 (ks.getD i 0)
 |[],i,h=>by simp at h
 |k::r,0,h=>by
  unfold k8B;rw[flatMap_cons,Nat.mul_zero,List.drop_zero,take_left' (zA 8 k)];rfl
 |k::r,i+1,h=>by
  have ih:=zjG r i (by simpa using h);unfold k8B at ih ⊢;rw[flatMap_cons,show 8*(i+1)=8+8*i by omega,<- drop_drop,drop_left' (zA 8 k),ih];rfl
theorem zi5 {w:World} {s:ByteArray} {ks:List Nat} (hs:B s=k8B ks) (h64:∀ k∈ks,k<18446744073709551616) (hn:ks.length<=10000):
  Calls prog 182 #[.string s] w (Ret fun v w'=>∃ A c,v=.tuple #[.slice A ks.length c,.bool true]/\Owni (zw .u64) 40 w' w.heap.size A ks.length c ks/\Ext w w'):=by
 have hss:s.size=8*ks.length:=by rw[yu,hs,uF]
 apply znG;unfold S182;refine zp fun r1 w1 hb1 he1 hr1 hz1=>?_;refine vk (u:=.string) (e:=5) (by kernel_rfl) (by kernel_rfl) (by kernel_rfl) (by omega) ?_;intro cc w2 hsl he2 hs2 hcc;refine zb (zhy (k:=8) (by omega) hcc (by dsimp only;omega)) ?_;rintro v w3 ⟨hit,hRc,hs3,he3⟩;refine⟨v,rfl,?_⟩;dsimp only at hit hRc;have he:=(he1.trans he2).trans he3;have hsl:=hsl.ext he3;have hb1:=hb1.ext (he2.trans he3);have hcn:(qE 1 (some ⟨w1.heap.size,0,none⟩) s.size 8).length=ks.length:=by rw[xR];unfold yC;omega
 refine zbk (R:=zdw w2.heap.size (w2.heap.size+1) (some ⟨w1.heap.size,0,none⟩) s.size cc 8) (fun i w'=>Ext w w'/\zdw w2.heap.size (w2.heap.size+1) (some ⟨w1.heap.size,0,none⟩) s.size cc 8 w'/\Sl w' (some ⟨w1.heap.size,0,none⟩) s.size (bV (B s))/\∃ A c,Blk w' r1 [.slice A i c] 138/\Owni (zw .u64) 40 w' (w3.heap.size+2) A i c (ks.take i)) hit (fun i w' hI=>hI.2.1) (fun i w' hI=>⟨hI.1.drew,hI.2⟩) ?_ ?_ ?_ ?_
 ·rintro i w' w'' hsb ⟨e1,⟨e2,e3⟩,e6,A,c,e4,e5⟩;have hkeep:∀ j:Nat,j<w3.heap.size->w''.heap[j]?=w'.heap[j]?:=fun j hj=>hsb.2.2.2.2 j (by omega) (by omega);refine⟨e1.qi hsb (by omega) (by omega),⟨(hkeep _ (by omega)).trans e2,(hkeep _ (by omega)).trans e3⟩,⟨e6.1,e6.2.1,fun hn=>?_⟩,A,c,(hkeep _ (by omega)).trans e4,e5.qi hsb (by omega) (by omega)⟩;obtain⟨a,ha,hcell⟩:=e6.2.2 hn;refine⟨a,ha,fun j v hj=>?_⟩;injection ha with ha
  subst ha;have:=hcell j v hj;rw[zx]at this ⊢;simp only [World.cell?]at this ⊢;rw[hkeep _ (by omega)];exact this
 ·intro o;have hx:=((Ext.refl w3).alloc (.deferred (some []))).alloc o;exact⟨he.trans hx,⟨hRc.1.ext hx,hRc.2.ext hx⟩,hsl.ext hx,none,0,hb1.ext hx,Owni.nil _ _ _⟩
 ·rintro i hi w' N jump ⟨e1,⟨e2,e3⟩,e6,A,c,e4,e5⟩ hsz' hN;rw[hcn]at hi;have hcut:(qE 1 (some ⟨w1.heap.size,0,none⟩) s.size 8)[i]'(by rw[hcn];exact hi)=[.slice (zk (some ⟨w1.heap.size,0,none⟩) (i*8) (i*8+8) 1) 8 8]:=by
   have:min 8 (s.size-i*8)=8:=by omega
   simp[qE,this]
  refine⟨((zk (some ⟨w1.heap.size,0,none⟩) (i*8) (i*8+8) 1,8,8),()),hcut.symm,?_⟩;dsimp only;have hsub:=e6.cut (l:=i*8) (k:=8) (m:=i*8+8) (by omega) (by omega);rw[vJ,jm,hs,Nat.mul_comm i 8,zjG ks i hi,Nat.mul_comm 8 i]at hsub;refine zN fun w4 he4 hz4 hh4=>?_;have f4:=e4.ext he4;have f5:=e5.ext he4;refine zn (x:=(A,i,c)) f4 (by rfl) ?_;refine zb (qZ (hsub.ext he4) (by omega)) ?_;rintro _ w5 ⟨rfl,he5⟩;have hk:ks.getD i 0<18446744073709551616:=by
   rw[getD_eq_getElem?_getD,List.getElem?_eq_getElem hi];exact h64 _ (getElem_mem _)
  refine⟨_,rfl,?_⟩;rw[zae,Nat.mod_eq_of_lt (by exact hk)];have f4:=f4.ext he5;have f5:=f5.ext he5;refine xz (ym f4 rfl) ?_;have he45:=he4.trans he5;have hz45:=he45.size;refine zp fun r12 w6 hb6 he6 hr6 hz6=>?_;refine xz (ym (f4.ext he6) rfl) ?_;have f4:=f4.ext he6;have f5:=f5.ext he6;have hx:Sli (zw .u64) w6 (some ⟨r12,0,none⟩) 1 [ks.getD i 0]:=Sli.xw (E:=zw .u64) (xs:=[ks.getD i 0]) hb6 rfl (by omega);refine xp kT f5 (by omega) hx (by dsimp only;omega) (by omega) ?_;intro A2 c2 w7 ho7 hg7 _;have hr1l:r1<w3.heap.size:=by have:=hb1.lt;omega
  have f4:Blk w7 r1 _ _:=f4.grown hg7.grown (fun hh=>by have:=f5.row _ hh.symm;omega);refine zX f4 (by simp) ?_;have hset:=f4.set 0 (.slice A2 (i+1) c2);have he46:=he45.trans he6;have e7:Ext w w7:=(e1.trans he46).grown hg7.grown (fun j hj=>by have:=f5.row j hj;omega);have hx7:∀ k,k<w3.heap.size+2->w7.heap[k]?=w'.heap[k]?:=fun k hk=>by
   rw[hg7.grown.block k (by omega) (fun hh=>by have:=f5.row _ hh.symm;omega)];exact he46.block k (by omega)
  have hx8:∀ k,k<w3.heap.size+2->k≠r1->(w7.setCell ⟨r1,0,none⟩ (.slice A2 (i+1) c2)).heap[k]?=w'.heap[k]?:=fun k hk hne=>by
   rw[Below.heap_setCell _ _ _ _ (fun e=>hne e)];exact hx7 k hk
  have hg8:=hg7.grown.size;refine hN _ ⟨e7.set (by simp only;omega) _,⟨?_,?_⟩,⟨e6.1,e6.2.1,fun hn=>?_⟩,A2,c2,hset,?_⟩ ?_ ?_
  ·exact(hx8 _ (by omega) (by omega)).trans e2
  ·exact(hx8 _ (by omega) (by omega)).trans e3
  ·obtain⟨a,ha,hcell⟩:=e6.2.2 hn;refine⟨a,ha,fun j v hj=>?_⟩;injection ha with ha
   subst ha;have:=hcell j v hj;rw[zx]at this ⊢;simp only [World.cell?]at this ⊢;rw[hx8 _ (by omega) (by omega)];exact this
  ·have e9:ks.take (i+1)=ks.take i++[ks.getD i 0]:=by
    rw[take_succ_eq_append_getElem hi,getD_eq_getElem?_getD,List.getElem?_eq_getElem hi];rfl
   rw[e9];refine ho7.grown (row:=some r1) ⟨rfl,rfl,rfl,by simp,fun k hk hne=>Below.heap_setCell _ _ _ _ (fun e=>hne (by rw[e]))⟩ (fun j hj he=>?_);injection hj with hj
   have:=ho7.row _ he;omega
  ·have:=he46.size;simp;omega
  ·intro k hk;exact hx8 k (by omega) (by omega)
 ·rintro w' ⟨e1,⟨e2,e3⟩,e6,A,c,e4,e5⟩ hsz' hd;rw[hcn]at e4 e5;rw[take_of_length_le (by omega)]at e5;have hr1l:r1<w3.heap.size:=by have:=hb1.lt;omega
  show(ldW _ _ _) w';refine zn (x:=(A,ks.length,c)) e4 (by rfl) ?_;dsimp only;refine zX e4 (by simp) ?_;have hset:=e4.set 0 (.slice A ks.length c);refine jn (by rw[Below.heap_setCell _ _ _ _ (by simp only;omega)];exact hd) ?_;refine zn (x:=(A,ks.length,c)) (show Blk _ r1 [.slice A ks.length c] 138 from(zZ (by omega)).trans hset) (by rfl) ?_;refine⟨A,c,?_,?_,(e1.set (by simp only;omega) _).yP (by omega) _⟩
  ·rw[show Int.tmod ((s.size:Nat):Int) 8=0 by rw[hss,show((8*ks.length:Nat):Int)=8*(ks.length:Int) by omega,Int.mul_tmod_right]];rfl
  have e6:=e5.grown (w':=w'.setCell ⟨r1,0,none⟩ (.slice A ks.length c)) (row:=some r1) ⟨rfl,rfl,rfl,by simp,fun k hk hne=>Below.heap_setCell _ _ _ _ (fun e=>hne (by rw[e]))⟩ (fun j hj he=>by
   injection hj with hj
   have:=e5.row _ he
   omega)
  have e7:Owni (zw .u64) 40 (yP (w'.setCell ⟨r1,0,none⟩ (.slice A ks.length c)) w3.heap.size (.deferred none)) (w3.heap.size+2) A ks.length c ks:=
   e6.qi (yb (b:=w3.heap.size) (.inl rfl)) (by omega) (by omega)
  exact e7.lower (by omega)
end V
/- Contracts of the package tree:parse. -/
namespace V
open Go Go.Proofs Go.RowKit Crc
theorem Owni.sDf {α:Type} {E:Enc α} {e:TypeId} {Bd:Nat} {w w':World} {B:Nat} {A:Option Addr} {n c:Nat} {xs:List α} (h:Owni E e w B A n c xs) (hs:ze0 Bd w w'):Owni E e w' B A n c xs:=by
 refine⟨h.1,?_⟩;rcases h.2 with hn|⟨g,cap,cur,hv,hb,hgg,rest⟩
 ·exact .inl hn
 ·exact .inr ⟨g,cap,cur,hv,hb,(hs.2.2.2.2 g (.inr (by rw[hgg];simp))).trans hgg,rest⟩
def ndV (t:UInt8) (x y z:SLC):List Value:=[.int .u8 (t.toNat:Int),.slice x.1 x.2.1 x.2.2,.slice y.1 y.2.1 y.2.2,.slice z.1 z.2.1 z.2.2]
abbrev jd:List Lf:=[.int .u8,.slc,.slc,.slc]
def ndT (t:UInt8) (x y z:SLC):Int×SLC×SLC×SLC×Unit:=((t.toNat:Int),x,y,z,())
theorem jq (t:UInt8) (x y z:SLC):∀ v∈ndV t x y z,v.oneCell'=true:=by
 intro v hv;simp only [ndV,mem_cons,not_mem_nil,or_false]at hv;rcases hv with rfl|rfl|rfl|rfl<;>rfl
def zb2 (r1 r2:Nat) (A:Option Addr) (n c k:Nat):WP:=fun w=>Blk w r1 [.slice A n c] 138/\Blk w r2 [.int .i64 (k:Int)] 3
theorem zgO {w:World} {A:Option Addr} {n c k:Nat} (hk:1<=k) (hnc:n<=c) (hnk:n+k<=9223372036854775807):Calls prog 183 #[.slice A n c,.int .i64 (k:Int)] w (Ret fun v w'=>Iter prog v (qE 1 A n k) (zb2 w.heap.size (w.heap.size+1) A n c k)/\zb2 w.heap.size (w.heap.size+1) A n c k w'/\w'.heap.size=w.heap.size+2/\Ext w w'):=by
 apply znH;unfold S183;refine zp fun r1 w1 hb1 he1 hr1 hz1=>?_;refine zp fun r2 w2 hb2 he2 hr2 hz2=>?_;subst hr1;have hr2:w.heap.size+1=r2:=by omega
 subst hr2;refine zn (x:=(k:Int)) hb2 (by rfl) ?_;refine zd (decide_eq_false (by omega)) ?_;refine⟨⟨_,_,rfl,by kernel_rfl,fun l J w' hJ hR hd hY=>?_⟩,⟨hb1.ext he2,hb2⟩,by omega,he1.trans he2⟩;apply znJ;exact zbQ (P:=prog) hk hnc hnk hJ hR hd hY
structure za1 (w:World) (N:Nat) (d:Nd) (x y z:SLC):Prop where
 ks:Owni (zw .u64) 40 w N x.1 x.2.1 x.2.2 d.2.1
 vs:Owni (zw .u64) 40 w N y.1 y.2.1 y.2.2 d.2.2.1
 kids:Sli (zw .u32) w z.1 z.2.1 d.2.2.2
theorem zi6 {w:World} {p:Page} {d:Nd} {y:SLC} (hd:jc p d) (hs:Sli (zw .u32) w y.1 y.2.1 p.2.1) (hn:d.2.1.length<=5000):
  Calls prog 176 #[.agg (pgV p y).toArray] w (Ret fun v w'=>∃ x z,v=.tuple #[.agg (ndV d.1 x z y).toArray,.int .i64 0]/\za1 w' w.heap.size d x z y/\Ext w w'):=by
 apply znA;unfold S176;refine zp fun r1 w1 hb1 he1 hr1 hz1=>?_;refine zp fun r2 w2 hb2 he2 hr2 hz2=>?_;have hb1:Blk w2 r1 (pgV p y) 49:=hb1.ext he2;refine zm 2 p.2.2 hb1 (by rfl) ?_;have hkid:d.2.2.2=p.2.1:=by cases hd<;>rfl
 obtain⟨ks0,hks0,hB,hk64,hk0⟩:∃ ks0:List Nat,ks0=d.2.1++d.2.2.1/\B p.2.2=k8B ks0/\(∀ k∈ks0,k<18446744073709551616)/\ks0.length<=5000:=by
  cases hd with
  |refs ks kids h1 h2 h3 h4=>exact⟨ks,by simp,xC _,h4,hn⟩
  |inner ks kids h1 h2 h3 h4=>exact⟨ks,by simp,xC _,h4,hn⟩
  |leaf k v h1 h2=>exact⟨[k,v],rfl,xC _,fun q hq=>by
    simp only [mem_cons,not_mem_nil,or_false]at hq
    rcases hq with rfl|rfl
    ·exact h1
    ·exact h2,by simp⟩
 refine zb (zi5 hB hk64 (by omega)) ?_;rintro _ w3 ⟨A,c,rfl,ho,he3⟩;refine⟨((A,ks0.length,c),true,()),rfl,?_⟩;have hb1:=hb1.ext he3;have hb2:=hb2.ext he3;refine zJ ((p.1.toNat:Nat):Int) hb1 (by rfl) ?_;refine zm 1 y hb1 (by rfl) ?_;dsimp only;have hlt1:=hb1.lt;have hlt2:=hb2.lt;have hs2:=he2.size;have hs3:=he3.size;have he:=(he1.trans he2).trans he3;refine refill (vs:=ndV p.1 (A,ks0.length,c) (none,0,0) y) hb2 (by rfl) (jq _ _ _ _) (by rfl) ?_;intro w4 hb2 hx4 hk4 hz4;have he4:Ext w w4:=hx4 w he (by omega);have hb1:Blk w4 r1 (pgV p y) 49:=(hk4 r1 (by omega)).trans hb1;have ho4:Owni (zw .u64) 40 w4 (r2+1) A ks0.length c ks0:=by
  refine(ho.only (F:=fun k=>k=r2) ⟨?_,?_,?_,Nat.le_of_eq hz4.symm,fun k _ hk=>hk4 k hk⟩ (fun j hj e=>by have:=ho.row j hj;have:j=r2:=e;omega)).lower (by omega)
  ·exact(hx4 w he (by omega)).os.trans he.os.symm
  ·exact(hx4 w he (by omega)).tape.trans he.tape.symm
  ·exact(hx4 w he (by omega)).output.trans he.output.symm
 have hs4:=hs.ext he4;have hsn:=hs.len;refine yq (fun(t:Bool×Int×List Deferred×Unit) w'=>∃ (x z:SLC) (m:Nat),t=(true,(m:Int),t.2.2.1,())/\m<=d.2.1.length/\Ext w w'/\Blk w' r2 (ndV d.1 x z y) 201/\za1 w' (r2+1) d x z y/\Dfs w.heap.size w' t.2.2.1) ?_ (fun J hJ=>?_);rotate_left
 ·refine zJ ((p.1.toNat:Nat):Int) hb1 (by rfl) ?_;cases hd with
  |refs ks kids h1 h2 h3 h4=>
   obtain rfl:ks0=ks:=by rw[hks0];simp
   refine zd (by rfl) (zd (by rfl) (zf (by rfl) (zf (by rfl) ?_)));refine zm 1 y hb1 (by rfl) ?_;refine hJ _ _ ⟨(A,ks0.length,c),(none,0,0),1,?_,h2,he4,hb2,⟨ho4,Owni.nil _ _ _,hs4⟩,trivial⟩;rw[show((((ks0.length:Nat):Int)==((y.2.1:Nat):Int)))=true from beq_iff_eq.2 (by dsimp only at hsn;omega)];rfl
  |inner ks kids h1 h2 h3 h4=>
   obtain rfl:ks0=ks:=by rw[hks0];simp
   refine zd (by rfl) (zf (by rfl) (zf (by rfl) ?_));refine zm 1 y hb1 (by rfl) ?_;refine hJ _ _ ⟨(A,ks0.length,c),(none,0,0),2,?_,h2,he4,hb2,⟨ho4,Owni.nil _ _ _,hs4⟩,trivial⟩;rw[show((((ks0.length:Nat):Int)==((y.2.1:Nat):Int)))=true from beq_iff_eq.2 (by dsimp only at hsn;omega)];rfl
  |leaf k v h1 h2=>
   obtain rfl:ks0=[k,v]:=hks0;refine zf (by rfl) ?_;refine stE (o:=1) hb2 (by rw[zx]) (by show 1<4;omega) ?_;intro w5 hb25 o5;have he5:Ext w w5:=Only.ext he4 o5 (fun j hj=>by have:j=r2:=hj;omega);have hb15:=hb1.only o5 (show ¬r1=r2 by omega);have ho5:=ho4.only o5 (fun j hj e=>by have:=ho4.row j hj;have:j=r2:=e;omega);have hA:=ho5.le;refine zb (zgO (k:=2) (by omega) (show 2<=c from hA.1) (by omega)) ?_;rintro vv w6 ⟨hit,hRc,hs6,he6⟩;refine⟨vv,rfl,?_⟩;dsimp only at hit hRc hb25;have hb26:=hb25.ext he6;have hb16:=hb15.ext he6;have ho6:=ho5.ext he6;have hw5:=he5.size;have hl25:=hb25.lt;have hl15:=hb15.lt;have hAl:∀ j,orow A=some j->j<w5.heap.size:=ho5.ye;have hcn:(qE 1 A 2 2).length=1:=by rw[xR];rfl
   refine zbk (R:=zb2 w5.heap.size (w5.heap.size+1) A 2 c 2) (fun i w'=>Ext w w'/\zb2 w5.heap.size (w5.heap.size+1) A 2 c 2 w'/\Sli (zw .u64) w' A 2 [k,v]/\Blk w' r1 (pgV ((4:UInt8),[],mkB (k8B [k,v])) y) 49/\∃ x z:SLC,(i=0->x=(none,0,0)/\z=(none,0,0))/\True/\Blk w' r2 (ndV 4 x z y) 201/\Owni (zw .u64) 40 w' (w6.heap.size+2) x.1 x.2.1 x.2.2 ([k].take i)/\Owni (zw .u64) 40 w' (w6.heap.size+2) z.1 z.2.1 z.2.2 ([v].take i)) hit (fun i w' hI=>hI.2.1) (fun i w' hI=>⟨hI.1.drew,hI.2⟩) ?_ ?_ ?_ ?_
   ·rintro i w' w'' hsb ⟨e1,⟨e2,e3⟩,e4,e5,x,z,x1,z1,e6,e7,e8⟩;have hkeep:∀ j:Nat,j<w6.heap.size->w''.heap[j]?=w'.heap[j]?:=fun j hj=>hsb.2.2.2.2 j (by omega) (by omega);exact⟨e1.qi hsb (by omega) (by omega),⟨(hkeep _ (by omega)).trans e2,(hkeep _ (by omega)).trans e3⟩,e4.congr (fun a ha=>hkeep _ (by have:=hAl a.block (by rw[ha];rfl);omega)),(hkeep _ (by omega)).trans e5,x,z,x1,z1,(hkeep _ (by omega)).trans e6,e7.qi hsb (by omega) (by omega),e8.qi hsb (by omega) (by omega)⟩
   ·intro o;have hx:=((Ext.refl w6).alloc (.deferred (some []))).alloc o;exact⟨(he5.trans he6).trans hx,⟨hRc.1.ext hx,hRc.2.ext hx⟩,ho6.sl.ext hx,hb16.ext hx,(none,0,0),(none,0,0),fun _=>⟨rfl,rfl⟩,trivial,hb26.ext hx,Owni.nil _ _ _,Owni.nil _ _ _⟩
   ·rintro i hi w' N jump ⟨e1,⟨e2,e3⟩,e4,e5,x,z,x1,z1,e6,e7,e8⟩ hsz' hN;have hi:i<1:=by simpa [xR,yC] using hi
    obtain rfl:i=0:=by omega
    obtain⟨rfl,rfl⟩:=x1 rfl;refine⟨((zk A 0 2 1,2,2),()),by simp[qE],?_⟩;dsimp only;have hsub:=e4.cut (l:=0) (k:=2) (m:=2) (z:=1) rfl (by omega) (by omega);rw[List.drop_zero,take_of_length_le (by simp)]at hsub;refine zN fun w7 he7 hz7 hh7=>?_;refine zm 1 ((none,0,0):SLC) (e6.ext he7) (by rfl) ?_;refine ya (hsub.ext he7) (by omega) (by omega) ?_;refine zp fun r20 w8 hb8 he8 hr8 hz8=>?_;have he78:=he7.trans he8;refine xz (xd (e6.ext he78) rfl) ?_;have hx1:Sli (zw .u64) w8 (some ⟨r20,0,none⟩) 1 [k]:=Sli.xw (E:=zw .u64) (xs:=[k]) hb8 rfl (by omega);refine xp kT (Owni.nil 40 w8 (w6.heap.size+2)) (by have:=he78.size;omega) hx1 (by dsimp only;omega) (by omega) ?_;intro A2 c2 w9 ho9 hg9 _;have he9:Ext w' w9:=he78.none hg9.grown;refine stE (o:=1) (e6.ext he9) (by rw[zx]) (by show 1<4;omega) ?_;intro w10 hb10 o10;have hw9:=he9.size;have he10:∀ q,q<=r2->q<w6.heap.size->True:=fun _ _ _=>trivial;have hl26:=hb26.lt;refine zN fun w11 he11 hz11 hh11=>?_;refine zm 2 ((none,0,0):SLC) (hb10.ext he11) (by rfl) ?_;have hsub11:Sli (zw .u64) w11 (zk A 0 2 1) 2 [k,v]:=((hsub.ext he9).only o10 (fun a ha hh=>by
     have h2:orow A=some a.block:=by
      unfold zk at ha
      rw[if_neg (by omega)]at ha
      cases A with
      |none=>cases ha
      |some a0=>injection ha with ha;rw[<- ha];rfl
     have:=ho4.row _ h2
     have:a.block=r2:=hh
     omega)).ext he11
    rw[show wrap .i64 (((2:Nat):Int)-1)=1 from by decide];refine ya hsub11 (by omega) (by omega) ?_;refine zp fun r25 w12 hb12 he12 hr12 hz12=>?_;have he1112:=he11.trans he12;refine xz (xd (hb10.ext he1112) rfl) ?_;have hx2:Sli (zw .u64) w12 (some ⟨r25,0,none⟩) 1 [v]:=Sli.xw (E:=zw .u64) (xs:=[v]) hb12 rfl (by omega);have hs10:=o10.2.2.2.1;have hs1112:=he1112.size;refine xp kT (Owni.nil 40 w12 (w6.heap.size+2)) (by omega) hx2 (by dsimp only;omega) (by omega) ?_;intro A3 c3 w13 ho13 hg13 _;have he13:Ext w10 w13:=he1112.none hg13.grown;refine stE (o:=2) (hb10.ext he13) (by rw[zx]) (by show 2<4;omega) ?_;intro w14 hb14 o14;have hs13:=he13.size;have hs14:=o14.2.2.2.1;have ho9':Owni (zw .u64) 40 w14 (w6.heap.size+2) A2 1 c2 [k]:=((ho9.only o10 (fun j hj e=>by have:=ho9.row j hj;have:j=r2:=e;omega)).ext he13).only o14 (fun j hj e=>by have:=ho9.row j hj;have:j=r2:=e;omega);have ho13':Owni (zw .u64) 40 w14 (w6.heap.size+2) A3 1 c3 [v]:=ho13.only o14 (fun j hj e=>by have:=ho13.row j hj;have:j=r2:=e;omega);have hall:∀ j,j<w'.heap.size->j≠r2->w14.heap[j]?=w'.heap[j]?:=fun j hj hne=>by
     rw[o14.2.2.2.2 j (by omega) hne,he13.block j (by omega),o10.2.2.2.2 j (by omega) hne,he9.block j hj]
    refine hN _ ⟨Only.ext (Only.ext (e1.trans he9) o10 (fun j hj=>by have:j=r2:=hj;omega) |>.trans he13) o14 (fun j hj=>by have:j=r2:=hj;omega),⟨(hall _ (by omega) (by omega)).trans e2,(hall _ (by omega) (by omega)).trans e3⟩,e4.congr (fun a ha=>?_),(hall _ (by omega) (by omega)).trans e5,(A2,1,c2),(A3,1,c3),fun e=>by omega,trivial,hb14,ho9',ho13'⟩ (by omega) (fun q hq=>hall q (by omega) (by omega));have h2:orow A=some a.block:=by rw[ha];rfl
    have h3:=hAl _ h2;have:=ho4.row _ h2;exact hall _ (by omega) (by omega)
   ·rintro w' ⟨e1,⟨e2,e3⟩,e4,e5,x,z,x1,z1,e6,e7,e8⟩ hsz' hd;rw[show(qE 1 A [k,v].length 2).length=1 by simp[xR,yC]]at e7 e8;show(za _ _ _) w';refine zf (by rfl) (zf (show(Int.tmod ((2:Nat):Int) 2==0)=true by decide) ?_);refine zm 1 y e5 (by rfl) ?_;refine hJ _ _ ⟨x,z,1,?_,by simp,e1,e6,⟨e7.lower (B':=r2+1) (by omega),e8.lower (B':=r2+1) (by omega),hs.ext e1⟩,⟨_,rfl,by omega,hd,by simp,trivial⟩⟩;rw[show(((y.2.1:Nat):Int)==0)=true from beq_iff_eq.2 (by have:0=y.2.1:=hsn;omega)];rfl
 rintro t w5 ⟨x,z,m,et,hm,he5,k2,hN,hD⟩;have hrise:xT d.2.1=true:=by
  cases hd with
  |refs ks kids h1 h2 h3 h4=>exact h3
  |inner ks kids h1 h2 h3 h4=>exact h3
  |leaf k v h1 h2=>rfl
 have hxl:=hN.ks.len;rw[et];dsimp only;refine zy (fun t' w'=>∃ i:Nat,1<=i/\i<=d.2.1.length+1/\t'=(true,(i:Int),())/\Ext w w'/\Blk w' r2 (ndV d.1 x z y) 201/\za1 w' (r2+1) d x z y/\Dfs w.heap.size w' t.2.2.1) (fun t'=>(d.2.1.length+1-t'.2.1).toNat) ⟨1,by omega,by omega,rfl,he5,k2,hN,hD⟩ ?_;rintro _ w6 ⟨i,hi1,hi,rfl,he6,k2,hN,hD⟩;dsimp only;refine zm 1 x k2 (by rfl) ?_
 by_cases hlt:i<x.2.1
 ·refine zf (decide_eq_true (by omega)) ?_;refine zN fun w7 he7 hz7 hh7=>?_;have k27:=k2.ext he7;refine zf rfl ?_;refine zm 1 x k27 (by rfl) ?_;rw[show wrap .i64 ((i:Int)-1)=((i-1:Nat):Int) by rw[wrap_i64 (by omega) (by omega)];omega];refine ya (hN.ks.sl.ext he7) (by omega) (by omega) ?_;refine zm 1 x k27 (by rfl) ?_;refine ya (hN.ks.sl.ext he7) (by omega) (by omega) ?_;rw[Int.toNat_natCast,Int.toNat_natCast];have:=qS.1 hrise (i-1) (by omega);rw[show i-1+1=i by omega]at this;refine⟨⟨i+1,by omega,by omega,?_,he6.trans he7,k27,⟨hN.ks.ext he7,hN.vs.ext he7,hN.kids.ext he7⟩,hD.kept fun k h1 _=>he7.heap h1⟩,?_⟩
  ·rw[show decide (((d.2.1.getD (i-1) 0:Nat):Int)<((d.2.1.getD i 0:Nat):Int))=true from decide_eq_true (by omega),wrap_i64 (by omega) (by omega)];rfl
  ·rw[wrap_i64 (by omega) (by omega)];omega
 ·refine zd (decide_eq_false (by omega)) ?_;refine zd (by rfl) ?_;refine zm 1 x k2 (by rfl) ?_;refine zd (decide_eq_false (by omega)) ?_;refine zS (ls:=jd) (ndT d.1 x z y) k2 (by rfl) ?_;refine refill (vs:=ndV d.1 x z y) k2 (by rfl) (jq _ _ _ _) (by rfl) ?_;intro w7 k27 hx7 hk7 hz7;have he7:Ext w w7:=hx7 w he6 (by omega);have o7:Only (fun k=>k=r2) w6 w7:=⟨he7.os.trans he6.os.symm,he7.tape.trans he6.tape.symm,he7.output.trans he6.output.symm,Nat.le_of_eq hz7.symm,fun k _ hk=>hk7 k hk⟩;have hN7:za1 w7 (r2+1) d x z y:=⟨hN.ks.only o7 (fun j hj e=>by have:=hN.ks.row j hj;have:j=r2:=e;omega),hN.vs.only o7 (fun j hj e=>by have:=hN.vs.row j hj;have:j=r2:=e;omega),hkid▸hs.ext he7⟩;refine zgi _ w7 (hD.kept fun k h1 _=>by
   by_cases e:k=r2
   ·subst e
    have:=k2
    unfold Blk at this
    rw[h1]at this
    cases this
   ·exact(hk7 k e).trans h1) fun w8 hs8=>?_
  refine zS (ls:=jd) (ndT d.1 x z y) (k27.ze1 hs8) (by rfl) ?_;refine⟨x,z,rfl,⟨(hN7.ks.sDf hs8).lower (by omega),(hN7.vs.sDf hs8).lower (by omega),hkid▸hs.ext (he7.ze1 hs8)⟩,he7.ze1 hs8⟩
end V
/- Spaces of one's own:contracts,short. -/
namespace V
open Go Go.Proofs Go.RowKit Crc
def At (w0 w:World) (b db:Nat) (S:Spa):Prop:=∃ F,z6 w b db S F/\(∀ k,F k->w0.heap.size<=k)/\Ext w0 w
variable {w0 w w':World} {b db:Nat} {S:Spa} {R:List Nat}
theorem At.open_ (h:At w0 w b db S):∃ F Fd x hb hr nb nr m,SpM w b db S F Fd x hb hr nb nr m/\(∀ k,F k->w0.heap.size<=k)/\Ext w0 w:=by
 obtain⟨F,⟨Fd,x,hb,hr,nb,nr,m,h⟩,h2,hx⟩:=h;exact⟨F,Fd,x,hb,hr,nb,nr,m,h,h2,hx⟩
theorem At.fit (h:At w0 w b db S):∀ n,S.now.getD n 0<65536:=by
 obtain⟨F,Fd,x,hb,hr,nb,nr,m,h,_⟩:=h.open_;exact fun n=>(zlD h n).1
theorem zlR (h:At w0 w b db S) (hg:Good S []):Calls prog 20 #[.pointer (some ⟨b,0,none⟩),.slice none 0 0] w (Ret fun v w'=>v=.int .i64 0/\Ext w w'):=by
 have hfit:=h.fit;obtain⟨F,Fd,x,hb,hr,nb,nr,m,h',_⟩:=h.open_;obtain⟨d,ys,s',v1,v2,v3,v4⟩:=zkD hg hfit;refine(ziZ h' (x0:=(none,0,0)) (Sli.nil w none) (by simp) (fun a ha=>by cases ha) (fun p hp=>(hg.well.pgs p hp).2.1) v2 v3 v1).mono (Ret.mono ?_);rintro v w' ⟨rfl,he⟩;refine⟨?_,he⟩;rw[if_neg (by simp),if_pos v4]
theorem zg3 {size blocks:Int} (h:yd size blocks=true):vu (zep size blocks):=⟨zjy h,rfl⟩
theorem zlS {w1:World} {d:Dev} {db:Nat} (h:zhD w0 d db w1) (hd:vu d) (hpen:d.pen.length<=800000):
  Calls prog 27 #[.pointer (some ⟨db,0,none⟩)] w1 (Ret fun v w'=>((yR d).2≠0/\v=.tuple #[.pointer none,.int .i64 (yR d).2]/\Ext w0 w')\/((yR d).2=0/\∃ b,v=.tuple #[.pointer (some ⟨b,0,none⟩),.int .i64 0]/\At w0 w' b db (qB d))):=by
 obtain⟨F,h1,h2,hx⟩:=h;refine(zhR h1 hpen).mono (Ret.mono ?_);rintro v w' (⟨q1,rfl,F',q2,q3,q4⟩|⟨q1,b,F',rfl,q2,q3,q4,q5⟩)
 ·exact .inl ⟨q1,rfl,Only.ext hx q4 h2⟩
 ·refine .inr ⟨q1,b,rfl,F',q2,fun k hk=>?_,Only.ext hx q5 h2⟩;rcases q4 k hk with e|e
  ·exact h2 k e
  ·exact Nat.le_trans hx.size e
end V
/- Spaces of one's own,short:Commit,Open,Root,Format of nothing. -/
namespace V
open Go Go.Proofs Go.RowKit Crc
variable {w0 w w':World} {b db:Nat} {S:Spa} {R H:List Nat} {M:Option (List Nat)}
end V
/- Contracts of the package space:Abort,Mark,Back,Done,Gen. -/
namespace V
open Go Go.Proofs Go.RowKit Crc
variable {w w':World} {b db:Nat} {S:Spa} {F Fd:Nat->Prop} {x:SLC} {hb hr nb nr:Nat} {m:MkL}
end V
/- Great spaces:contracts,short,by the blocks that they own. -/
namespace V
open Go Go.Proofs Go.RowKit Crc
variable {w w':World} {b db:Nat} {S:Spa} {F:Nat->Prop} {R H:List Nat} {M:Option (List Nat)}
theorem zjH (h:z6 w b db S F):Calls prog 9 #[.pointer (some ⟨b,0,none⟩)] w (Ret fun v w'=>v=.int .i64 (S.zY:Int)/\Ext w w'):=by
 obtain⟨Fd,x,hb,hr,nb,nr,m,h⟩:=h;exact zdX h
theorem zn9 (h:z6 w b db S F) {n:Nat} (hn:n<4294967296):Calls prog 18 #[.pointer (some ⟨b,0,none⟩),.int .u32 (n:Int)] w (Ret fun v w'=>v=.int .i64 ((S.now.getD n 0:Nat):Int)/\w'=w):=by
 obtain⟨Fd,x,hb,hr,nb,nr,m,h⟩:=h;exact ziU h hn
theorem zfc (h:z6 w b db S F) {n:Nat} (hn:n<4294967296):Calls prog 17 #[.pointer (some ⟨b,0,none⟩),.int .u32 (n:Int)] w (Ret (zg1 w (S.get n))):=by
 obtain⟨Fd,x,hb,hr,nb,nr,m,h⟩:=h;exact vq h hn
def zoa (S S':Spa) (p:Page) (R H:List Nat) (M:Option (List Nat)) (n:Nat) (e:Int):Prop:=
 (e=3/\n=0/\S'=S/\S.room p.2.1.length<(p.2.2.size:Int))\/(e=9/\n=0/\S'=S/\S.zY<=S.sup.pages.length)\/(e=0/\kg S S' p n/\Great S' (n::R) H M/\(∀ q∈S'.dev.pen,q∈S.dev.pen\/q.1=(n:Int))/\S.sup.pages.length<S.zY)
theorem zqp {S:Spa} {p:Page} (h:(S.put p).2.2=0):∀ q∈(S.put p).1.dev.pen,q∈S.dev.pen\/q.1=((S.put p).2.1:Int):=by
 revert h
 unfold Spa.put;split
 ·rename_i hq;intro h;exact absurd h hq
 ·split
  ·rename_i _ hq;intro h;exact absurd h hq
  ·split
   ·rename_i _ _ hq;intro h;exact absurd h hq
   ·intro _ q hq
    revert hq
    dsimp only;unfold yz;split
    ·exact fun hq=>.inl hq
    ·unfold Dev.write;split
     ·exact fun hq=>.inl hq
     ·split
      ·exact fun hq=>.inl hq
      ·intro hq;rcases mem_append.1 hq with e|e
       ·exact .inl e
       ·rw[mem_singleton.1 e];exact .inr rfl
theorem zhW (h:z6 w b db S F) {p:Page} {A:Option Addr} {n c:Nat} (hg:Great S (p.2.1++R) H M) (hpen:S.dev.pen.length<=900000) (hs:Sli (zw .u32) w A n p.2.1) (hA:∀ a,A=some a->¬F a.block) (ht:3<=p.1.toNat) (hk:(p.2.1.length:Int)<=S.room 0 / 4) (hds:p.2.2.size<=1000000000):
  Calls prog 30 #[.pointer (some ⟨b,0,none⟩),.agg (pgV p (A,n,c)).toArray] w (Ret fun v w'=>∃ (S':Spa) (k:Nat) (e:Int),v=.tuple #[.int .u32 (k:Int),.int .i64 e]/\zoa S S' p R H M k e/\yO w b db F S' w'):=by
 obtain⟨Fd,x,hb,hr,nb,nr,m,h'⟩:=h;have hdim:=hg.good.dims;have hN:=hdim.n;have hsz:=hdim.size;have hroom:=hdim.room;have hku:∀ k∈p.2.1,zE S.sup.pages S.now k=true:=fun k hk=>hg.good.well.root k (mem_append_left _ hk);have hr0:S.room 0=S.sup.size-18:=by unfold Spa.room;rw[hroom,if_neg (by omega)];omega
 refine(zbX h' hg.good.h01 (by have:=hg.good.gen;omega) (by omega) p hs (fun k hk=>by
  have:=hg.good.well.lt (hku k hk)
  omega) hA hds).mono (Ret.mono ?_)
 rintro v w' ⟨rfl,hst⟩;refine⟨(S.put p).1,(S.put p).2.1,(S.put p).2.2,rfl,?_,hst⟩;have c1:¬(p.1.toNat<3\/p.2.1.length>65535\/∃ k∈p.2.1,S.asked k=false):=by
  rintro(e|e|⟨k,hk,e⟩)
  ·omega
  ·omega
  ·rw[(qp hg.good (hku k hk)).1]at e;cases e
 have c2:¬ ∃ k∈p.2.1,S.now.getD k 0=0:=by
  rintro⟨k,hk,e⟩;exact(qp hg.good (hku k hk)).2.1 e
 by_cases hd:(p.2.2.size:Int)<=S.room p.2.1.length
 ·by_cases hf:S.sup.pages.length<S.zY
  ·obtain⟨g1,g2,g3⟩:=zlP hg ht hk hd hf;exact .inr (.inr ⟨g1,g2,g3,zqp g1,hf⟩)
  ·have hE:S.jQ p=9:=by
    unfold Spa.jQ;rw[if_neg c1,if_neg c2,if_neg (by rintro(e|e)<;>omega),if_pos (by omega)]
   have hP:S.put p=(S,0,9):=by unfold Spa.put;rw[if_pos (by rw[hE];decide),hE]
   rw[hP];exact .inr (.inl ⟨rfl,rfl,rfl,by omega⟩)
 ·have hE:S.jQ p=3:=by
   unfold Spa.jQ;rw[if_neg c1,if_neg c2,if_pos (.inr (by omega))]
  have hP:S.put p=(S,0,3):=by unfold Spa.put;rw[if_pos (by rw[hE];decide),hE]
  rw[hP];exact .inl ⟨rfl,rfl,rfl,by omega⟩
theorem zfS (h:z6 w b db S F) {n:Nat} (hg:Great S (n::R) H M):Calls prog 14 #[.pointer (some ⟨b,0,none⟩),.int .u32 (n:Int)] w (Ret fun v w'=>v=.int .i64 0/\∃ c':List Nat,Great { S with now:=c' } R H M/\yO w b db F { S with now:=c' } w'/\Drp S.asked S.page S.now [n] c' 0/\∀ k,c'.getD k 0<=S.now.getD k 0):=by
 obtain⟨Fd,x,hb,hr,nb,nr,m,h'⟩:=h;obtain⟨c',d1,d2,d3,d4⟩:=zlO hg.good;have hu:=hg.good.well.root n (by simp);have hnN:=hg.good.well.lt hu;have hN:=hg.good.dims.n;refine(ze8 h' (n:=n) (by omega) (c':=c') (e:=0) (fun _=>d1) (fun e=>by rw[(qp hg.good hu).1]at e;cases e)).mono (Ret.mono ?_);rintro v w' ⟨rfl,hS,hO⟩;exact⟨rfl,c',hg.less d2 d4,⟨F,hS.zc2,fun k hk=>.inl hk,hO⟩,d1,d4⟩
theorem zhX (h:z6 w b db S F) {n:Nat} (hg:Great S R H M) (hu:zE S.sup.pages S.now n=true) (h6:S.now.getD n 0<65535):
  Calls prog 74 #[.pointer (some ⟨b,0,none⟩),.int .u32 (n:Int)] w (Ret fun v w'=>v=.int .i64 0/\Great { S with now:=S.now.set n (S.now.getD n 0+1) } (n::R) H M/\yO w b db F { S with now:=S.now.set n (S.now.getD n 0+1) } w'):=by
 obtain⟨Fd,x,hb,hr,nb,nr,m,h'⟩:=h;obtain⟨s1,s2,s3⟩:=zkC hg.good hu h6;have hnN:=hg.good.well.lt hu;have hN:=hg.good.dims.n;refine(ziV h' (n:=n) (by omega)).mono (Ret.mono ?_);rintro v w' ⟨rfl,hS,hO⟩;rw[s1];rw[s3]at s2 hS;exact⟨rfl,hg.more hu s2,F,hS.zc2,fun k hk=>.inl hk,hO⟩
end V
/- Contracts of the package tree:get,look,Check. -/
namespace V
open Go Go.Proofs Go.RowKit Crc
variable {w w':World} {b db:Nat} {S:Spa} {F:Nat->Prop}
theorem uG (h:z6 w b db S F) {n:Nat} (hn:n<4294967296) {p:Page} {d:Nd} (hg:S.get n=(p,0)) (hd:jc p d) (hl:d.2.1.length<=5000):
  Calls prog 157 #[.pointer (some ⟨b,0,none⟩),.int .u32 (n:Int)] w (Ret fun v w'=>∃ x z y,v=.tuple #[.agg (ndV d.1 x z y).toArray,.int .i64 0]/\za1 w' w.heap.size d x z y/\(∀ a,y.1=some a->w.heap.size<=a.block/\a.block<w'.heap.size)/\Ext w w'):=by
 apply zhx;unfold S157;refine zp fun r1 w1 hb1 he1 hr1 hz1=>?_;refine zb (zfc (h.ext he1) hn) ?_;rintro _ w2 ⟨y,rfl,ho,he2⟩;rw[hg]at ho ⊢;refine⟨(pgT p y,0,()),rfl,?_⟩;refine yh (vs:=pgV p y) (by rfl) (jo _ _) (fun r3 w3 hb3 he3 hr3=>?_) (by rfl);refine zd (by rfl) ?_;refine zS (ls:=zfQ) (pgT p y) hb3 (by rfl) ?_;have hb1:=(hb1.ext he2).ext he3;have he:=(he1.trans he2).trans he3;have hs1:=he1.size;have hs2:=he2.size;refine zb (zi6 (y:=y) hd (ho.sl.ext he3) hl) ?_;rintro _ w4 ⟨x,z,rfl,hN,he4⟩;refine⟨(ndT d.1 x z y,0,()),rfl,?_⟩;have hs3:=he3.size;have hs4:=he4.size;refine refill (vs:=ndV d.1 x z y) (hb1.ext he4) (by rfl) (jq _ _ _ _) (by rfl) ?_;intro w5 hb5 hx5 hk5 hz5;have hlt:=hb5.lt;have he5:Ext w w5:=hx5 w (he.trans he4) (by omega);have heo:=he.trans he4;have o5:Only (fun k=>k=r1) w4 w5:=⟨he5.os.trans heo.os.symm,he5.tape.trans heo.tape.symm,he5.output.trans heo.output.symm,Nat.le_of_eq hz5.symm,fun k _ hk=>hk5 k hk⟩;refine zS (ls:=jd) (ndT d.1 x z y) hb5 (by rfl) ?_;refine⟨x,z,y,rfl,⟨(hN.ks.only o5 (fun j hj e=>by have:=hN.ks.row j hj;have:j=r1:=e;omega)).lower (by omega),(hN.vs.only o5 (fun j hj e=>by have:=hN.vs.row j hj;have:j=r1:=e;omega)).lower (by omega),?_⟩,(fun a ha=>by have:=ho.row a.block (by rw[ha];rfl);have:=ho.ye a.block (by rw[ha];rfl);omega),he5⟩;refine hN.kids.only o5 (fun a ha e=>?_);have:=ho.row a.block (by rw[ha];rfl);have:a.block=r1:=e;omega
theorem qD {t:UInt8} {x y z:SLC}:Calls prog 154 #[.agg (ndV t x y z).toArray] w (Ret fun v w'=>v=.bool ((t.toNat:Int)==3)/\Ext w w'):=by
 apply zni;unfold S154;refine zp fun r1 w1 hb1 he1 hr1 hz1=>?_;exact zJ ((t.toNat:Nat):Int) hb1 (by rfl) ⟨rfl,he1⟩
theorem za2 {t:UInt8} {x y z:SLC}:Calls prog 177 #[.agg (ndV t x y z).toArray] w (Ret fun v w'=>v=.bool ((t.toNat:Int) !=4)/\Ext w w'):=by
 apply znB;unfold S177;refine zp fun r1 w1 hb1 he1 hr1 hz1=>?_;exact zJ ((t.toNat:Nat):Int) hb1 (by rfl) ⟨rfl,he1⟩
def Nd.val (d:Nd) (i:Nat):Nat:=if d.1=4 then d.2.2.1.getD i 0 else d.2.2.2.getD i 0
theorem zhY {N:Nat} {d:Nd} {x y z:SLC} (h:za1 w N d x y z) {i:Nat} (hi:i<if d.1=4 then y.2.1 else z.2.1) (h64:d.val i<18446744073709551616):Calls prog 158 #[.agg (ndV d.1 x y z).toArray,.int .i64 (i:Int)] w (Ret fun v w'=>v=.int .u64 (d.val i:Int)/\Ext w w'):=by
 apply znk;unfold S158;refine zp fun r1 w1 hb1 he1 hr1 hz1=>?_;have hb1:Blk w1 r1 (ndV d.1 x y z) 201:=hb1;refine zS (ls:=jd) (ndT d.1 x y z) hb1 (by rfl) ?_;refine zb za2 ?_;rintro _ w2 ⟨rfl,he2⟩;refine⟨_,rfl,?_⟩;have he:=he1.trans he2;have hb2:=hb1.ext he2;unfold Nd.val at h64 ⊢
 by_cases hq:d.1=4
 ·rw[if_pos hq]at hi h64 ⊢;refine zd (by rw[hq];rfl) ?_;refine zm 2 y hb2 (by rfl) ?_;have hl:=h.vs.sl.le;refine ya (h.vs.sl.ext he) (by omega) (by omega) ?_;rw[Int.toNat_natCast];exact⟨rfl,he⟩
 ·rw[if_neg hq]at hi h64 ⊢;refine zf (bne_iff_ne.2 (fun e=>hq (UInt8.toNat_inj.1 (by show _=4;omega)))) ?_;refine zm 3 z hb2 (by rfl) ?_;have hl:=h.kids.le;refine ya (h.kids.ext he) (by omega) (by omega) ?_;rw[Int.toNat_natCast,zD h64];exact⟨rfl,he⟩
def shV (n lo hi:Nat) (t:UInt8) (tall:Nat):List Value:=[.int .i64 (n:Int),.int .u64 (lo:Int),.int .u64 (hi:Int),.int .u8 (t.toNat:Int),.int .i64 (tall:Int)]
abbrev zob:List Lf:=[.int .i64,.int .u64,.int .u64,.int .u8,.int .i64]
def shT (n lo hi:Nat) (t:UInt8) (tall:Nat):Int×Int×Int×Int×Int×Unit:=((n:Int),(lo:Int),(hi:Int),(t.toNat:Int),(tall:Int),())
theorem zbt (n lo hi:Nat) (t:UInt8) (tall:Nat):∀ v∈shV n lo hi t tall,v.oneCell'=true:=by
 intro v hv;simp only [shV,mem_cons,not_mem_nil,or_false]at hv;rcases hv with rfl|rfl|rfl|rfl|rfl<;>rfl
theorem zgt (h:z6 w b db S F) {n deep:Nat} (hn:n<4294967296) {p:Page} {d:Nd} (hg:S.get n=(p,0)) (hd:jc p d) (h3:d.1≠3) (hl:d.2.1.length<=5000) (hdeep:deep<=16) {st:Bool}:
  Calls prog 126 #[.pointer (some ⟨b,0,none⟩),.int .u32 (n:Int),.int .i64 (deep:Int),.bool st] w (Ret fun v w'=>v=.tuple #[.agg (shV d.2.1.length (d.2.1.getD 0 0) (d.2.1.getD (d.2.1.length-1) 0) d.1 1).toArray,.int .i64 0]/\Ext w w'):=by
 have hne:1<=d.2.1.length:=by
  cases hd with
  |refs ks kids h1 h2 h3 h4=>exact h2
  |inner ks kids h1 h2 h3 h4=>exact Nat.le_of_succ_le h2
  |leaf k v h1 h2=>exact Nat.le_refl _
 apply zeo;unfold S126;refine zp fun r1 w1 hb1 he1 hr1 hz1=>?_;refine zb (uG (h.ext he1) hn hg hd hl) ?_;rintro _ w2 ⟨x,z,y,rfl,hN,_,he2⟩;refine⟨(ndT d.1 x z y,0,()),rfl,?_⟩;refine yh (vs:=ndV d.1 x z y) (by rfl) (jq _ _ _ _) (fun r3 w3 hb3 he3 hr3=>?_) (by rfl);refine zd (by rfl) (zd (decide_eq_false (by omega)) ?_);refine zS (ls:=jd) (ndT d.1 x z y) hb3 (by rfl) ?_;refine zb qD ?_;rintro _ w4 ⟨rfl,he4⟩;refine⟨_,rfl,?_⟩;refine zf (by rw[beq_eq_false_iff_ne.2 (fun e=>h3 (UInt8.toNat_inj.1 (by show _=3;omega)))];rfl) ?_;refine zN fun w5 he5 hz5 hh5=>?_;have he25:=(he3.trans he4).trans he5;have he:=(he1.trans he2).trans he25;have hb3:=(hb3.ext he4).ext he5;have hk:=hN.ks.sl.ext he25;have hxl:=hk.len;have hxle:=hk.le;refine zm 1 x hb3 (by rfl) (zm 1 x hb3 (by rfl) ?_);refine ya hk (by omega) (by omega) ?_;refine zm 1 x hb3 (by rfl) (zm 1 x hb3 (by rfl) ?_);rw[show wrap .i64 ((x.2.1:Int)-1)=((d.2.1.length-1:Nat):Int) by rw[wrap_i64 (by omega) (by omega)];omega];refine ya hk (by omega) (by omega) ?_;rw[Int.toNat_natCast];refine zJ ((d.1.toNat:Nat):Int) hb3 (by rfl) ?_;have hb1:=((hb1.ext he2).ext he25);refine refill (vs:=shV x.2.1 (d.2.1.getD 0 0) (d.2.1.getD (d.2.1.length-1) 0) d.1 1) hb1 (by rfl) (zbt _ _ _ _ _) (by rfl) ?_;intro w6 hb6 hx6 hk6 hz6;refine zS (ls:=zob) (shT x.2.1 (d.2.1.getD 0 0) (d.2.1.getD (d.2.1.length-1) 0) d.1 1) hb6 (by rfl) ?_;exact⟨by rw[<- hxl];rfl,hx6 w he (by omega)⟩
theorem zoc (h:z6 w b db S F) {n:Nat} (hn:n<4294967296) {p:Page} {kn:Nat->Nat} {kp:Nat->Page} {kd:Nat->Nd} {t:UInt8} (ht:t≠3)
  (hg:S.get n=(p,0)) (hd:jc p ((3:UInt8),[(kd 0).2.1.getD 0 0,(kd 1).2.1.getD 0 0],[],[kn 0,kn 1]))
  (hk:∀ i,i<2->kn i<4294967296/\S.get (kn i)=(kp i,0)/\jc (kp i) (kd i)/\(kd i).1=t/\(kd i).2.1.length<=5000)
  (hr:(kd 0).2.1.getD ((kd 0).2.1.length-1) 0<(kd 1).2.1.getD 0 0) {st:Bool}:
  Calls prog 126 #[.pointer (some ⟨b,0,none⟩),.int .u32 (n:Int),.int .i64 1,.bool st] w (Ret fun v w'=>(∃ n lo hi t tl,v=.tuple #[.agg (shV n lo hi t tl).toArray,.int .i64 0])/\Ext w w'):=by
 apply zeo;unfold S126;refine zp fun r1 w1 hb1 he1 hr1 hz1=>?_;refine zb (uG (h.ext he1) hn hg hd (by show 2<=5000;omega)) ?_;rintro _ w2 ⟨x,z,y,rfl,hN,hyr,he2⟩;refine⟨(ndT 3 x z y,0,()),rfl,?_⟩;refine yh (vs:=ndV 3 x z y) (by rfl) (jq _ _ _ _) (fun r3 w3 hb3 he3 hr3=>?_) (by rfl);refine zd (by rfl) (zd (by rfl) ?_);refine zS (ls:=jd) (ndT 3 x z y) hb3 (by rfl) ?_;refine zb qD ?_;rintro _ w4 ⟨rfl,he4⟩;refine⟨_,rfl,zd (by rfl) ?_⟩;have he34:=he3.trans he4;have hb34:=hb3.ext he4;refine zm 3 y hb34 (by rfl) ?_;have hN3:za1 w4 w1.heap.size _ x z y:=⟨hN.ks.ext he34,hN.vs.ext he34,hN.kids.ext he34⟩;have hyl:2=y.2.1:=hN3.kids.len;have hxl:2=x.2.1:=hN3.ks.len;have he04:=(he1.trans he2).trans he34;have hb14:Blk w4 r1 (shV 0 0 0 0 0) 206:=(hb1.ext he2).ext he34;have hl1:=hb14.lt;have hl3:=hb34.lt;have hs2:=he2.size;have hxr:=hN3.ks.row
 -- the worlds of the rounds differ from w4 at r1 alone
 refine zy (fun t' w'=>∃ i:Nat,i<=2/\t'=((i:Int),())/\Ext w w'/\Only (fun k=>k=r1) w4 w'/\∃ c lo hi,Blk w' r1 (if i=0 then shV 0 0 0 0 0 else shV c lo hi t 2) 206/\(i=1->hi=(kd 0).2.1.getD ((kd 0).2.1.length-1) 0)/\c<=5000*i) (fun t'=>(2-t'.1).toNat)
  ⟨0,by omega,rfl,he04,Only.refl _ _,0,0,0,hb14,by simp,by omega⟩ ?_
 rintro _ w5 ⟨i,hi2,rfl,he5,o5,c,lo,hi,b5,hhi,hc⟩;dsimp only;have hb5:=hb34.only o5 (by omega)
 by_cases hlt:i<2
 ·refine zf (decide_eq_true (by omega)) ?_;refine yq (fun(_:Unit) w'=>Ext w w'/\Only (fun k=>k=r1) w4 w'/\∃ c lo hi,Blk w' r1 (shV c lo hi t 2) 206/\(i=0->hi=(kd 0).2.1.getD ((kd 0).2.1.length-1) 0)/\c<=5000*(i+1)) ?_ (fun J hJ=>?_)
  ·rintro _ w6 ⟨g1,g2,c',lo',hi',g3,g4,g5⟩;exact⟨⟨i+1,by omega,by rw[wrap_i64 (by omega) (by omega)];rfl,g1,g2,c',lo',hi',by rw[if_neg (by omega)];exact g3,fun e=>g4 (by omega),g5⟩,by rw[wrap_i64 (by omega) (by omega)];omega⟩
  have hkid5:=hN3.kids.only o5 (fun a ha e=>by have:=(hyr a ha).1;have:a.block=r1:=e;omega);refine ya hkid5 (by omega) (by omega) ?_;rw[Int.toNat_natCast];obtain⟨k1,k2,k3,k4,k5⟩:=hk i hlt;have ek:([kn 0,kn 1]:List Nat).getD i 0=kn i:=by
   rcases (show i=0\/i=1 by omega) with rfl|rfl<;>rfl
  have ekk:([(kd 0).2.1.getD 0 0,(kd 1).2.1.getD 0 0]:List Nat).getD i 0=(kd i).2.1.getD 0 0:=by
   rcases (show i=0\/i=1 by omega) with rfl|rfl<;>rfl
  rw[show([kn 0,kn 1]:List Nat).getD i 0=kn i from ek];rw[show wrap .i64 (1+1)=((2:Nat):Int) by decide];refine zb (zgt (h.ext he5) k1 k2 k3 (by rw[k4];exact ht) k5 (deep:=2) (by omega)) ?_;rintro _ w6 ⟨rfl,he6⟩;refine⟨(shT (kd i).2.1.length ((kd i).2.1.getD 0 0) ((kd i).2.1.getD ((kd i).2.1.length-1) 0) (kd i).1 1,0,()),rfl,?_⟩;refine yh (vs:=shV (kd i).2.1.length ((kd i).2.1.getD 0 0) ((kd i).2.1.getD ((kd i).2.1.length-1) 0) (kd i).1 1) (by rfl) (zbt _ _ _ _ _) (fun r28 w7 hb7 he7 hr7=>?_) (by rfl);refine zd (by rfl) ?_;rw[k4]at hb7;have he57:=he6.trans he7;have b7:=b5.ext he57;have h37:=hb5.ext he57;have hk7:=(hN3.ks.only o5 (fun j hj e=>by have:=hxr j hj;have:j=r1:=e;omega)).ext he57;have hs5:=o5.2.2.2.1;have hs6:=he6.size;refine yq (fun(y':Bool×Unit) w'=>y'=(false,())/\∃ _:w7.heap.size<=w'.heap.size,Ext w7 w') ?_ (fun J31 hJ31=>?_);rotate_left
  ·refine zN fun w8 he8 hz8 hh8=>?_;have hb8:=hb7.ext he8;have b8:=b7.ext he8;refine zm 1 (((kd i).2.1.getD 0 0:Nat):Int) hb8 (by rfl) ?_;refine zm 1 x (h37.ext he8) (by rfl) ?_;refine ya (hk7.sl.ext he8) (by omega) (by omega) ?_;rw[Int.toNat_natCast,ekk];refine zd (by simp) ?_;have hfin:=hJ31 (false,()) w8 ⟨rfl,by omega,he8⟩
   by_cases h0:i=0
   ·exact zd (decide_eq_false (by omega)) hfin
   ·obtain rfl:i=1:=by omega
    refine zf (by rfl) ?_;have b8:Blk w8 r1 (shV c lo hi t 2) 206:=b8;refine zm 2 ((hi:Nat):Int) b8 (by rfl) ?_;refine zm 1 (((kd 1).2.1.getD 0 0:Nat):Int) hb8 (by rfl) ?_;refine zd (decide_eq_false (by rw[hhi rfl];omega)) ?_;refine zm 3 ((t.toNat:Nat):Int) b8 (by rfl) ?_;refine zm 3 ((t.toNat:Nat):Int) hb8 (by rfl) ?_;refine zd (by simp) ?_;refine zm 4 ((2:Nat):Int) b8 (by rfl) ?_;refine zm 4 ((1:Nat):Int) hb8 (by rfl) ?_;exact hfin
  ·rintro _ w8 ⟨rfl,hs8,he8⟩;refine yq (fun(_:Unit) w'=>w'=w8) ?_ (fun J43 hJ43=>by
    refine zg (fun _=>zd (by rfl) (hJ43 _ _ rfl)) (fun _=>hJ43 _ _ rfl))
   rintro _ w9 rfl;have hb9:=hb7.ext he8;have b9:=b7.ext he8;have hl9:=b9.lt;refine yq (fun(_:Unit) w'=>Only (fun k=>k=r1) w9 w'/\∃ lo',Blk w' r1 (if i=0 then shV 0 lo' 0 0 0 else shV c lo' hi t 2) 206) ?_ (fun J47 hJ47=>?_);rotate_left
   ·refine zg (fun hq=>?_) (fun hq=>hJ47 _ _ ⟨Only.refl _ _,lo,?_⟩)
    ·have hq:(i:Int)=0:=beq_iff_eq.1 hq;obtain rfl:i=0:=by omega
     refine zm 1 (((kd 0).2.1.getD 0 0:Nat):Int) hb9 (by rfl) ?_;refine stE (o:=1) b9 (by rw[zx]) (by show 1<5;omega) ?_;intro w10 b10 o10;exact hJ47 _ _ ⟨o10,_,b10⟩
    ·have hq:¬(i:Int)=0:=beq_eq_false_iff_ne.1 hq;rw[if_neg (by omega)]at b9 ⊢;exact b9
   rintro _ w10 ⟨o10,lo',b10⟩;have hl28:=hb9.lt;have hb10:=hb9.only o10 (by omega);have e0:∃ c0 lo0 hi0 t0 tl0,c0<=5000*i/\Blk w10 r1 (shV c0 lo0 hi0 t0 tl0) 206:=by
    split at b10
    ·exact⟨_,_,_,_,_,by omega,b10⟩
    ·exact⟨_,_,_,_,_,hc,b10⟩
   obtain⟨c0,lo0,hi0,t0,tl0,hc0,b10⟩:=e0;refine zJ ((c0:Nat):Int) b10 (by rfl) ?_;refine zJ (((kd i).2.1.length:Nat):Int) hb10 (by rfl) ?_;refine zm 1 ((lo0:Nat):Int) b10 (by rfl) ?_;refine zm 2 (((kd i).2.1.getD ((kd i).2.1.length-1) 0:Nat):Int) hb10 (by rfl) ?_;refine zm 3 ((t.toNat:Nat):Int) hb10 (by rfl) ?_;refine zm 4 ((1:Nat):Int) hb10 (by rfl) ?_;rw[show wrap .i64 ((c0:Int)+((kd i).2.1.length:Int))=((c0+(kd i).2.1.length:Nat):Int) by rw[wrap_i64 (by omega) (by omega)];rfl,show wrap .i64 (((1:Nat):Int)+1)=((2:Nat):Int) by decide];refine zqo (o:=0) (vs:=shV (c0+(kd i).2.1.length) lo0 ((kd i).2.1.getD ((kd i).2.1.length-1) 0) t 2) b10 (by rfl) (by show 0+5<=5;omega) (zbt _ _ _ _ _) (by rfl) ?_;intro w11 b11 o11;have b11:Blk w11 r1 (shV (c0+(kd i).2.1.length) lo0 ((kd i).2.1.getD ((kd i).2.1.length-1) 0) t 2) 206:=b11;have oo:Only (fun k=>k=r1) w5 w11:=Only.trans (Only.trans (Only.zz (he57.trans he8)) o10 (fun j hj=>.inl hj)) o11 (fun j hj=>.inl hj);refine hJ _ _ ⟨Only.ext he5 oo (fun j hj=>by have:j=r1:=hj;omega),Only.trans o5 oo (fun j hj=>.inl hj),_,_,_,b11,fun e=>by subst e;rfl,by omega⟩
 ·obtain rfl:i=2:=by omega
  refine zd (decide_eq_false (by omega)) ?_;have b5:Blk w5 r1 (shV c lo hi t 2) 206:=b5;refine zS (ls:=zob) (shT c lo hi t 2) b5 (by rfl) ?_;refine refill (vs:=shV c lo hi t 2) b5 (by rfl) (zbt _ _ _ _ _) (by rfl) ?_;intro w6 hb6 hx6 hk6 hz6;refine zS (ls:=zob) (shT c lo hi t 2) hb6 (by rfl) ?_;exact⟨⟨_,_,_,_,_,rfl⟩,hx6 w he5 (by omega)⟩
end V
/- Contracts of the package tree:Check,walk,Each. -/
namespace V
open Go Go.Proofs Go.RowKit Crc
variable {w w':World} {b db:Nat} {S:Spa} {F:Nat->Prop} {R:List Nat}
theorem Owni.cong {α:Type} {E:Enc α} {e:TypeId} {w w':World} {B:Nat} {A:Option Addr} {n c:Nat} {xs:List α} (h:Owni E e w B A n c xs) (hs:∀ j,orow A=some j->w'.heap[j]?=w.heap[j]?):Owni E e w' B A n c xs:=by
 refine⟨h.1,?_⟩;rcases h.2 with hn|⟨g,cap,cur,hv,hb,hgg,rest⟩
 ·exact .inl hn
 ·have hA:orow A=some g:=by
   injection hv with hv
   rw[hv];rfl
  exact .inr ⟨g,cap,cur,hv,hb,(hs g hA).trans hgg,rest⟩
theorem jB.get {n:Nat} {ks vs:List Nat} (h:jB S n ks vs) (hg:Good S R) (hu:zE S.sup.pages S.now n=true):S.get n=(((5:UInt8),vs,mkB (k8B ks)),0)/\jc ((5:UInt8),vs,mkB (k8B ks)) ((5:UInt8),ks,[],vs)/\n<4294967296:=by
 have h1:=h.ok;rw[h.1]at h1;refine⟨(hg.get hu).1.trans h.1,h1,?_⟩;have:=hg.well.lt hu;have:=hg.dims.n;omega
theorem getD_take {l:List Nat} {m i:Nat} (h:i<m):(l.take m).getD i 0=l.getD i 0:=by
 rw[getD_eq_getElem?_getD,List.getElem?_take,if_pos h,<- getD_eq_getElem?_getD]
theorem uk {l:List Nat} {m i:Nat}:(l.drop m).getD i 0=l.getD (m+i) 0:=by
 rw[getD_eq_getElem?_getD,List.getElem?_drop,<- getD_eq_getElem?_getD]
def kdT (ks vs:List Nat) (m:Nat) (i:Nat):Nd:=if i=0 then ((5:UInt8),ks.take m,[],vs.take m) else ((5:UInt8),ks.drop m,[],vs.drop m)
theorem zhZ (h:z6 w b db S F) (hg:Good S R) {n:Nat} {ks vs:List Nat} (ht:jC S n ks vs) (hu:zE S.sup.pages S.now n=true) (hl:ks.length<=5000):
  Calls prog 85 #[.pointer (some ⟨b,0,none⟩),.int .u32 (n:Int)] w (Ret fun v w'=>v=.int .i64 0/\Ext w w'):=by
 have hn2:=(zC.1 hu).1;have hn32:n<4294967296:=by
  have:=hg.well.lt hu;have:=hg.dims.n;omega
 have hlook:Calls prog 126 #[.pointer (some ⟨b,0,none⟩),.int .u32 (n:Int),.int .i64 1,.bool true] w (Ret fun v w'=>(∃ n lo hi t tl,v=.tuple #[.agg (shV n lo hi t tl).toArray,.int .i64 0])/\Ext w w'):=by
  cases ht with
  |one hA=>
   obtain⟨g1,g2,g3⟩:=hA.get hg hu;refine(zgt h hn32 g1 g2 (by show(5:UInt8)≠3;decide) hl (deep:=1) (by omega)).mono (Ret.mono ?_);rintro v w' ⟨rfl,he⟩;exact⟨⟨_,_,_,_,_,rfl⟩,he⟩
  |two m a c h1 h2 h3 h4 h5 h6 h7 h8=>
   have hkid:zR S.page n=[a,c]:=by unfold zR;rw[h6]
   have hua:=((hg.well.good n hu).2 a (by rw[hkid];simp));have huc:=((hg.well.good n hu).2 c (by rw[hkid];simp));obtain⟨a1,a2,a3⟩:=h7.get hg hua;obtain⟨c1,c2,c3⟩:=h8.get hg huc;have e0:(ks.take m).getD 0 0=ks.getD 0 0:=getD_take (by omega);have e1:(ks.drop m).getD 0 0=ks.getD m 0:=uk;have htl:(ks.take m).length=m:=by rw[length_take];omega
   have hdl:(ks.drop m).length=ks.length-m:=length_drop;have hin:jc (S.page n).1 ((3:UInt8),[ks.getD 0 0,ks.getD m 0],[],[a,c]):=by
    rw[h6];refine jc.inner _ _ rfl (by simp) ?_ ?_
    ·have:=zdc h4 (m-1) 0 (by omega);rw[show 0+(m-1)+1=m by omega]at this;show(decide (ks.getD 0 0<ks.getD m 0)&&true)=true;rw[decide_eq_true this];rfl
    ·intro q hq;simp only [mem_cons,not_mem_nil,or_false]at hq;have hm:∀ i,i<ks.length->ks.getD i 0<18446744073709551616:=fun i hi=>by
      rw[getD_eq_getElem?_getD,List.getElem?_eq_getElem hi];exact h5 _ (getElem_mem _)
     rcases hq with rfl|rfl
     ·exact hm _ (by omega)
     ·exact hm _ h2
   refine zoc (t:=5) (kn:=fun i=>if i=0 then a else c) (kd:=kdT ks vs m) (kp:=fun i=>if i=0 then ((5:UInt8),vs.take m,mkB (k8B (ks.take m))) else ((5:UInt8),vs.drop m,mkB (k8B (ks.drop m)))) h hn32 (by decide) ((hg.get hu).1.trans (Prod.ext rfl (hg.get hu).2)) (p:=(S.page n).1) ?_ (fun i hi=>?_) ?_
   ·show jc _ ((3:UInt8),[(ks.take m).getD 0 0,(ks.drop m).getD 0 0],[],[a,c]);rw[e0,e1];exact hin
   ·rcases (show i=0\/i=1 by omega) with rfl|rfl
    ·exact⟨a3,a1,a2,rfl,by show(ks.take m).length<=5000;omega⟩
    ·exact⟨c3,c1,c2,rfl,by show(ks.drop m).length<=5000;omega⟩
   ·show(ks.take m).getD ((ks.take m).length-1) 0<(ks.drop m).getD 0 0;rw[htl,e1,getD_take (by omega)];have:=qS.1 h4 (m-1) (by omega);rw[show m-1+1=m by omega]at this;exact this
 apply zjw;unfold S85;refine zd (by rfl) (zd (beq_eq_false_iff_ne.2 (by omega)) ?_);refine zb hlook ?_;rintro _ w1 ⟨⟨n',lo,hi,t,tl,rfl⟩,he1⟩;refine⟨(shT n' lo hi t tl,0,()),rfl,?_⟩;refine yh (vs:=shV n' lo hi t tl) (by rfl) (zbt _ _ _ _ _) (fun r2 w2 hb2 he2 hr2=>?_) (by rfl);exact⟨rfl,he1.trans he2⟩
def Yld (P:Program) (l:Nat) (L:List (List Value)) (R:WP) (J:(Nat->Prop)->Nat->WP) (E:(Nat->Prop)->WP):Prop:=
 ∀ (V:Nat->Prop) i w' (h:i<L.length),J V i w'->(∀ k,V k->k<w'.heap.size)->jh P l L[i] w' fun v w''=>w'.heap.size<=w''.heap.size/\(∀ k,V k->w''.heap[k]?=w'.heap[k]?)/\((v=.bool true/\R w''/\J V (i+1) w'')\/(v=.bool false/\E V w''))
def Stay (R:WP) (J:(Nat->Prop)->Nat->WP):Prop:=∀ (V V':Nat->Prop) i w' w'',J V i w'->Only V w' w''->(∀ k,V' k->V k\/w'.heap.size<=k)->R w''->J V' i w''
def zdd (k v:Nat):List Value:=[.int .u64 (k:Int),.int .u64 (v:Int)]
def zdC (w:World) (V:Nat->Prop) (J:(Nat->Prop)->Nat->WP) (E:(Nat->Prop)->WP) (i:Nat) (v:Value) (w':World):Prop:=
 ∃ V':Nat->Prop,(∀ k,V' k->V k\/w.heap.size<=k)/\(∀ k,V k->V' k)/\(∀ k,V' k->k<w'.heap.size)/\(∀ k,V k->w'.heap[k]?=w.heap[k]?)/\w.heap.size<=w'.heap.size/\((v=.bool true/\J V' i w')\/(v=.bool false/\E V' w'))
theorem zrx {l:Nat} {L:List (List Value)} {R:WP} {J:(Nat->Prop)->Nat->WP} {E:(Nat->Prop)->WP} (hY:Yld prog l L R J E) {V:Nat->Prop} {i k v:Nat} {w2:World} {K:Bool->WP} (hJ:J V i w2) (hV:∀ q,V q->q<w2.heap.size) (hL:L[i]?=some (zdd k v))
  (hK1:∀ w3,w2.heap.size<=w3.heap.size->(∀ k,V k->w3.heap[k]?=w2.heap[k]?)->R w3->J V (i+1) w3->K true w3) (hK2:∀ w3,w2.heap.size<=w3.heap.size->(∀ k,V k->w3.heap[k]?=w2.heap[k]?)->E V w3->K false w3):
  yD prog (.func (.yield l) #[] #[]) [.int .u64 (k:Int),.int .u64 (v:Int)] (.one (.one .bool)) K w2:=by
 obtain⟨hi,hL⟩:=List.getElem?_eq_some_iff.1 hL;refine .inr ⟨l,rfl,?_⟩;have hy:=hY V i w2 hi hJ hV;rw[hL]at hy;obtain⟨fn,tmps,asg,bd,hy1,hy2⟩:=hy;refine⟨fn,tmps,asg,bd,hy1,RoundIn.mono hy2 ?_⟩;rintro(v|cc|_) w6 hvv
 ·obtain⟨a1,a2,⟨rfl,a3,a4⟩|⟨rfl,a3⟩⟩:=hvv
  ·exact⟨true,rfl,hK1 w6 a1 a2 a3 a4⟩
  ·exact⟨false,rfl,hK2 w6 a1 a2 a3⟩
 ·exact hvv
 ·exact hvv
theorem zgu {l:Nat} {L:List (List Value)} {J:(Nat->Prop)->Nat->WP} {E:(Nat->Prop)->WP} {V:Nat->Prop} (hY:Yld prog l L (fun w=>z6 w b db S F) J E) (hS:Stay (fun w=>z6 w b db S F) J) (hR:∀ V i w',J V i w'->z6 w' b db S F)
  {n deep i0:Nat} (hn:n<4294967296) {p:Page} {d:Nd} (hg:S.get n=(p,0)) (hd:jc p d) (h3:d.1≠3) (hl:d.2.1.length<=5000) (hv:∀ i,d.val i<18446744073709551616) (hdeep:deep<=16)
  (hL:∀ j,j<d.2.1.length->L[i0+j]?=some (zdd (d.2.1.getD j 0) (d.val j))) (hJ:J V i0 w) (hV:∀ k,V k->k<w.heap.size):
  Calls prog 128 #[.pointer (some ⟨b,0,none⟩),.int .u32 (n:Int),.int .u64 0,.int .i64 (deep:Int),.func (.yield l) #[] #[]] w (Ret (zdC w V J E (i0+d.2.1.length))):=by
 have h:=hR _ _ _ hJ;apply zhw;unfold S128;refine zb (uG h hn hg hd hl) ?_;rintro _ w1 ⟨x,z,y,rfl,hN,hyr,he1⟩;refine⟨(ndT d.1 x z y,0,()),rfl,?_⟩;refine yh (vs:=ndV d.1 x z y) (by rfl) (jq _ _ _ _) (fun r2 w2 hb2 he2 hr2=>?_) (by rfl);refine zd (by rfl) (zd (decide_eq_false (by omega)) ?_);refine zm 1 x hb2 (by rfl) ?_;have he:=he1.trans he2;have hs1:=he1.size;have hs2:=he2.size;have hl2:=hb2.lt;have hN2:za1 w2 w.heap.size d x z y:=⟨hN.ks.ext he2,hN.vs.ext he2,hN.kids.ext he2⟩;have hxl:=hN2.ks.len;have hxle:=hN2.ks.sl.le;have hlen:∀ i,i<d.2.1.length->i<if d.1=4 then z.2.1 else y.2.1:=fun i hi=>by
  have a1:=hN2.vs.len;have a2:=hN2.kids.len;cases hd with
  |refs ks kids h1 h2 h3 h4=>rw[if_neg (show ¬(5:UInt8)=4 by decide)];dsimp only at a2 hi;omega
  |inner ks kids h1 h2 h3 h4=>exact absurd rfl h3
  |leaf k v h1 h2=>rw[if_pos rfl];dsimp only at a1 hi;rw[<- a1];exact hi
 let V1:Nat->Prop:=fun q=>V q\/(w.heap.size<=q/\q<w2.heap.size)
 have hV1:∀ q,V1 q->q<w2.heap.size:=fun q hq=>by
  rcases hq with e|e
  ·have:=hV q e;omega
  ·exact e.2
 have hVn:∀ q,V1 q->V q\/w.heap.size<=q:=fun q hq=>hq.imp id (fun e=>e.1);have hJ2:J V1 i0 w2:=hS _ _ _ _ _ hJ (Only.zz he) hVn (h.ext he);refine zy (fun t w'=>∃ i:Nat,i<=d.2.1.length/\t=((i:Int),())/\J V1 (i0+i) w'/\(∀ q,V1 q->w'.heap[q]?=w2.heap[q]?)/\w2.heap.size<=w'.heap.size) (fun t=>(d.2.1.length-t.1).toNat) ⟨0,by omega,rfl,hJ2,fun _ _=>rfl,Nat.le_refl _⟩ ?_;rintro _ w3 ⟨i,hi,rfl,hJ3,hkp,hs3⟩;dsimp only;have fin:∀ {w4:World} {r:Bool},w3.heap.size<=w4.heap.size->(∀ q,V1 q->w4.heap[q]?=w2.heap[q]?)->((r=true/\J V1 (i0+d.2.1.length) w4)\/(r=false/\E V1 w4))->zdC w V J E (i0+d.2.1.length) (.bool r) w4:=by
  intro w4 r a1 a2 a3;refine⟨V1,hVn,fun k hk=>.inl hk,fun k hk=>by have:=hV1 k hk;omega,fun k hk=>(a2 k (.inl hk)).trans (he.block k (hV k hk)),by omega,?_⟩;rcases a3 with ⟨rfl,a3⟩|⟨rfl,a3⟩
  ·exact .inl ⟨rfl,a3⟩
  ·exact .inr ⟨rfl,a3⟩
 by_cases hlt:i<d.2.1.length
 ·refine zf (decide_eq_true (by omega)) ?_;have hb3:Blk w3 r2 (ndV d.1 x z y) 201:=(hkp r2 (.inr ⟨by omega,hl2⟩)).trans hb2;have hin:∀ q,w.heap.size<=q->q<w2.heap.size->w3.heap[q]?=w2.heap[q]?:=fun q h1 h2=>hkp q (.inr ⟨h1,h2⟩);have hk3:Sli (zw .u64) w3 x.1 x.2.1 d.2.1:=hN2.ks.sl.congr (fun a ha=>hin _ (hN2.ks.row _ (by rw[ha];rfl)) (hN2.ks.ye _ (by rw[ha];rfl)));refine zS (ls:=jd) (ndT d.1 x z y) hb3 (by rfl) ?_;refine zb qD ?_;rintro _ w4 ⟨rfl,he4⟩;refine⟨_,rfl,?_⟩;refine zf (by rw[beq_eq_false_iff_ne.2 (fun e=>h3 (UInt8.toNat_inj.1 (by show _=3;omega)))];rfl) ?_;refine zN fun w5 he5 hz5 hh5=>?_;have he35:=he4.trans he5;have hb5:=hb3.ext he35;have hk5:=hk3.ext he35;refine zm 1 x hb5 (by rfl) ?_;refine ya hk5 (by omega) (by omega) ?_;refine zf (decide_eq_true (by omega)) ?_;refine zm 1 x hb5 (by rfl) ?_;refine zH ⟨by omega,by omega⟩ ?_;have ek:d.2.1[i]?=some (d.2.1.getD i 0):=by rw[getD_eq_getElem?_getD,List.getElem?_eq_getElem hlt];rfl
  obtain⟨a,ha,hsp,hcell⟩:=hk5.at_ ek;refine⟨a,ha,?_⟩;rw[Int.toNat_natCast];have hc0:w5.cell? (a.add (i*1))=some (.int .u64 ((d.2.1.getD i 0:Nat):Int)):=by
   have:=hcell.1;rw[add_zero]at this;exact this
  refine zaW (l:=.int .u64) (x:=((d.2.1.getD i 0:Nat):Int)) (by exact hc0) ?_;refine zS (ls:=jd) (ndT d.1 x z y) hb5 (by rfl) ?_;have hN5:za1 w5 w.heap.size d x z y:=by
   refine⟨(hN2.ks.cong (fun j hj=>hin _ (hN2.ks.row _ hj) (hN2.ks.ye _ hj))).ext he35,(hN2.vs.cong (fun j hj=>hin _ (hN2.vs.row _ hj) (hN2.vs.ye _ hj))).ext he35,(hN2.kids.congr (fun a ha=>?_)).ext he35⟩;have:=hyr a ha;exact hin _ this.1 (by omega)
  refine zb (zhY hN5 (hlen i hlt) (hv i)) ?_;rintro _ w6 ⟨rfl,he6⟩;refine⟨_,rfl,?_⟩;have he36:=he35.trans he6;have hs6:=he36.size;refine jG (fun p hp=>by rw[mem_singleton.1 hp];exact he6.cell hc0) (xd (hb5.ext he6) rfl) ?_;have hJ6:J V1 (i0+i) w6:=hS _ _ _ _ _ hJ3 (Only.zz he36) (fun k hk=>.inl hk) ((hR _ _ _ hJ3).ext he36);have hkp6:∀ q,V1 q->w6.heap[q]?=w2.heap[q]?:=fun q hq=>(he36.block q (by have:=hV1 q hq;omega)).trans (hkp q hq);refine zrx hY hJ6 (fun q hq=>by have:=hV1 q hq;omega) (hL i hlt) (fun w7 a1 a2 a3 a4=>?_) (fun w7 a1 a2 a3=>?_)
  ·refine zd (by rfl) ?_;exact⟨⟨i+1,by omega,by rw[wrap_i64 (by omega) (by omega)];rfl,a4,fun q hq=>(a2 q hq).trans (hkp6 q hq),by omega⟩,by rw[wrap_i64 (by omega) (by omega)];omega⟩
  ·refine zf (by rfl) ?_;exact fin (by omega) (fun q hq=>(a2 q hq).trans (hkp6 q hq)) (.inr ⟨rfl,a3⟩)
 ·obtain rfl:i=d.2.1.length:=by omega
  refine zd (decide_eq_false (by omega)) ?_;exact fin (Nat.le_refl _) hkp (.inl ⟨rfl,hJ3⟩)
theorem zod {l:Nat} {L:List (List Value)} {J:(Nat->Prop)->Nat->WP} {E:(Nat->Prop)->WP} {V:Nat->Prop} (hY:Yld prog l L (fun w=>z6 w b db S F) J E) (hS:Stay (fun w=>z6 w b db S F) J) (hR:∀ V i w',J V i w'->z6 w' b db S F)
  {n:Nat} (hn:n<4294967296) {p:Page} {kn:Nat->Nat} {kp:Nat->Page} {kd:Nat->Nd} {t:UInt8} (ht:t≠3)
  (hg:S.get n=(p,0)) (hd:jc p ((3:UInt8),[(kd 0).2.1.getD 0 0,(kd 1).2.1.getD 0 0],[],[kn 0,kn 1]))
  (hk:∀ i,i<2->kn i<4294967296/\S.get (kn i)=(kp i,0)/\jc (kp i) (kd i)/\(kd i).1=t/\(kd i).2.1.length<=5000/\∀ j,(kd i).val j<18446744073709551616)
  (hr:0<(kd 1).2.1.getD 0 0)
  (hL:∀ i j,i<2->j<(kd i).2.1.length->L[(if i=0 then 0 else (kd 0).2.1.length)+j]?=some (zdd ((kd i).2.1.getD j 0) ((kd i).val j))) (hJ:J V 0 w) (hV:∀ k,V k->k<w.heap.size):
  Calls prog 128 #[.pointer (some ⟨b,0,none⟩),.int .u32 (n:Int),.int .u64 0,.int .i64 1,.func (.yield l) #[] #[]] w (Ret (zdC w V J E ((kd 0).2.1.length+(kd 1).2.1.length))):=by
 have h:=hR _ _ _ hJ;apply zhw;unfold S128;refine zb (uG h hn hg hd (by show 2<=5000;omega)) ?_;rintro _ w1 ⟨x,z,y,rfl,hN,hyr,he1⟩;refine⟨(ndT 3 x z y,0,()),rfl,?_⟩;refine yh (vs:=ndV 3 x z y) (by rfl) (jq _ _ _ _) (fun r2 w2 hb2 he2 hr2=>?_) (by rfl);refine zd (by rfl) (zd (by rfl) ?_);refine zm 1 x hb2 (by rfl) ?_;have he:=he1.trans he2;have hs1:=he1.size;have hs2:=he2.size;have hl2:=hb2.lt;have hN2:za1 w2 w.heap.size _ x z y:=⟨hN.ks.ext he2,hN.vs.ext he2,hN.kids.ext he2⟩;have hyl:2=y.2.1:=hN2.kids.len;have hxl:2=x.2.1:=hN2.ks.len
 let V1:Nat->Prop:=fun q=>V q\/(w.heap.size<=q/\q<w2.heap.size)
 have hV1:∀ q,V1 q->q<w2.heap.size:=fun q hq=>by
  rcases hq with e|e
  ·have:=hV q e;omega
  ·exact e.2
 have hVn:∀ q,V1 q->V q\/w.heap.size<=q:=fun q hq=>hq.imp id (fun e=>e.1);have hJ2:J V1 0 w2:=hS _ _ _ _ _ hJ (Only.zz he) hVn (h.ext he)
 let at_:Nat->Nat:=fun i=>if i=0 then 0 else if i=1 then (kd 0).2.1.length else (kd 0).2.1.length+(kd 1).2.1.length
 refine zy (fun t w'=>∃ (i:Nat) (Vi:Nat->Prop),i<=2/\t=((i:Int),())/\J Vi (at_ i) w'/\(∀ q,V1 q->Vi q)/\(∀ q,Vi q->V1 q\/w2.heap.size<=q)/\(∀ q,Vi q->q<w'.heap.size)/\(∀ q,V1 q->w'.heap[q]?=w2.heap[q]?)/\w2.heap.size<=w'.heap.size) (fun t=>(2-t.1).toNat) ⟨0,V1,by omega,rfl,hJ2,fun _ h=>h,fun _ h=>.inl h,hV1,fun _ _=>rfl,Nat.le_refl _⟩ ?_;rintro _ w3 ⟨i,Vi,hi,rfl,hJ3,hv1,hv2,hv3,hkp,hs3⟩;dsimp only;have fin:∀ {w4:World} {r:Bool} {Vj:Nat->Prop},w3.heap.size<=w4.heap.size->(∀ q,V1 q->Vj q)->(∀ q,Vj q->V1 q\/w2.heap.size<=q)->(∀ q,Vj q->q<w4.heap.size)->(∀ q,V1 q->w4.heap[q]?=w2.heap[q]?)->((r=true/\J Vj ((kd 0).2.1.length+(kd 1).2.1.length) w4)\/(r=false/\E Vj w4))->zdC w V J E ((kd 0).2.1.length+(kd 1).2.1.length) (.bool r) w4:=by
  intro w4 r Vj a1 b1 b2 b3 a2 a3;refine⟨Vj,fun k hk=>?_,fun k hk=>b1 k (.inl hk),b3,fun k hk=>(a2 k (.inl hk)).trans (he.block k (hV k hk)),by omega,?_⟩
  ·rcases b2 k hk with e|e
   ·exact hVn k e
   ·exact .inr (by omega)
  ·rcases a3 with ⟨rfl,a3⟩|⟨rfl,a3⟩
   ·exact .inl ⟨rfl,a3⟩
   ·exact .inr ⟨rfl,a3⟩
 by_cases hlt:i<2
 ·refine zf (decide_eq_true (by omega)) ?_;have hb3:Blk w3 r2 (ndV 3 x z y) 201:=(hkp r2 (.inr ⟨by omega,hl2⟩)).trans hb2;have hin:∀ q,w.heap.size<=q->q<w2.heap.size->w3.heap[q]?=w2.heap[q]?:=fun q h1 h2=>hkp q (.inr ⟨h1,h2⟩);have hk3:=hN2.ks.sl.congr (w':=w3) (fun a ha=>hin _ (hN2.ks.row _ (by rw[ha];rfl)) (hN2.ks.ye _ (by rw[ha];rfl)));have hy3:=hN2.kids.congr (w':=w3) (fun a ha=>hin _ (hyr a ha).1 (by have:=(hyr a ha).2;omega));refine zS (ls:=jd) (ndT 3 x z y) hb3 (by rfl) ?_;refine zb qD ?_;rintro _ w4 ⟨rfl,he4⟩;refine⟨_,rfl,?_⟩;refine zd (by rfl) ?_;have hb4:=hb3.ext he4;have hs4:=he4.size;have hJ4:J Vi (at_ i) w4:=hS _ _ _ _ _ hJ3 (Only.zz he4) (fun k hk=>.inl hk) ((hR _ _ _ hJ3).ext he4);have hkp4:∀ q,V1 q->w4.heap[q]?=w2.heap[q]?:=fun q hq=>(he4.block q (by have:=hV1 q hq;omega)).trans (hkp q hq);obtain⟨k1,k2,k3,k4,k5,k6⟩:=hk i hlt;have ek:([kn 0,kn 1]:List Nat).getD i 0=kn i:=by
   rcases (show i=0\/i=1 by omega) with rfl|rfl<;>rfl
  have ea:at_ i=if i=0 then 0 else (kd 0).2.1.length:=by
   rcases (show i=0\/i=1 by omega) with rfl|rfl<;>rfl
  have ea1:at_ (i+1)=at_ i+(kd i).2.1.length:=by
   rcases (show i=0\/i=1 by omega) with rfl|rfl
   ·show(kd 0).2.1.length=0+_;omega
   ·rfl
  have rec_:=zgu (w:=w4) hY hS hR k1 k2 k3 (by rw[k4];exact ht) k5 k6 (deep:=2) (by omega) (i0:=at_ i) (fun j hj=>by rw[ea];exact hL i j hlt hj) hJ4 (fun k hk=>by have:=hv3 k hk;omega);have next:∀ (v:Value) w5,zdC w4 Vi J E (at_ i+(kd i).2.1.length) v w5->∃ r:Bool,v=.bool r/\w4.heap.size<=w5.heap.size/\∃ Vj:Nat->Prop,(∀ q,V1 q->Vj q)/\(∀ q,Vj q->V1 q\/w2.heap.size<=q)/\(∀ q,Vj q->q<w5.heap.size)/\(∀ q,V1 q->w5.heap[q]?=w2.heap[q]?)/\((r=true/\J Vj (at_ (i+1)) w5)\/(r=false/\E Vj w5)):=by
   rintro v w5 ⟨Vj,c1,c2,c3,c4,c5,c6⟩;rw[ea1];refine(?_:∀ P:Prop,P->P) _ ?_
   ·exact fun _ h=>h
   have g1:∀ q,Vj q->V1 q\/w2.heap.size<=q:=fun q hq=>by
    rcases c1 q hq with e|e
    ·exact hv2 q e
    ·exact .inr (by omega)
   have g2:∀ q,V1 q->w5.heap[q]?=w2.heap[q]?:=fun q hq=>(c4 q (hv1 q hq)).trans (hkp4 q hq);rcases c6 with ⟨rfl,c6⟩|⟨rfl,c6⟩
   ·exact⟨true,rfl,c5,Vj,fun q hq=>c2 q (hv1 q hq),g1,c3,g2,.inl ⟨rfl,c6⟩⟩
   ·exact⟨false,rfl,c5,Vj,fun q hq=>c2 q (hv1 q hq),g1,c3,g2,.inr ⟨rfl,c6⟩⟩
  refine zm 1 x hb4 (by rfl) ?_;have hw:wrap .i64 ((i:Int)+1)=((i+1:Nat):Int):=by rw[wrap_i64 (by omega) (by omega)];rfl
  rw[hw]
  by_cases h0:i+1<2
  ·obtain rfl:i=0:=by omega
   refine zf (decide_eq_true (by omega)) ?_;refine zm 1 x hb4 (by rfl) ?_;refine ya (hk3.ext he4) (by omega) (by omega) ?_;rw[Int.toNat_natCast];refine zd (decide_eq_false (show ¬(((kd 1).2.1.getD 0 0:Nat):Int)<=0 by omega)) ?_;refine zm 3 y hb4 (by rfl) ?_;refine ya (hy3.ext he4) (by omega) (by omega) ?_;rw[Int.toNat_natCast,show([kn 0,kn 1]:List Nat).getD 0 0=kn 0 from rfl];refine zb rec_ ?_;intro v w5 hw5;obtain⟨r,rfl,c0,Vj,c1,c2,c3,c4,c5⟩:=next v w5 hw5
   refine⟨r,rfl,?_⟩;rcases c5 with ⟨rfl,c5⟩|⟨rfl,c5⟩
   ·exact zd (by rfl) ⟨⟨1,Vj,by omega,rfl,c5,c1,c2,c3,c4,by omega⟩,by omega⟩
   ·exact zf (by rfl) (fin (by omega) c1 c2 c3 c4 (.inr ⟨rfl,c5⟩))
  ·obtain rfl:i=1:=by omega
   refine zd (decide_eq_false (by omega)) ?_;refine zm 3 y hb4 (by rfl) ?_;refine ya (hy3.ext he4) (by omega) (by omega) ?_;rw[Int.toNat_natCast,show([kn 0,kn 1]:List Nat).getD 1 0=kn 1 from rfl];refine zb rec_ ?_;intro v w5 hw5;obtain⟨r,rfl,c0,Vj,c1,c2,c3,c4,c5⟩:=next v w5 hw5
   refine⟨r,rfl,?_⟩;rcases c5 with ⟨rfl,c5⟩|⟨rfl,c5⟩
   ·exact zd (by rfl) ⟨⟨2,Vj,by omega,rfl,c5,c1,c2,c3,c4,by omega⟩,by omega⟩
   ·exact zf (by rfl) (fin (by omega) c1 c2 c3 c4 (.inr ⟨rfl,c5⟩))
 ·obtain rfl:i=2:=by omega
  refine zd (decide_eq_false (by omega)) ?_;exact fin (Nat.le_refl _) hv1 hv2 hv3 hkp (.inl ⟨rfl,hJ3⟩)
end V
/- Contracts of the package tree:Each. -/
namespace V
open Go Go.Proofs Go.RowKit Crc
variable {w w':World} {b db:Nat} {S:Spa} {F:Nat->Prop} {R:List Nat}
def zb3 (ks vs:List Nat):List (List Value):=(ks.zip vs).map fun p=>zdd p.1 p.2
theorem za3 {ks vs:List Nat} (h:ks.length=vs.length):(zb3 ks vs).length=ks.length:=by
 simp[zb3,h]
theorem zb4 {ks vs:List Nat} (h:ks.length=vs.length) {j:Nat} (hj:j<ks.length):(zb3 ks vs)[j]?=some (zdd (ks.getD j 0) (vs.getD j 0)):=by
 have e1:ks[j]?=some (ks.getD j 0):=by rw[getD_eq_getElem?_getD,List.getElem?_eq_getElem hj];rfl
 have e2:vs[j]?=some (vs.getD j 0):=by rw[getD_eq_getElem?_getD,List.getElem?_eq_getElem (by omega)];rfl
 unfold zb3;rw[List.getElem?_map,List.getElem?_zip_eq_some.2 (show ks[j]?=some (ks.getD j 0,vs.getD j 0).1/\vs[j]?=some (ks.getD j 0,vs.getD j 0).2 from⟨e1,e2⟩)];rfl
def zfT (b db:Nat) (S:Spa) (F:Nat->Prop) (n:Nat) (L:List (List Value)):Prop:=
 ∀ (w:World) (l:Nat) (J:(Nat->Prop)->Nat->WP) (E:(Nat->Prop)->WP) (V:Nat->Prop),Yld prog l L (fun w=>z6 w b db S F) J E->Stay (fun w=>z6 w b db S F) J->(∀ V i w',J V i w'->z6 w' b db S F)->J V 0 w->(∀ k,V k->k<w.heap.size)->
  Calls prog 128 #[.pointer (some ⟨b,0,none⟩),.int .u32 (n:Int),.int .u64 0,.int .i64 1,.func (.yield l) #[] #[]] w (Ret (zdC w V J E L.length))
theorem zkG {n:Nat} (hn:n<4294967296) {p:Page} {d:Nd} (hg:S.get n=(p,0)) (hd:jc p d) (h3:d.1≠3) (hl:d.2.1.length<=5000) (hv:∀ i,d.val i<18446744073709551616) {L:List (List Value)} (hLl:L.length=d.2.1.length)
  (hL:∀ j,j<d.2.1.length->L[j]?=some (zdd (d.2.1.getD j 0) (d.val j))):zfT b db S F n L:=by
 intro w l J E V hY hS hR hJ hV;have:=zgu (w:=w) hY hS hR hn hg hd h3 hl hv (deep:=1) (by omega) (i0:=0) (fun j hj=>by rw[Nat.zero_add];exact hL j hj) hJ hV;rw[Nat.zero_add,<- hLl]at this;exact this
theorem qK {l:List Nat} {N:Nat} (h:∀ k∈l,k<N) (hN:0<N) (i:Nat):l.getD i 0<N:=by
 rw[getD_eq_getElem?_getD];cases hq:l[i]? with
 |none=>exact hN
 |some v=>exact h v (mem_of_getElem? hq)
theorem zkH (hg:Good S R) {n:Nat} {ks vs:List Nat} (ht:jC S n ks vs) (hu:zE S.sup.pages S.now n=true) (hl:ks.length<=5000) (hvs:∀ k∈vs,k<4294967296):zfT b db S F n (zb3 ks vs):=by
 have hn32:n<4294967296:=by
  have:=hg.well.lt hu;have:=hg.dims.n;omega
 have hval:∀ i,vs.getD i 0<18446744073709551616:=fun i=>by have:=qK hvs (by omega) i;omega
 cases ht with
 |one hA=>
  obtain⟨g1,g2,g3⟩:=hA.get hg hu;exact zkG hn32 g1 g2 (by show(5:UInt8)≠3;decide) hl hval (za3 hA.2.1) (fun j hj=>zb4 hA.2.1 hj)
 |two m a c h1 h2 h3 h4 h5 h6 h7 h8=>
  have hkid:zR S.page n=[a,c]:=by unfold zR;rw[h6]
  have hua:=((hg.well.good n hu).2 a (by rw[hkid];simp));have huc:=((hg.well.good n hu).2 c (by rw[hkid];simp));obtain⟨a1,a2,a3⟩:=h7.get hg hua;obtain⟨c1,c2,c3⟩:=h8.get hg huc;have e0:(ks.take m).getD 0 0=ks.getD 0 0:=getD_take (by omega);have e1:(ks.drop m).getD 0 0=ks.getD m 0:=uk;have htl:(ks.take m).length=m:=by rw[length_take];omega
  have hdl:(ks.drop m).length=ks.length-m:=length_drop;have hlt:=zdc h4 (m-1) 0 (by omega);rw[show 0+(m-1)+1=m by omega]at hlt;have hm:∀ i,i<ks.length->ks.getD i 0<18446744073709551616:=fun i hi=>by
   rw[getD_eq_getElem?_getD,List.getElem?_eq_getElem hi];exact h5 _ (getElem_mem _)
  have hin:jc (S.page n).1 ((3:UInt8),[ks.getD 0 0,ks.getD m 0],[],[a,c]):=by
   rw[h6];refine jc.inner _ _ rfl (by simp) ?_ ?_
   ·show(decide (ks.getD 0 0<ks.getD m 0)&&true)=true;rw[decide_eq_true hlt];rfl
   ·intro q hq;simp only [mem_cons,not_mem_nil,or_false]at hq;rcases hq with rfl|rfl
    ·exact hm _ (by omega)
    ·exact hm _ h2
  intro w l J E V hY hS hR hJ hV;have:=zod (w:=w) hY hS hR (t:=5) (kn:=fun i=>if i=0 then a else c) (kd:=kdT ks vs m) (kp:=fun i=>if i=0 then ((5:UInt8),vs.take m,mkB (k8B (ks.take m))) else ((5:UInt8),vs.drop m,mkB (k8B (ks.drop m)))) hn32 (by decide) ((hg.get hu).1.trans (Prod.ext rfl (hg.get hu).2)) (p:=(S.page n).1) ?_ (fun i hi=>?_) ?_ (fun i j hi hj=>?_) hJ hV
  ·have e2:(kdT ks vs m 0).2.1.length+(kdT ks vs m 1).2.1.length=(zb3 ks vs).length:=by
    show(ks.take m).length+(ks.drop m).length=_;rw[za3 h3];omega
   rw[e2]at this;exact this
  ·show jc _ ((3:UInt8),[(ks.take m).getD 0 0,(ks.drop m).getD 0 0],[],[a,c]);rw[e0,e1];exact hin
  ·rcases (show i=0\/i=1 by omega) with rfl|rfl
   ·exact⟨a3,a1,a2,rfl,by show(ks.take m).length<=5000;omega,fun j=>by show(vs.take m).getD j 0<_;have:=qK (l:=vs.take m) (fun k hk=>hvs k (List.mem_of_mem_take hk)) (by omega) j;omega⟩
   ·exact⟨c3,c1,c2,rfl,by show(ks.drop m).length<=5000;omega,fun j=>by show(vs.drop m).getD j 0<_;have:=qK (l:=vs.drop m) (fun k hk=>hvs k (List.mem_of_mem_drop hk)) (by omega) j;omega⟩
  ·show 0<(ks.drop m).getD 0 0;rw[e1];omega
  ·rcases (show i=0\/i=1 by omega) with rfl|rfl
   ·have hj:j<(ks.take m).length:=hj;show(zb3 ks vs)[0+j]?=some (zdd ((ks.take m).getD j 0) ((vs.take m).getD j 0));rw[Nat.zero_add,getD_take (by omega),getD_take (by omega)];exact zb4 h3 (by omega)
   ·have hj:j<(ks.drop m).length:=hj;show(zb3 ks vs)[(ks.take m).length+j]?=some (zdd ((ks.drop m).getD j 0) ((vs.drop m).getD j 0));rw[htl,uk,uk];exact zb4 h3 (by omega)
def Three (b n r1 r2 r3:Nat):WP:=fun w=>Blk w r1 [.pointer (some ⟨b,0,none⟩)] 24/\Blk w r2 [.int .u32 (n:Int)] 39/\Blk w r3 [.int .u64 0] 40
theorem zkI {n:Nat} {L:List (List Value)} (hw:zfT b db S F n L) (hn0:n≠0):
  Calls prog 86 #[.pointer (some ⟨b,0,none⟩),.int .u32 (n:Int),.int .u64 0] w (Ret fun v w'=>∃ (Q:Nat->Prop) (R0:WP),zg2 prog v L (fun w=>z6 w b db S F) Q R0 (fun _=>True) (fun _ _=>True)/\R0 w'/\(∀ w1 w2,R0 w1->Ext w1 w2->R0 w2)/\(∀ k,Q k->k<w'.heap.size)/\(∀ k,Q k->w.heap.size<=k)/\Ext w w'):=by
 apply zp1;unfold S86;refine zp fun r1 w1 hb1 he1 hr1 hz1=>?_;refine zp fun r2 w2 hb2 he2 hr2 hz2=>?_;refine zp fun r3 w3 hb3 he3 hr3 hz3=>?_;have he:=(he1.trans he2).trans he3;refine⟨fun k=>k=r1\/k=r2\/k=r3,Three b n r1 r2 r3,?_,⟨(hb1.ext he2).ext he3,hb2.ext he3,hb3⟩,fun w1 w2 h1 h2=>⟨h1.1.ext h2,h1.2.1.ext h2,h1.2.2.ext h2⟩,fun k hk=>by rcases hk with rfl|rfl|rfl<;>omega,fun k hk=>by rcases hk with rfl|rfl|rfl<;>omega,he⟩;refine⟨_,_,rfl,by kernel_rfl,fun l J E wc hJ0 hQc hR0c hJR hJs hEs hY=>?_⟩;obtain⟨k1,k2,k3⟩:=hR0c;apply zmX;unfold S127;refine zJ (some (aD b)) k1 (by rfl) (zf (by rfl) ?_);refine zJ ((n:Nat):Int) k2 (by rfl) (zf (bne_iff_ne.2 (by omega)) ?_);refine zJ (some (aD b)) k1 (by rfl) (zJ ((n:Nat):Int) k2 (by rfl) (zJ (0:Int) k3 (by rfl) ?_));refine zb (hw _ _ _ _ _ (fun V i w' h hJ hV=>hY V i w' h hJ hV (fun _ _=>trivial)) hJs hJR hJ0 hQc) ?_;rintro v w4 ⟨V',a1,a2,a3,a4,a5,⟨rfl,a6⟩|⟨rfl,a6⟩⟩
 ·exact⟨true,rfl,V',.inl ⟨a6,a1,trivial⟩⟩
 ·exact⟨false,rfl,V',.inr a6⟩
end V
/- Contracts of the package blob:Most,Put. -/
namespace V
open Go Go.Proofs Go.RowKit Crc
variable {w w':World} {b db:Nat} {S:Spa} {F Fd:Nat->Prop} {x:SLC} {hb hr nb nr:Nat} {m:MkL}
theorem xK {S:Spa} (h:zao S):S.room 0=(S.r0:Int)/\110<=S.r0/\S.r0<=4078/\S.sup.size=(S.r0:Int)+18:=by
 have hsz:=h.size;have hr0:S.room 0=S.sup.size-18:=by unfold Spa.room;rw[h.room,if_neg (by omega)];omega
 unfold Spa.r0;omega
theorem zkJ (h:SpM w b db S F Fd x hb hr nb nr m):
  Calls prog 119 #[.pointer (some ⟨b,0,none⟩)] w (Ret fun v w'=>v=.int .i64 (qF S.r0:Int)/\Ext w w'):=by
 obtain⟨h0,h1,h2,h3⟩:=xK h.dims;apply zmT;unfold S119;refine zb (ja h (k:=0) (by omega) (by omega)) ?_;rintro _ w1 ⟨rfl,he⟩;refine⟨_,rfl,?_,he⟩;rw[h0];have e1:wrap .i64 ((S.r0:Int)-4)=((S.r0-4:Nat):Int):=by rw[wrap_i64 (by omega) (by omega)];omega
 have e2:wrap .i64 (Int.tdiv ((S.r0-4:Nat):Int) 4)=(((S.r0-4) / 4:Nat):Int):=by
  rw[show Int.tdiv ((S.r0-4:Nat):Int) 4=(((S.r0-4) / 4:Nat):Int) from rfl,wrap_i64 (by omega) (by omega)]
 have hm:(S.r0-4) / 4*S.r0<=1019*4078:=Nat.mul_le_mul (by omega) h2;have hm1:26*110<=(S.r0-4) / 4*S.r0:=Nat.mul_le_mul (by omega) h1;have e3:wrap .i64 ((((S.r0-4) / 4:Nat):Int)*(S.r0:Int))=(((S.r0-4) / 4*S.r0:Nat):Int):=by
  rw[<- Int.natCast_mul,wrap_i64 (by omega) (by omega)]
 rw[e1,e2,e3];unfold qF;generalize (S.r0-4) / 4*S.r0=M at *;refine congrArg (Value.int .i64) ?_
 by_cases hM:M<65536
 ·rw[if_pos (show(M:Int)<65536 by omega),if_pos (show(M:Int)>0 by omega)];omega
 ·rw[if_neg (show ¬(M:Int)<65536 by omega),if_pos (by decide)];omega
theorem zfd {r1 r2 r8 n c:Nat} {A:Option Addr} {ks c':List Nat} {e:Int} (h:SpM w b db S F Fd x hb hr nb nr m) (h1:Blk w r1 [.pointer (some ⟨b,0,none⟩)] 24) (h2:Blk w r2 [.int .i64 e] 34) (h8:Blk w r8 [.slice A n c] 47)
  (hs:Sli (zw .u32) w A n ks) (h32:∀ k∈ks,k<4294967296) (hf1:¬F r1) (hf2:¬F r2) (hA:∀ a,A=some a->¬F a.block) (hD:e≠0->Drps S.asked S.page S.now ks c'):
  uU prog 120 [.pointer (some ⟨r2,0,none⟩),.pointer (some ⟨r8,0,none⟩),.pointer (some ⟨r1,0,none⟩)] w fun _ w'=>SpM w' b db { S with now:=if e=0 then S.now else c' } F Fd x hb hr nb nr m/\Only F w w'/\Blk w' r2 [.int .i64 e] 34:=by
 apply zll;unfold S120;refine zn (x:=e) h2 (by rfl) ?_;refine zg (fun hq=>?_) (fun hq=>?_)
 ·have hq:=bne_iff_ne.1 hq;rw[if_neg hq];have hD:=hD hq;refine zn (l:=.slc) (x:=(A,n,c)) h8 (by rfl) ?_;dsimp only;have hl:=hs.len;have hle:=hs.le;refine zy (fun y w'=>∃ (i:Nat) (cc:List Nat),i<=n/\y=((i:Int),())/\SpM w' b db { S with now:=cc } F Fd x hb hr nb nr m/\Only F w w'/\Drps S.asked S.page cc (ks.drop i) c') (fun y=>(n-y.1).toNat) ⟨0,S.now,by omega,rfl,h,Only.refl F w,hD⟩ ?_;rintro _ w1 ⟨i,cc,hi,rfl,hS,hO,hDi⟩;dsimp only
  by_cases hlt:i<n
  ·refine zf (decide_eq_true (by omega)) ?_;refine ya (hs.only hO hA) (by omega) (by omega) ?_;rw[Int.toNat_natCast];have eg:ks[i]?=some (ks.getD i 0):=by rw[getD_eq_getElem?_getD,List.getElem?_eq_getElem (by omega)];rfl
   have hk32:=h32 _ (mem_of_getElem? eg);have edrop:ks.drop i=ks.getD i 0::ks.drop (i+1):=by
    obtain⟨q1,q2⟩:=List.getElem?_eq_some_iff.1 eg;rw[drop_eq_getElem_cons q1,q2]
   rw[edrop]at hDi;refine zn (x:=some ⟨b,0,none⟩) (h1.only hO hf1) (by rfl) ?_;generalize ks.getD i 0=k at *;cases hDi with
   |@cons _ c1 _ _ _ e1 d1 d2 d3=>
   refine zb (ze8 hS hk32 (c':=c1) (e:=e1) d1 d2) ?_;rintro _ w2 ⟨rfl,hS2,hO2⟩;refine⟨_,rfl,?_⟩;refine⟨⟨i+1,c1,by omega,by rw[wrap_i64 (by omega) (by omega)];rfl,hS2,Only.trans hO hO2 (fun j hj=>.inl hj),d3⟩,by rw[wrap_i64 (by omega) (by omega)];omega⟩
  ·obtain rfl:i=n:=by omega
   refine zd (decide_eq_false (by omega)) ?_;rw[drop_of_length_le (by omega)]at hDi;cases hDi;exact⟨hS,hO,h2.only hO hf2⟩
 ·have hq:=bne_eq_false_iff_eq.1 hq;rw[if_pos hq];exact⟨h,Only.refl F w,h2⟩
def zoH (w:World) (b db:Nat) (F:Nat->Prop) (S:Spa) (R:List Nat) (bs:ByteArray) (v:Value) (w':World):Prop:=
 (qF S.r0<bs.size/\v=.tuple #[.int .u32 0,.int .i64 3]/\yO w b db F S w')\/
 (bs.size<=qF S.r0/\S.sup.pages.length+nparts S.r0 bs.size+1<=S.zY/\∃ (S1 S2:Spa) (ks:List Nat) (n:Nat),Puts S S1 R ks (uc S.r0 bs (nparts S.r0 bs.size))/\kg S1 S2 ((6:UInt8),ks,mkB (le 4 bs.size)) n/\Good S2 (n::R)/\v=.tuple #[.int .u32 (n:Int),.int .i64 0]/\yO w b db F S2 w')\/
 (bs.size<=qF S.r0/\S.zY<S.sup.pages.length+nparts S.r0 bs.size+1/\∃ (S1:Spa) (ks:List Nat) (ps:List Page),Puts S S1 R ks ps/\Good { S1 with now:=S.now } R/\v=.tuple #[.int .u32 0,.int .i64 9]/\yO w b db F { S1 with now:=S.now } w')
theorem zde {r len:Nat} (h1:110<=r) (hm:len<=qF r):4*nparts r len+4<=r/\nparts r len<=65536:=by
 unfold qF at hm;have h2:len<=(r-4) / 4*r:=by omega
 have h3:nparts r len<=(r-4) / 4:=by
  unfold nparts;rw[Nat.div_le_iff_le_mul_add_pred (by omega)];rw[Nat.mul_comm r];omega
 have h4:nparts r len<=len:=by
  unfold nparts;rw[Nat.div_le_iff_le_mul_add_pred (by omega)];have:len<=r*len:=Nat.le_mul_of_pos_left _ (by omega);omega
 omega
theorem zkK {R:List Nat} (h:SpM w b db S F Fd x hb hr nb nr m) (hg:Good S R) (hpen:S.dev.pen.length<=900000) (bs:ByteArray) (hbs:bs.size<=1000000000):
  Calls prog 76 #[.pointer (some ⟨b,0,none⟩),.string bs] w (Ret (zoH w b db F S R bs)):=by
 obtain⟨q0,q1,q2,q3⟩:=xK h.dims;have hFlt:=h.lt;apply zpU;unfold S76;refine zp fun r1 w1 hb1 he1 hr1 hz1=>?_;refine zp fun r2 w2 hb2 he2 hr2 hz2=>?_;have hb1:=hb1.ext he2;have he:=he1.trans he2;refine zn (x:=some ⟨b,0,none⟩) hb1 (by rfl) (zd (by rfl) ?_);refine zn (x:=some ⟨b,0,none⟩) hb1 (by rfl) ?_;refine zb (zkJ (h.ext he)) ?_;rintro _ w3 ⟨rfl,he3⟩;refine⟨_,rfl,?_⟩;have hb1:=hb1.ext he3;have hb2:=hb2.ext he3;have he3':=he.trans he3;have hs1:=he1.size;refine zg (fun hq=>?_) (fun hq=>?_)
 ·have hq:=of_decide_eq_true hq;refine zX hb2 (by show 0<1;omega) ?_;refine zn (x:=(3:Int)) (hb2.set 0 (.int .i64 3)) (by rfl) ?_;exact .inl ⟨by omega,rfl,yO.ext h.zc2 (he3'.set (p:=⟨r2,0,none⟩) (by show w.heap.size<=r2;omega) _)⟩
 have hmost:bs.size<=qF S.r0:=by have:=of_decide_eq_false hq;omega
 obtain⟨hn1,hn2⟩:=zde q1 hmost;refine zp fun r8 w4 hb8 he4 hr8 hz8=>?_;have hb1:=hb1.ext he4;have hb2:=hb2.ext he4;have he4':=he3'.trans he4;refine zn (x:=some ⟨b,0,none⟩) hb1 (by rfl) ?_;refine zb (ja (h.ext he4') (k:=0) (by omega) (by omega)) ?_;rintro _ w5 ⟨rfl,he5⟩;refine⟨_,rfl,?_⟩;rw[q0];refine zH (by omega) ?_;have hb1:=hb1.ext he5;have hb2:=hb2.ext he5;have hb8:=hb8.ext he5;have he5':=he4'.trans he5;have hr1l:=hb1.lt;have hr2l:=hb2.lt;have hr8l:=hb8.lt;have hs3:=he3.size;generalize hm:nparts S.r0 bs.size=M at *;have eM:wrap .i64 (Int.tdiv (wrap .i64 (wrap .i64 (((bs.size:Nat):Int)+(S.r0:Int))-1)) (S.r0:Int))=(M:Int):=by
  rw[wrap_i64 (x:=((bs.size:Nat):Int)+(S.r0:Int)) (by omega) (by omega),wrap_i64 (x:=((bs.size:Nat):Int)+(S.r0:Int)-1) (by omega) (by omega)];rw[show((bs.size:Nat):Int)+(S.r0:Int)-1=((bs.size+S.r0-1:Nat):Int) by omega,show Int.tdiv ((bs.size+S.r0-1:Nat):Int) (S.r0:Int)=(((bs.size+S.r0-1) / S.r0:Nat):Int) from rfl];have:(bs.size+S.r0-1) / S.r0=M:=hm;rw[this,wrap_i64 (by omega) (by omega)]
 rw[eM];have hnF:∀ j,w.heap.size<=j->¬F j:=fun j hj hf=>by have:=hFlt j hf;omega
 -- the end, with an error: what was put goes back
 have fail:∀ {S1:Spa} {ks:List Nat} {F':Nat->Prop} {w9:World} {A:Option Addr} {c:Nat} (i:Nat),i=ks.length->Puts S S1 R ks (uc S.r0 bs i)->z6 w9 b db S1 F'->(∀ k,F' k->F k\/w5.heap.size<=k)->Only F w w9->S.zY<S.sup.pages.length+M+1->
   Blk w9 r1 [.pointer (some ⟨b,0,none⟩)] 24->Blk w9 r2 [.int .i64 0] 34->Blk w9 r8 [.slice A i c] 47->Sli (zw .u32) w9 A i ks->(∀ a,A=some a->w.heap.size<=a.block/\a.block≠r1/\a.block≠r2/\a.block≠r8/\¬F' a.block)->
   stW ⟨r2,0,none⟩ (.int .i64 9) (zW prog (⟨.fn (.func 120) #[.pointer (some ⟨r2,0,none⟩),.pointer (some ⟨r8,0,none⟩),.pointer (some ⟨r1,0,none⟩)],#[]⟩::[]) (ldW (.int .i64) ⟨r2,0,none⟩ fun u=>zoH w b db F S R bs (.tuple #[.int .u32 0,.int .i64 u]))) w9:=by
  rintro S1 ks F' w9 A c i rfl hP ⟨Fd',x',hb',hr',nb',nr',m',hS1⟩ hF' hO hfull k1 k2 k8 hs hA;refine zX k2 (by show 0<1;omega) ?_;have hg9:=yS w9 r2 0 (.int .i64 9);have oc:Only (fun k=>k=r2) w9 (w9.setCell ⟨r2,0,none⟩ (.int .i64 9)):=Only.zV hg9 (fun j hj=>.inl (by injection hj with hj;exact hj.symm));have k2':=k2.set 0 (.int .i64 9);have hF5:∀ j,w.heap.size<=j->j<w5.heap.size->¬F' j:=fun j a1 a2 hf=>by
   rcases hF' j hf with e|e
   ·exact hnF j a1 e
   ·omega
  have hS1':=hS1.only oc (fun j hj e=>hF5 r2 (by omega) (by omega) (by rw[<- show j=r2 from e];exact hj));obtain⟨c',u1,u2,u3⟩:=hP.undo hg (fun j hj=>by
   unfold uc
   simp[getD_eq_getElem?_getD,hj])
  have h32:∀ k∈ks,k<4294967296:=fun k hk=>by have:=(hP.mem hk).2.1;have:=h.dims.n;omega
  refine .inr ⟨_,_,rfl,by kernel_rfl,?_⟩;refine CallsDIn.mono (zfd (c':=c') hS1' (k1.only oc (by show ¬r1=r2;omega)) k2' (k8.only oc (by show ¬r8=r2;omega)) (hs.only oc (fun a ha e=>(hA a ha).2.2.1 e)) h32 (hF5 r1 (by omega) (by omega)) (hF5 r2 (by omega) (by omega)) (fun a ha=>(hA a ha).2.2.2.2) (fun _=>u1)) ?_;rintro e u' w10 ⟨hu,hR⟩;refine⟨hu,?_⟩;cases e with
  |returned v=>
   obtain⟨p1,p2,p3⟩:=hR;refine zn (x:=(9:Int)) p3 (by rfl) (.inr (.inr ⟨hmost,by rw[hm];omega,S1,ks,_,hP,by rw[<- u2];exact u3,rfl,F',?_,fun k hk=>?_,?_⟩))
   ·rw[if_neg (by decide),u2]at p1;exact p1.zc2
   ·rcases hF' k hk with e|e
    ·exact .inl e
    ·exact .inr (Nat.le_trans he5'.size e)
   ·have o9:Only F w (w9.setCell ⟨r2,0,none⟩ (.int .i64 9)):=Only.trans hO oc (fun j hj=>.inr (by have:j=r2:=hj;omega));exact Only.trans o9 p2 (fun j hj=>by
     rcases hF' j hj with e|e
     ·exact .inl e
     ·exact .inr (Nat.le_trans he5'.size e))
  |panicked c=>exact hR.elim
  |outgrown=>exact hR.elim
 refine zy (fun y w'=>∃ (i:Nat) (Si:Spa) (ks:List Nat) (F':Nat->Prop) (A:Option Addr) (c:Nat),i<=M/\i=ks.length/\y=((i:Int),())/\Puts S Si R ks (uc S.r0 bs i)/\z6 w' b db Si F'/\(∀ k,F' k->F k\/w5.heap.size<=k)/\Only F w w'/\w5.heap.size<=w'.heap.size/\
   Blk w' r1 [.pointer (some ⟨b,0,none⟩)] 24/\Blk w' r2 [.int .i64 0] 34/\Blk w' r8 [.slice A i c] 47/\Owni (zw .u32) 39 w' w5.heap.size A i c ks/\(∀ j,orow A=some j->¬F' j)) (fun y=>(M-y.1).toNat)
  ⟨0,S,[],F,none,0,by omega,rfl,rfl,Puts.nil hg,(h.ext he5').zc2,fun k hk=>.inl hk,Only.zz he5',Nat.le_refl _,hb1,hb2,hb8,Owni.nil _ _ _,fun j hj=>by cases hj⟩ ?_
 rintro _ w6 ⟨i,Si,ks,F',A,c,hi,hik,rfl,hP,hAt,hF',hO,hsz,k1,k2,k8,ho,hAF⟩;dsimp only;have hF5:∀ j,w.heap.size<=j->j<w5.heap.size->¬F' j:=fun j a1 a2 hf=>by
  rcases hF' j hf with e|e
  ·exact hnF j a1 e
  ·omega
 have hF'w:∀ k,F' k->F k\/w.heap.size<=k:=fun k hk=>by
  rcases hF' k hk with e|e
  ·exact .inl e
  ·exact .inr (Nat.le_trans he5'.size e)
 have hrow:∀ a,A=some a->w5.heap.size<=a.block:=fun a ha=>ho.row _ (by rw[ha];rfl);have hAok:∀ a,A=some a->w.heap.size<=a.block/\a.block≠r1/\a.block≠r2/\a.block≠r8/\¬F' a.block:=fun a ha=>by
  have:=hrow a ha;exact⟨by omega,by omega,by omega,by omega,hAF _ (by rw[ha];rfl)⟩
 have hfr:S.zY=ks.length+Si.zY:=by
  unfold Spa.zY;rw[hP.free,length_append]
 have hr0i:Si.r0=S.r0/\Si.room 0=(S.r0:Int)/\∀ k,Si.room k=S.room k:=by
  have:∀ k,Si.room k=S.room k:=fun k=>by unfold Spa.room;rw[hP.sup]
  refine⟨by unfold Spa.r0;rw[this],by rw[this];exact q0,this⟩
 have hpeni:Si.dev.pen.length<=1000000:=by rw[hP.pen];omega
 have hgeni:Si.sup.gen+1<18446744073709551616:=by have:=hP.good.gen;omega
 have hpgi:Si.sup.pages.length=S.sup.pages.length:=by rw[hP.sup]
 by_cases hlt:i<M
 ·refine zf (decide_eq_true (by omega)) ?_;refine zN fun w7 he7 _ _=>?_;have hoi7:=ho.ext he7;have hAt7:=hAt.ext he7;have o7:Only F w w7:=Only.trans hO (Only.zz (F:=F) he7) (fun j hj=>.inl hj);refine zn (x:=some ⟨b,0,none⟩) (k1.ext he7) (by rfl) ?_;have hilt:i*S.r0<bs.size:=(zaJ (by omega)).1 (by rw[hm];exact hlt);have hsucc:(i+1)*S.r0=i*S.r0+S.r0:=by rw[Nat.add_mul,Nat.one_mul]
  have w1':wrap .i64 ((i:Int)*(S.r0:Int))=((i*S.r0:Nat):Int):=by rw[<- Int.natCast_mul,wrap_i64 (by omega) (by omega)]
  have w2':wrap .i64 ((i:Int)+1)=((i+1:Nat):Int):=by rw[wrap_i64 (by omega) (by omega)];rfl
  have w3':wrap .i64 (((i+1:Nat):Int)*(S.r0:Int))=(((i+1)*S.r0:Nat):Int):=by rw[<- Int.natCast_mul,wrap_i64 (by omega) (by omega)]
  have w4':(if (((i+1)*S.r0:Nat):Int)<((bs.size:Nat):Int) then (((i+1)*S.r0:Nat):Int) else ((bs.size:Nat):Int))=((min bs.size ((i+1)*S.r0):Nat):Int):=by split<;>omega
  rw[w1',w2',w3',w4'];refine zH ⟨by omega,by omega,by omega⟩ ?_;rw[Int.toNat_natCast,Int.toNat_natCast];show ze _ _ [_,.agg (pgV ((7:UInt8),[],part S.r0 bs i) (none,0,0)).toArray] _ _ w7;obtain⟨Fd7,x7,hb7,hr7,nb7,nr7,m7,hS7⟩:=hAt7;have hps:=zdb (r:=S.r0) (b:=bs) (i:=i) (by omega) (by rw[hm];exact hlt);refine zb (zbX hS7 hP.good.h01 hgeni hpeni ((7:UInt8),[],part S.r0 bs i) (Sli.nil w7 none) (by simp) (fun a ha=>by cases ha) (by show(part S.r0 bs i).size<=_;omega)) ?_;rintro _ w8 ⟨rfl,F8,hAt8,hF8,hO8⟩;have hF8w:∀ k,F8 k->F k\/w5.heap.size<=k:=fun k hk=>by
   rcases hF8 k hk with e|e
   ·exact hF' k e
   ·exact .inr (by have:=he7.size;omega)
  have o8:Only F w w8:=Only.trans o7 hO8 hF'w;have k18:=(k1.ext he7).only hO8 (hF5 r1 (by omega) (by omega));have k28:=(k2.ext he7).only hO8 (hF5 r2 (by omega) (by omega));have k88:=(k8.ext he7).only hO8 (hF5 r8 (by omega) (by omega));have ho8:=hoi7.only hO8 hAF;have hAF8:∀ j,orow A=some j->¬F8 j:=fun j hj hf=>by
   rcases hF8 j hf with e|e
   ·exact hAF j hj e
   ·have:=hoi7.ye j hj;omega
  have hs8:=hO8.2.2.2.1;have hs7:=he7.size
  by_cases hfree:Si.sup.pages.length<Si.zY
  ·obtain⟨s1,s2⟩:=hP.step (t:=7) (d:=part S.r0 bs i) (by decide) (by rw[hr0i.2.1];omega) hfree;refine⟨(((Si.put ((7:UInt8),[],part S.r0 bs i)).2.1:Int),(Si.put ((7:UInt8),[],part S.r0 bs i)).2.2,()),rfl,?_⟩;rw[s1];refine zd (by rfl) ?_;generalize (Si.put ((7:UInt8),[],part S.r0 bs i)).2.1=n at *;refine zn (l:=.slc) (x:=(A,i,c)) k88 (by rfl) ?_;dsimp only;have hle:=ho8.le;refine yT (E:=zw .u32) (ys:=[n]) (by rfl) rfl jR ho8 (by omega) (by omega) (by omega) ?_;intro A' c' w9 ho9 hg9;have hx9:∀ j,orow A=some j->w5.heap.size<=j:=fun j hj=>ho8.row j hj;have oc:Only (fun j=>orow A=some j) w8 w9:=Only.zV hg9.grown (fun j hj=>.inl hj);have hAt9:=hAt8.only oc (fun j hj e=>hAF8 j e hj);have k19:=k18.only oc (fun e=>by have:=hx9 _ e;omega);have k29:=k28.only oc (fun e=>by have:=hx9 _ e;omega);have k89:=k88.only oc (fun e=>by have:=hx9 _ e;omega);have o9:Only F w w9:=Only.trans o8 oc (fun j hj=>.inr (by have:=hx9 j hj;omega));refine zX k89 (by show 0<1;omega) ?_;have hg10:=yS w9 r8 0 (.slice A' (i+1) c');have oc2:Only (fun k=>k=r8) w9 (w9.setCell ⟨r8,0,none⟩ (.slice A' (i+1) c')):=Only.zV hg10 (fun j hj=>.inl (by injection hj with hj;exact hj.symm));have hr8F:¬F8 r8:=fun hf=>by
    rcases hF8w r8 hf with e|e
    ·exact hnF r8 (by omega) e
    ·omega
   refine⟨⟨i+1,_,ks++[n],F8,A',c',by omega,by rw[length_append,length_singleton,hik],rfl,by rw[zkF];exact s2,hAt9.only oc2 (fun j hj e=>hr8F (by rw[<- show j=r8 from e];exact hj)),hF8w,Only.trans o9 oc2 (fun j hj=>.inr (by have:j=r8:=hj;omega)),?_,k19.only oc2 (by show ¬r1=r8;omega),k29.only oc2 (by show ¬r2=r8;omega),k89.set 0 _,?_,fun j hj=>?_⟩,by omega⟩
   ·exact Nat.le_trans hsz (Nat.le_trans hs7 (Nat.le_trans hs8 (Nat.le_trans hg9.grown.size hg10.size)))
   ·exact ho9.only oc2 (fun j hj e=>by have:=ho9.row j hj;have:j=r8:=e;omega)
   ·rcases hg9.next j hj with e|e
    ·exact hAF8 j e
    ·intro hf;have:=hAt8.lt j hf;omega
  ·have e9:=zhV (S:=Si) (R:=ks++R) (p:=((7:UInt8),[],part S.r0 bs i)) hP.good (show 3<=(7:UInt8).toNat by decide) (by rw[hr0i.2.1];show((0:Nat):Int)<=_;omega) (by show((part S.r0 bs i).size:Int)<=Si.room ((0:Nat):Int);rw[show(((0:Nat):Int))=0 from rfl,hr0i.2.1];omega) (by omega);rw[e9]at hAt8 ⊢;refine⟨((0:Int),(9:Int),()),rfl,zf (by rfl) ?_⟩;exact fail i hik hP hAt8 hF8w o8 (by omega) k18 k28 k88 ho8.sl (fun a ha=>by
    obtain⟨a1,a2,a3,a4,a5⟩:=hAok a ha
    exact⟨a1,a2,a3,a4,hAF8 _ (by rw[ha];rfl)⟩)
 obtain rfl:i=M:=by omega
 refine zd (decide_eq_false (by omega)) ?_;refine zN fun w7 he7 _ _=>?_;have o7:Only F w w7:=Only.trans hO (Only.zz (F:=F) he7) (fun j hj=>.inl hj);refine zn (x:=some ⟨b,0,none⟩) (k1.ext he7) (by rfl) ?_;refine zn (l:=.slc) (x:=(A,i,c)) (k8.ext he7) (by rfl) ?_;rw[zD (by omega)];refine zb (xy (bs:=[]) (v:=bs.size) (k:=4) (Own.nil 5 w7 w7.heap.size) (Nat.le_refl _) (by omega) (by omega) (by omega) (by omega)) ?_;rintro _ w8 ⟨y8,rfl,ho8,hg8⟩;refine⟨y8,rfl,?_⟩;have hx8:Ext w7 w8:=(Ext.refl w7).grown hg8.grown (fun j hj=>by cases hj);have he8:=he7.trans hx8;have k18:=k1.ext he8;have k28:=k2.ext he8;have k88:=k8.ext he8;have hoo:=ho.ext he8;have o8:Only F w w8:=Only.trans hO (Only.zz (F:=F) he8) (fun j hj=>.inl hj);have held:∀ l∈([[((aD r8),.slice A i c)],[((aD r1),.pointer (some ⟨b,0,none⟩))]]:List (List (Addr×Value))),∀ p∈l,w8.cell? p.1=some p.2:=fun l hl p hp=>by
  simp only [mem_cons,not_mem_nil,or_false]at hl;rcases hl with rfl|rfl<;>(simp only [mem_cons,not_mem_nil,or_false]at hp;subst hp)
  ·exact(k88.cell 0).trans rfl
  ·exact(k18.cell 0).trans rfl
 refine⟨held,?_⟩;refine qY (e:=5) (by kernel_rfl) (by kernel_rfl) (by kernel_rfl) ho8.sl ?_;refine⟨held,?_⟩;rw[nil_append];show ze _ _ [_,.agg (pgV ((6:UInt8),ks,mkB (le 4 bs.size)) (A,i,c)).toArray] _ _ w8;obtain⟨Fd8,x8,hb8',hr8',nb8,nr8,m8,hS8⟩:=hAt.ext he8;have hs8:=he8.size;have hp1:((6:UInt8),ks,mkB (le 4 bs.size)).2.1.length=i:=hik.symm;have hd4:(mkB (le 4 bs.size)).size=4:=by rw[xF,zA]
 have hkr:Si.room ks.length=(S.r0:Int)-4*i:=by
  have:=h.dims.room;rw[hr0i.2.2,<- hik];unfold Spa.room;rw[this,if_neg (by omega)];omega
 refine zb (zbX hS8 hP.good.h01 hgeni hpeni ((6:UInt8),ks,mkB (le 4 bs.size)) hoo.sl (fun k hk=>by have:=(hP.mem hk).2.1;have:=h.dims.n;omega) (fun a ha=>(hAok a ha).2.2.2.2) (by show(mkB (le 4 bs.size)).size<=_;omega)) ?_;rintro _ w9 ⟨rfl,F9,hAt9,hF9,hO9⟩;have hF9w:∀ k,F9 k->F k\/w5.heap.size<=k:=fun k hk=>by
  rcases hF9 k hk with e|e
  ·exact hF' k e
  ·exact .inr (by omega)
 have o9:Only F w w9:=Only.trans o8 hO9 hF'w;have k19:=k18.only hO9 (hF5 r1 (by omega) (by omega));have k29:=k28.only hO9 (hF5 r2 (by omega) (by omega));have k89:=k88.only hO9 (hF5 r8 (by omega) (by omega));have ho9:=hoo.only hO9 hAF;have hAF9:∀ j,orow A=some j->¬F9 j:=fun j hj hf=>by
  rcases hF9 j hf with e|e
  ·exact hAF j hj e
  ·have:=hoo.ye j hj;omega
 have hA9:∀ a,A=some a->w.heap.size<=a.block/\a.block≠r1/\a.block≠r2/\a.block≠r8/\¬F9 a.block:=fun a ha=>by
  obtain⟨a1,a2,a3,a4,a5⟩:=hAok a ha;exact⟨a1,a2,a3,a4,hAF9 _ (by rw[ha];rfl)⟩
 by_cases hfree:Si.sup.pages.length<Si.zY
 ·obtain⟨s1,s2,s3⟩:=zey (S:=Si) (R:=R) (p:=((6:UInt8),ks,mkB (le 4 bs.size))) hP.good (show 3<=(6:UInt8).toNat by decide) (by show((ks.length:Nat):Int)<=_;rw[hr0i.2.1];omega) (by show((mkB (le 4 bs.size)).size:Int)<=Si.room ((ks.length:Nat):Int);rw[hkr,hd4];omega) hfree;refine⟨(((Si.put ((6:UInt8),ks,mkB (le 4 bs.size))).2.1:Int),(Si.put ((6:UInt8),ks,mkB (le 4 bs.size))).2.2,()),rfl,?_⟩;rw[s1];refine zX k29 (by show 0<1;omega) ?_;have hg10:=yS w9 r2 0 (.int .i64 0);have oc:Only (fun k=>k=r2) w9 (w9.setCell ⟨r2,0,none⟩ (.int .i64 0)):=Only.zV hg10 (fun j hj=>.inl (by injection hj with hj;exact hj.symm));have hr2F:¬F9 r2:=fun hf=>by
   rcases hF9w r2 hf with e|e
   ·exact hnF r2 (by omega) e
   ·omega
  obtain⟨Fd9,x9,hb9',hr9',nb9,nr9,m9,hS9⟩:=hAt9;have hS9':=hS9.only oc (fun j hj e=>hr2F (by rw[<- show j=r2 from e];exact hj));refine .inr ⟨_,_,rfl,by kernel_rfl,?_⟩;have hr1F:¬F9 r1:=fun hf=>by
   rcases hF9w r1 hf with e|e
   ·exact hnF r1 (by omega) e
   ·omega
  refine CallsDIn.mono (zfd (c':=[]) (ks:=ks) (e:=0) hS9' (k19.only oc (by show ¬r1=r2;omega)) (k29.set 0 (.int .i64 0)) (k89.only oc (by show ¬r8=r2;omega)) (ho9.sl.only oc (fun a ha e=>(hA9 a ha).2.2.1 e)) (fun k hk=>by have:=(hP.mem hk).2.1;have:=h.dims.n;omega) hr1F hr2F (fun a ha=>(hA9 a ha).2.2.2.2) (fun e=>absurd rfl e)) ?_;rintro e u' w11 ⟨hu,hR⟩;refine⟨hu,?_⟩;cases e with
  |returned v=>
   obtain⟨p1,p2,p3⟩:=hR;refine zn (x:=(0:Int)) p3 (by rfl) (.inr (.inl ⟨hmost,by rw[hm];omega,Si,_,ks,_,by rw[hm];exact hP,s2,s3,rfl,F9,?_,fun k hk=>?_,?_⟩))
   ·rw[if_pos rfl]at p1;exact p1.zc2
   ·rcases hF9w k hk with e|e
    ·exact .inl e
    ·exact .inr (Nat.le_trans he5'.size e)
   ·have o10:Only F w (w9.setCell ⟨r2,0,none⟩ (.int .i64 0)):=Only.trans o9 oc (fun j hj=>.inr (by have:j=r2:=hj;omega));exact Only.trans o10 p2 (fun j hj=>by
     rcases hF9w j hj with e|e
     ·exact .inl e
     ·exact .inr (Nat.le_trans he5'.size e))
  |panicked c=>exact hR.elim
  |outgrown=>exact hR.elim
 ·have e9:=zhV (S:=Si) (R:=R) (p:=((6:UInt8),ks,mkB (le 4 bs.size))) hP.good (show 3<=(6:UInt8).toNat by decide) (by show((ks.length:Nat):Int)<=_;rw[hr0i.2.1];omega) (by show((mkB (le 4 bs.size)).size:Int)<=Si.room ((ks.length:Nat):Int);rw[hkr,hd4];omega) (by omega);rw[e9]at hAt9 ⊢;refine⟨((0:Int),(9:Int),()),rfl,?_⟩;exact fail i hik hP hAt9 hF9w o9 (by omega) k19 k29 k89 ho9.sl hA9
end V
/- Contracts of the package tree:used,part,put. -/
namespace V
open Go Go.Proofs Go.RowKit Crc
variable {w w':World} {b db:Nat} {S:Spa} {F:Nat->Prop} {R H:List Nat} {M:Option (List Nat)}
theorem zoa.good {S S':Spa} {p:Page} {R H:List Nat} {M:Option (List Nat)} {n:Nat} {e:Int} (h:zoa S S' p R H M n e) (hd:(p.2.2.size:Int)<=S.room p.2.1.length) (hf:S.sup.pages.length<S.zY):e=0/\kg S S' p n/\Great S' (n::R) H M/\∀ q∈S'.dev.pen,q∈S.dev.pen\/q.1=(n:Int):=by
 rcases h with ⟨_,_,_,h⟩|⟨_,_,_,h⟩|h
 ·omega
 ·omega
 ·exact⟨h.1,h.2.1,h.2.2.1,h.2.2.2.1⟩
theorem zi7 (h:z6 w b db S F) {n:Nat} (hg:Great S R H M) (hu:zE S.sup.pages S.now n=true) (h6:S.now.getD n 0<65535):
  Calls prog 122 #[.pointer (some ⟨b,0,none⟩),.int .u64 (n:Int)] w (Ret fun v w'=>v=.bool true/\yO w b db F S w'):=by
 have hnN:=hg.good.well.lt hu;have hN:=hg.good.dims.n;have hw:wrap .u32 (n:Int)=(n:Int):=by rw[wrap_u32];omega
 apply zmV;unfold S122;refine zd (decide_eq_false (by omega)) ?_;rw[hw];refine zb (zhX h hg hu h6) ?_;rintro _ w1 ⟨rfl,hg1,F1,h1,hF1,hO1⟩;refine⟨_,rfl,zf (by rfl) ?_⟩;refine zb (zfS h1 hg1) ?_;rintro _ w2 ⟨rfl,c',hg2,hst,hD,hle⟩;refine⟨_,rfl,rfl,?_⟩;have hlen:n<S.now.length:=by rw[hg.good.well.len];exact hnN
 obtain⟨u1,u2,u3⟩:=zC.1 hu;have e1:(S.now.set n (S.now.getD n 0+1)).getD n 0=S.now.getD n 0+1:=by rw[yn,if_pos ⟨rfl,hlen⟩]
 have hu1:zE S.sup.pages (S.now.set n (S.now.getD n 0+1)) n=true:=zC.2 ⟨u1,u2,by rw[e1];omega⟩;have ec:c'=S.now:=by
  have hz:atE (S.now.set n (S.now.getD n 0+1)) n=0:=zbY hg1.good.well hu1;rcases hD.inv with ⟨_,a1,_⟩|⟨_,_,a1⟩|⟨a1,_⟩|⟨a1,_⟩|⟨a1,_⟩
  ·exact absurd hz a1
  ·have a2:xB (S.now.set n (S.now.getD n 0+1)) n=S.now:=by
    rw[zc5 hg1.good.well hu1,List.set_set];refine qL (by rw[length_set]) (fun k=>?_);rw[yn,e1];split
    ·rename_i hh;rw[<- hh.1];omega
    ·rfl
   rw[a2]at a1;cases a1;rfl
  ·have:(S.now.set n (S.now.getD n 0+1)).getD n 0=1:=a1;omega
  ·have:(S.now.set n (S.now.getD n 0+1)).getD n 0=1:=a1;omega
  ·have:(S.now.set n (S.now.getD n 0+1)).getD n 0=1:=a1;omega
 subst ec;exact yO.trans hO1 hF1 hst
theorem zd4 {t:UInt8} (ht:t≠4) {x y z:SLC} {i j:Nat} (hij:i<=j) (hx:j<=x.2.2) (hz:j<=z.2.2):
  Calls prog 174 #[.agg (ndV t x y z).toArray,.int .i64 (i:Int),.int .i64 (j:Int)] w (Ret fun v w'=>v=.agg (ndV t (zk x.1 i x.2.2 1,j-i,x.2.2-i) (none,0,0) (zk z.1 i z.2.2 1,j-i,z.2.2-i)).toArray/\Ext w w'):=by
 apply zny;unfold S174;refine zp fun r1 w1 hb1 he1 hr1 hz1=>?_;refine zp fun r2 w2 hb2 he2 hr2 hz2=>?_;refine zN fun w3 he3 hz3 hh3=>?_;have hb1:Blk w3 r1 (ndV t x y z) 201:=(hb1.ext he2).ext he3;have hb2:=hb2.ext he3;refine zJ ((t.toNat:Nat):Int) hb1 (by rfl) ?_;refine zm 1 x hb1 (by rfl) ?_;refine zH ⟨by omega,by omega,by omega⟩ ?_;refine zp fun r5 w4 hb5 he4 hr5 hz5=>?_;have hb1:=hb1.ext he4;have hb2:=hb2.ext he4;have he:=((he1.trans he2).trans he3).trans he4;refine jG (xd hb1 rfl) (ym hb1 rfl) ?_;rw[Int.toNat_natCast,Int.toNat_natCast];refine refill (vs:=ndV t (zk x.1 i x.2.2 1,j-i,x.2.2-i) (none,0,0) (none,0,0)) hb5 (by rfl) (jq _ _ _ _) (by rfl) ?_;intro w5 hb5 hx5 hk5 hz6;have hl1:=hb1.lt;have hl2:=hb2.lt;have hs4:=he4.size;have hs3:=he3.size;have he5:Ext w w5:=hx5 w he (by omega);have hb1:Blk w5 r1 (ndV t x y z) 201:=(hk5 r1 (by omega)).trans hb1;have hb2:=show Blk w5 r2 _ _ from(hk5 r2 (by omega)).trans hb2
 refine zS (ls:=jd) (ndT t x y z) hb1 (by rfl) ?_;refine zb za2 ?_;rintro _ w6 ⟨rfl,he6⟩;refine⟨_,rfl,?_⟩;refine zf (bne_iff_ne.2 (fun e=>ht (UInt8.toNat_inj.1 (by show _=4;omega)))) ?_;have hb1:=hb1.ext he6;have hb2:=hb2.ext he6;have hb5:=hb5.ext he6;have he6':=he5.trans he6;refine zm 3 z hb1 (by rfl) ?_;refine zH ⟨by omega,by omega,by omega⟩ ?_;refine stE (o:=3) hb5 (by rw[zx]) (by show 3<4;omega) ?_;intro w7 hb7 o7;have hb7:Blk w7 r5 (ndV t (zk x.1 i x.2.2 1,j-i,x.2.2-i) (none,0,0) (zk z.1 i z.2.2 1,j-i,z.2.2-i)) 201:=hb7;have he7:Ext w w7:=Only.ext he6' o7 (fun k hk=>by have:k=r5:=hk;omega);refine zS (ls:=jd) (ndT t (zk x.1 i x.2.2 1,j-i,x.2.2-i) (none,0,0) (zk z.1 i z.2.2 1,j-i,z.2.2-i)) hb7 (by rfl) ?_;have hb2:=hb2.only o7 (by omega);refine refill (vs:=ndV t (zk x.1 i x.2.2 1,j-i,x.2.2-i) (none,0,0) (zk z.1 i z.2.2 1,j-i,z.2.2-i)) hb2 (by rfl) (jq _ _ _ _) (by rfl) ?_;intro w8 hb8 hx8 hk8 hz8;refine zS (ls:=jd) (ndT t (zk x.1 i x.2.2 1,j-i,x.2.2-i) (none,0,0) (zk z.1 i z.2.2 1,j-i,z.2.2-i)) hb8 (by rfl) ?_;exact⟨rfl,hx8 w he7 (by omega)⟩
theorem zqq {S:Spa} (h:zao S) {k:Nat} (hk:4*k<=S.r0):S.room k=(S.r0:Int)-4*k:=by
 obtain⟨h0,h1,h2,h3⟩:=xK h;have:zM S.sup.size-2=(S.r0:Int):=by rw[h.room];omega
 unfold Spa.room;rw[this,if_neg (by omega)]
theorem zkL (a b:List Nat):k8B (a++b)=k8B a++k8B b:=by
 unfold k8B;rw[flatMap_append]
theorem zkM (h:z6 w b db S F) {t:UInt8} (ht:t≠4) (ht3:3<=t.toNat) {ks vs:List Nat} {x y z:SLC} (hg:Great S (vs++R) H M) (hpen:S.dev.pen.length<=900000) (hkx:Sli (zw .u64) w x.1 x.2.1 ks) (hvz:Sli (zw .u32) w z.1 z.2.1 vs) (hA:∀ a,z.1=some a->¬F a.block)
  (hlen:ks.length=vs.length) (h64:∀ k∈ks,k<18446744073709551616) (hfit:12*ks.length<=S.r0) (hf:S.sup.pages.length<S.zY):
  Calls prog 175 #[.agg (ndV t x y z).toArray,.pointer (some ⟨b,0,none⟩)] w (Ret fun v w'=>∃ (S':Spa) (k:Nat),v=.tuple #[.int .u32 (k:Int),.int .i64 0]/\kg S S' (t,vs,mkB (k8B ks)) k/\Great S' (k::R) H M/\yO w b db F S' w'):=by
 obtain⟨q0,q1,q2,q3⟩:=xK hg.good.dims;have hxl:=hkx.len;have hzl:=hvz.len;apply znz;unfold S175;refine zp fun r1 w1 hb1 he1 hr1 hz1=>?_;have hb1:Blk w1 r1 (ndV t x y z) 201:=hb1;refine zm 1 x hb1 (by rfl) ?_;dsimp only;refine zy (fun q w'=>∃ (i:Nat) (A:Option Addr) (c:Nat),i<=ks.length/\q=((A,8*i,c),(i:Int),())/\Ext w w'/\Ext w1 w'/\Own 5 w' w1.heap.size A (8*i) c (bV (k8B (ks.take i)))) (fun q=>(ks.length-q.2.1).toNat) ⟨0,none,0,by omega,rfl,he1,Ext.refl _,Own.nil _ _ _⟩ ?_;rintro _ w2 ⟨i,A,c,hi,rfl,he2,he12,ho⟩;dsimp only;have hb2:=hb1.ext he12
 by_cases hlt:i<ks.length
 ·refine zf (decide_eq_true (by omega)) ?_;refine ya (hkx.ext he2) (by omega) (by omega) ?_;rw[Int.toNat_natCast];have hk:ks.getD i 0<18446744073709551616:=by
   rw[getD_eq_getElem?_getD,List.getElem?_eq_getElem hlt];exact h64 _ (getElem_mem _)
  refine zb (xy (k:=8) ho he12.size (by omega) hk (by omega) (by omega)) ?_;rintro _ w3 ⟨u,rfl,ho3,hg3⟩;refine⟨u,rfl,?_⟩;have hb3:Blk w3 r1 (ndV t x y z) 201:=hb2.grown hg3.grown (fun hh=>by have:=ho.row' _ hh.symm;have:=hb1.lt;omega);have he3:Ext w w3:=he2.grown hg3.grown (fun j hj=>by have:=ho.row' _ hj;omega);have he13:Ext w1 w3:=he12.grown hg3.grown (fun j hj=>ho.row' _ hj);refine zS (ls:=jd) (ndT t x y z) hb3 (by rfl) ?_;refine zb za2 ?_;rintro _ w4 ⟨rfl,he4⟩;refine⟨_,rfl,?_⟩;refine zd (by rw[show(((t.toNat:Nat):Int) !=4)=true from bne_iff_ne.2 (fun e=>ht (UInt8.toNat_inj.1 (by show _=4;omega)))];rfl) ?_;have hul:u.2.1=8*(i+1):=by
   have h1:=ho3.sl.blen;rw[length_append,zA,uF,length_take]at h1;omega
  obtain⟨u1,u2,u3⟩:=u;dsimp only at hul ho3 ⊢;subst hul;refine⟨⟨i+1,u1,u3,by omega,by rw[wrap_i64 (by omega) (by omega)];rfl,he3.trans he4,he13.trans he4,?_⟩,by rw[wrap_i64 (by omega) (by omega)];omega⟩;have e:k8B (ks.take (i+1))=k8B (ks.take i)++le 8 (ks.getD i 0):=by
   rw[take_succ_eq_append_getElem hlt,zkL,getD_eq_getElem?_getD,List.getElem?_eq_getElem hlt];simp[k8B]
  rw[e];exact ho3.ext he4
 ·obtain rfl:i=ks.length:=by omega
  refine zd (decide_eq_false (by omega)) ?_;rw[take_of_length_le (by omega)]at ho;refine zJ ((t.toNat:Nat):Int) hb2 (by rfl) ?_;refine zm 3 z hb2 (by rfl) ?_;refine qY (e:=5) (by kernel_rfl) (by kernel_rfl) (by kernel_rfl) ho.sl ?_;have hsz:(mkB (k8B ks)).size=8*ks.length:=by rw[yu,xC,uF]
  refine zb (zhW (p:=(t,vs,mkB (k8B ks))) (h.ext he2) hg hpen (hvz.ext he2) hA ht3 (by show(vs.length:Int)<=_;rw[q0];omega) (by show(mkB (k8B ks)).size<=_;omega)) ?_;rintro _ w3 ⟨S',k,e,rfl,hR,hst⟩;obtain⟨rfl,g1,g2,_⟩:=hR.good (by show((mkB (k8B ks)).size:Int)<=S.room vs.length;rw[zqq hg.good.dims (by omega)];omega) hf;exact⟨((k:Int),0,()),rfl,S',k,rfl,g1,g2,yO.trans (Only.zz he2) (fun k hk=>.inl hk) hst⟩
end V
/- Contracts of the package tree:shut. -/
namespace V
open Go Go.Proofs Go.RowKit Crc
variable {w w':World} {b db:Nat} {S:Spa} {F:Nat->Prop} {R H:List Nat} {M:Option (List Nat)}
theorem zi8 (h:z6 w b db S F) (hd:zao S) {t:UInt8} (ht:t≠4):Calls prog 173 #[.pointer (some ⟨b,0,none⟩),.int .u8 (t.toNat:Int)] w (Ret fun v w'=>v=.int .i64 ((S.r0 / 12:Nat):Int)/\Ext w w'):=by
 obtain⟨q0,q1,q2,q3⟩:=xK hd;apply znx;unfold S173;refine zd (beq_eq_false_iff_ne.2 (fun e=>ht (UInt8.toNat_inj.1 (by show _=4;omega)))) ?_;obtain⟨Fd,x,hb,hr,nb,nr,m,h'⟩:=h;refine zb (ja h' (k:=0) (by omega) (by omega)) ?_;rintro _ w1 ⟨rfl,he⟩;refine⟨_,rfl,?_,he⟩;rw[q0,show Int.tdiv ((S.r0:Nat):Int) 12=((S.r0 / 12:Nat):Int) from rfl,wrap_i64 (by omega) (by omega)]
theorem Owni.ne {α β:Type} {E:Enc α} {E':Enc β} {e e':TypeId} {w:World} {B B' n n' c c':Nat} {A A':Option Addr} {xs:List α} {ys:List β} (h:Owni E e w B A n c xs) (h':Owni E' e' w B' A' n' c' ys) (he:e≠e'):∀ j,orow A=some j->orow A'≠some j:=by
 intro j hj hj';rcases h.2 with ⟨hv,_⟩|⟨g,cap,cur,hv,_,hg,_⟩
 ·injection hv with hv;subst hv;cases hj
 ·rcases h'.2 with ⟨hv',_⟩|⟨g',cap',cur',hv',_,hg',_⟩
  ·injection hv' with hv';subst hv';cases hj'
  ·injection hv with hv
   injection hv' with hv'
   subst hv;subst hv';have e1:g=j:=Option.some.inj hj;have e2:g'=j:=Option.some.inj hj';subst e1;subst e2;rw[hg]at hg';injection hg' with hg'
   injection hg' with _ e3 _
   exact he e3
def lo (n N i:Nat):Nat:=i*n / N
def prt (n N i:Nat) (l:List Nat):List Nat:=(l.drop (lo n N i)).take (lo n N (i+1)-lo n N i)
theorem zjI (n N:Nat):lo n N 0=0:=by simp[lo]
theorem zlT {n N:Nat} (hN:1<=N):lo n N N=n:=by unfold lo;exact Nat.mul_div_cancel_left n (by omega)
theorem zh0 {n N i fit:Nat} (hf:2<=fit) (hN1:1<=N) (hN2:N<=2) (hNn:N<=n) (hn:n<=N*fit) (hi:i<N):lo n N i<lo n N (i+1)/\lo n N (i+1)<=n/\lo n N (i+1)-lo n N i<=fit:=by
 unfold lo;rcases (show N=1\/N=2 by omega) with rfl|rfl
 ·obtain rfl:i=0:=by omega
  simp;omega
 ·rcases (show i=0\/i=1 by omega) with rfl|rfl<;>simp<;>omega
theorem zlU {n N i:Nat} {l:List Nat} (h:lo n N i<=lo n N (i+1)):prt n N i l++l.drop (lo n N (i+1))=l.drop (lo n N i):=by
 unfold prt
 conv=>rhs;rw[<- List.take_append_drop (lo n N (i+1)-lo n N i) (l.drop (lo n N i))]
 rw[drop_drop,show lo n N i+(lo n N (i+1)-lo n N i)=lo n N (i+1) by omega]
theorem zlV {w:World} {r:Nat} {t:UInt8} {x y z:SLC} {ty:TypeId} (h:Blk w r (ndV t x y z) ty):∀ p∈[((aD r).add 0,Value.int .u8 (t.toNat:Int)),((aD r).add 1,.slice x.1 x.2.1 x.2.2),((aD r).add 2,.slice y.1 y.2.1 y.2.2),((aD r).add 3,.slice z.1 z.2.1 z.2.2)],w.cell? p.1=some p.2:=by
 intro p hp;simp only [mem_cons,not_mem_nil,or_false]at hp;rcases hp with rfl|rfl|rfl|rfl<;>simp only [zx,h.cell]<;>rfl
def zfe (S:Spa) (t:UInt8) (n N i:Nat) (ks vs ps:List Nat):Prop:=∀ j,j<i->S.page (ps.getD j 0)=((t,prt n N j vs,mkB (k8B (prt n N j ks))),0)/\zE S.sup.pages S.now (ps.getD j 0)=true
theorem zgv {A:Option Addr} {l m z:Nat} {a:Addr} (h:zk A l m z=some a):∃ a0,A=some a0/\a.block=a0.block:=by
 unfold zk at h;split at h
 ·exact⟨a,h,rfl⟩
 ·cases A with
  |none=>cases h
  |some a0=>
   injection h with h
   refine⟨a0,rfl,?_⟩;rw[<- h];show(a0.add (l*z)).block=a0.block;unfold Addr.add;split<;>rfl
theorem vw {n N i:Nat} {l:List Nat} (hl:l.length=n) (h2:lo n N (i+1)<=n) (h1:lo n N i<=lo n N (i+1)):(prt n N i l).length=lo n N (i+1)-lo n N i:=by
 unfold prt;rw[length_take,length_drop];omega
theorem zjJ {n N i:Nat} {l:List Nat}:∀ k∈prt n N i l,k∈l:=fun k hk=>List.mem_of_mem_drop (List.mem_of_mem_take hk)
theorem zqr {n N i:Nat} {l:List Nat} (h:lo n N i<lo n N (i+1)):(prt n N i l).getD 0 0=l.getD (lo n N i) 0:=by
 unfold prt;rw[getD_take (by omega),uk,Nat.add_zero]
theorem Sli.prt {k:IntKind} {w:World} {x:SLC} {l:List Nat} {n N i:Nat} (h:Sli (zw k) w x.1 x.2.1 l) (hc:x.2.1<=x.2.2) (hn:l.length=n) (h2:lo n N (i+1)<=n) (h1:lo n N i<lo n N (i+1)):Sli (zw k) w (zk x.1 (lo n N i) x.2.2 1) (lo n N (i+1)-lo n N i) (V.prt n N i l):=by
 have hl:=h.len;exact h.cut (l:=lo n N i) (k:=lo n N (i+1)-lo n N i) (m:=x.2.2) (z:=1) rfl (by omega) (by omega)
theorem zfe.next {S S':Spa} {t:UInt8} {n N i k:Nat} {ks vs ps:List Nat} (h:zfe S t n N i ks vs ps) (hp:kg S S' (t,prt n N i vs,mkB (k8B (prt n N i ks))) k) (hg:Good S R) (hl:ps.length=i):zfe S' t n N (i+1) ks vs (ps++[k]):=by
 have hlen:k<S.now.length:=by rw[hg.well.len];exact hp.lt
 intro j hj
 by_cases e:j<i
 ·obtain⟨h1,h2⟩:=h j e;have e1:(ps++[k]).getD j 0=ps.getD j 0:=by rw[getD_eq_getElem?_getD,List.getElem?_append_left (by omega),<- getD_eq_getElem?_getD]
  rw[e1];obtain⟨u1,u2,u3⟩:=zC.1 h2;have hne:ps.getD j 0≠k:=fun e=>by
   have:=(zU.1 hp.free).1;rw[<- e]at this;omega
  refine⟨(hp.other _ hne (hg.well.lt h2)).trans h1,?_⟩;rw[hp.sup];refine zC.2 ⟨u1,u2,?_⟩;rw[hp.now,yn,if_neg (fun e=>hne e.1.symm)];exact u3
 ·obtain rfl:j=i:=by omega
  have e1:(ps++[k]).getD j 0=k:=by rw[getD_eq_getElem?_getD,List.getElem?_append_right (by omega),hl,Nat.sub_self];rfl
  rw[e1,hp.sup];refine⟨hp.page,zC.2 ⟨hp.two,hp.pgs,?_⟩⟩;rw[hp.now,yn,if_pos ⟨rfl,hlen⟩];omega
theorem zd5 (h:z6 w b db S F) {t:UInt8} (ht:t≠4) (ht3:3<=t.toNat) {ks vs:List Nat} {x y z:SLC} {N:Nat} (hg:Great S (vs++R) H M) (hpen:S.dev.pen.length<=800000) (hkx:Sli (zw .u64) w x.1 x.2.1 ks) (hxc:x.2.1<=x.2.2) (hvz:Sli (zw .u32) w z.1 z.2.1 vs) (hzc:z.2.1<=z.2.2)
  (hxF:∀ a,x.1=some a->¬F a.block/\a.block<w.heap.size) (hzF:∀ a,z.1=some a->¬F a.block/\a.block<w.heap.size)
  (hlen:ks.length=vs.length) (h64:∀ k∈ks,k<18446744073709551616) (hN:N=(ks.length+S.r0 / 12-1) / (S.r0 / 12)) (hN1:1<=N) (hN2:N<=2) (hNn:N<=ks.length) (hf:S.sup.pages.length+N<=S.zY):
  Calls prog 155 #[.agg (ndV t x y z).toArray,.pointer (some ⟨b,0,none⟩)] w (Ret fun v w'=>∃ (S':Spa) (F':Nat->Prop) (ps:List Nat) (A A2:Option Addr) (c c2:Nat),v=.tuple #[.slice A N c,.slice A2 N c2,.int .i64 0]/\ps.length=N/\Mk S S' ps/\Great S' (ps++R) H M/\zfe S' t ks.length N N ks vs ps/\
   z6 w' b db S' F'/\(∀ k,F' k->F k\/w.heap.size<=k)/\Only F w w'/\Owni (zw .u64) 40 w' w.heap.size A N c ((List.range N).map fun i=>ks.getD (lo ks.length N i) 0)/\Owni (zw .u32) 39 w' w.heap.size A2 N c2 ps/\(∀ j,orow A=some j->¬F' j)/\(∀ j,orow A2=some j->¬F' j)):=by
 obtain⟨q0,q1,q2,q3⟩:=xK hg.good.dims;have hxl:=hkx.len;have hzl:=hvz.len;have hfit:9<=S.r0 / 12/\S.r0 / 12<=339:=by omega
 have hnN:ks.length<=N*(S.r0 / 12):=by
  subst hN;have d1:=Nat.div_add_mod (ks.length+S.r0 / 12-1) (S.r0 / 12);have d2:=Nat.mod_lt (ks.length+S.r0 / 12-1) (show 0<S.r0 / 12 by omega);rw[Nat.mul_comm]at d1;omega
 have hn678:ks.length<=678:=by
  have:N*(S.r0 / 12)<=2*339:=Nat.mul_le_mul hN2 hfit.2;omega
 have hlo:∀ i,i<N->lo ks.length N i<lo ks.length N (i+1)/\lo ks.length N (i+1)<=ks.length/\lo ks.length N (i+1)-lo ks.length N i<=S.r0 / 12:=fun i hi=>zh0 (by omega) hN1 hN2 hNn hnN hi;apply znj;unfold S155;refine zp fun r1 w1 hb1 he1 hr1 hz1=>?_;have hb1:Blk w1 r1 (ndV t x y z) 201:=hb1;refine zJ ((t.toNat:Nat):Int) hb1 (by rfl) ?_;refine zb (zi8 (h.ext he1) hg.good.dims ht) ?_;rintro _ w2 ⟨rfl,he2⟩;refine⟨_,rfl,?_⟩;have he02:=he1.trans he2;have hb2:=hb1.ext he2;have hs1:=he1.size;have hs2:=he2.size;refine zd (decide_eq_false (by omega)) ?_;refine zm 1 x hb2 (by rfl) ?_;refine zH (by omega) ?_;have eN:wrap .i64 (Int.tdiv (wrap .i64 (wrap .i64 (((x.2.1:Nat):Int)+((S.r0 / 12:Nat):Int))-1)) ((S.r0 / 12:Nat):Int))=(N:Int):=by
  rw[wrap_i64 (x:=((x.2.1:Nat):Int)+((S.r0 / 12:Nat):Int)) (by omega) (by omega),wrap_i64 (x:=((x.2.1:Nat):Int)+((S.r0 / 12:Nat):Int)-1) (by omega) (by omega)];rw[show((x.2.1:Nat):Int)+((S.r0 / 12:Nat):Int)-1=((ks.length+S.r0 / 12-1:Nat):Int) by omega,show Int.tdiv ((ks.length+S.r0 / 12-1:Nat):Int) ((S.r0 / 12:Nat):Int)=(((ks.length+S.r0 / 12-1) / (S.r0 / 12):Nat):Int) from rfl,<- hN,wrap_i64 (by omega) (by omega)]
 rw[eN];have hFlt:=h.lt;refine zy (fun q w'=>∃ (i:Nat) (Si:Spa) (Fi:Nat->Prop) (ps:List Nat) (A A2:Option Addr) (c c2:Nat),i<=N/\q=((A,i,c),(A2,i,c2),(i:Int),())/\ps.length=i/\Mk S Si ps/\Great Si (vs.drop (lo ks.length N i)++(ps++R)) H M/\zfe Si t ks.length N i ks vs ps/\z6 w' b db Si Fi/\(∀ k,Fi k->F k\/w2.heap.size<=k)/\Only F w w'/\w2.heap.size<=w'.heap.size/\Blk w' r1 (ndV t x y z) 201/\
   Owni (zw .u64) 40 w' w2.heap.size A i c ((List.range i).map fun i=>ks.getD (lo ks.length N i) 0)/\Owni (zw .u32) 39 w' w2.heap.size A2 i c2 ps/\(∀ j,orow A=some j->¬Fi j)/\(∀ j,orow A2=some j->¬Fi j)) (fun q=>(N-q.2.2.1).toNat)
  ⟨0,S,F,[],none,none,0,0,by omega,rfl,rfl,Mk.refl S,by rw[zjI];exact hg,fun j hj=>by omega,h.ext he02,fun k hk=>.inl hk,Only.zz he02,Nat.le_refl _,hb2,Owni.nil _ _ _,Owni.nil _ _ _,fun j hj=>(by cases hj),fun j hj=>(by cases hj)⟩ ?_
 rintro _ w3 ⟨i,Si,Fi,ps,A,A2,c,c2,hi,rfl,hpl,hMk,hGi,hPg,hSi,hFi,hO,hs3,hb3,hoA,hoB,hAF,hBF⟩;dsimp only
 by_cases hlt:i<N
 ·refine zf (decide_eq_true (by omega)) ?_;obtain⟨l1,l2,l3⟩:=hlo i hlt;refine zN fun w4 he4 hz4 hh4=>?_;have hb4:=hb3.ext he4;refine zS (ls:=jd) (ndT t x y z) hb4 (by rfl) ?_;refine zm 1 x hb4 (by rfl) (zH (by omega) ?_);refine zm 1 x hb4 (by rfl) (zH (by omega) ?_);have hiN:i*ks.length<=1356:=by
   have:i*ks.length<=2*678:=Nat.mul_le_mul (by omega) hn678;omega
  have hiN2:(i+1)*ks.length<=1356:=by
   have:(i+1)*ks.length<=2*678:=Nat.mul_le_mul (by omega) hn678;omega
  have ew:∀ j,j*ks.length<=1356->wrap .i64 (Int.tdiv (wrap .i64 ((j:Int)*((x.2.1:Nat):Int))) (N:Int))=((lo ks.length N j:Nat):Int):=fun j hj=>by
   rw[<- hxl,<- Int.natCast_mul,wrap_i64 (x:=((j*ks.length:Nat):Int)) (by omega) (by omega),show Int.tdiv ((j*ks.length:Nat):Int) (N:Int)=((j*ks.length / N:Nat):Int) from rfl];have:lo ks.length N j<=j*ks.length:=Nat.div_le_self _ _;show wrap .i64 ((lo ks.length N j:Nat):Int)=_;exact wrap_i64 (by omega) (by omega)
  have ei:wrap .i64 ((i:Int)+1)=((i+1:Nat):Int):=by rw[wrap_i64 (by omega) (by omega)];rfl
  rw[ei,show(ndT t x y z).2.1.2.1=x.2.1 from rfl];rw[ew i hiN,ew (i+1) hiN2];have hw4:=he4.size;have hl4:=hb4.lt
  -- both orders come to the same
  refine⟨?a,?b⟩
  case' a=>
   refine zb (zd4 ht (x:=x) (y:=y) (z:=z) (i:=lo ks.length N i) (j:=lo ks.length N (i+1)) (by omega) (by omega) (by omega)) ?_;rintro _ w5 ⟨rfl,he5⟩;refine⟨ndT t (zk x.1 (lo ks.length N i) x.2.2 1,lo ks.length N (i+1)-lo ks.length N i,x.2.2-lo ks.length N i) (none,0,0) (zk z.1 (lo ks.length N i) z.2.2 1,lo ks.length N (i+1)-lo ks.length N i,z.2.2-lo ks.length N i),rfl,?_⟩;refine zp fun rB wB hbB heB hrB hzB=>?_;have heB:=he5.trans heB;have hb5:=hb4.ext heB;refine zqX (xd hb5 rfl) (xd hb5 rfl) (zlV hb5) ?_;have hrB:w4.heap.size<=rB:=by have:=he5.size;omega
  case' b=>
   refine zp fun rB wB' hbB heB' hrB hzB=>?_;have hb5:=hb4.ext heB';refine zqX (xd hb5 rfl) (xd hb5 rfl) (zlV hb5) ?_;refine zb (zd4 ht (x:=x) (y:=y) (z:=z) (i:=lo ks.length N i) (j:=lo ks.length N (i+1)) (by omega) (by omega) (by omega)) ?_;rintro _ wB ⟨rfl,he5⟩;refine⟨ndT t (zk x.1 (lo ks.length N i) x.2.2 1,lo ks.length N (i+1)-lo ks.length N i,x.2.2-lo ks.length N i) (none,0,0) (zk z.1 (lo ks.length N i) z.2.2 1,lo ks.length N (i+1)-lo ks.length N i,z.2.2-lo ks.length N i),rfl,?_⟩;have heB:=heB'.trans he5;have hb5:=hb4.ext heB;have hbB:=hbB.ext he5;have hrB:w4.heap.size<=rB:=by omega
  all_goals
   refine refill (vs:=ndV t (zk x.1 (lo ks.length N i) x.2.2 1,lo ks.length N (i+1)-lo ks.length N i,x.2.2-lo ks.length N i) (none,0,0) (zk z.1 (lo ks.length N i) z.2.2 1,lo ks.length N (i+1)-lo ks.length N i,z.2.2-lo ks.length N i)) hbB (by rfl) (jq _ _ _ _) (by rfl) ?_;intro w6 hb6 hx6 hk6 hz6;have he46:Ext w4 w6:=hx6 w4 heB hrB;have he36:=he4.trans he46;have hs46:=he46.size;have hS6:=hSi.ext he36;have hSlt:=hSi.lt;have o06:Only F w w6:=Only.trans hO (Only.zz (F:=F) he36) (fun j hj=>.inl hj);refine zS (ls:=jd) (ndT t (zk x.1 (lo ks.length N i) x.2.2 1,lo ks.length N (i+1)-lo ks.length N i,x.2.2-lo ks.length N i) (none,0,0) (zk z.1 (lo ks.length N i) z.2.2 1,lo ks.length N (i+1)-lo ks.length N i,z.2.2-lo ks.length N i)) hb6 (by rfl) ?_;have hk6:Sli (zw .u64) w6 (zk x.1 (lo ks.length N i) x.2.2 1) (lo ks.length N (i+1)-lo ks.length N i) (prt ks.length N i ks):=(hkx.only o06 (fun a ha=>(hxF a ha).1)).prt hxc rfl l2 l1;have hv6:Sli (zw .u32) w6 (zk z.1 (lo ks.length N i) z.2.2 1) (lo ks.length N (i+1)-lo ks.length N i) (prt ks.length N i vs):=(hvz.only o06 (fun a ha=>(hzF a ha).1)).prt hzc hlen.symm l2 l1;have hnFi:∀ j,¬F j->j<w2.heap.size->¬Fi j:=fun j h1 h2 hf=>by
    rcases hFi j hf with e|e
    ·exact h1 e
    ·omega
   have hsp:=hMk.sup;have hfr:=hMk.free;have hr0:=hMk.r0;have hpn:=hMk.pen;have hGi':Great Si (prt ks.length N i vs++(vs.drop (lo ks.length N (i+1))++(ps++R))) H M:=by
    rw[<- append_assoc,zlU (Nat.le_of_lt l1)];exact hGi
   have hpll:=vw (l:=ks) (N:=N) (i:=i) rfl l2 (Nat.le_of_lt l1);have hpll2:=vw (l:=vs) (N:=N) (i:=i) hlen.symm l2 (Nat.le_of_lt l1);refine zb (zkM hS6 ht ht3 hGi' (by omega) hk6 hv6 (fun a ha=>?_) (by rw[hpll,hpll2]) (fun k hk=>h64 k (zjJ k hk)) (by rw[hpll,hr0];omega) (by rw[hsp];omega)) ?_
   ·obtain⟨a0,h1,h2⟩:=zgv ha;have:=hzF a0 h1;rw[h2];exact hnFi _ this.1 (by omega)
   rintro _ w7 ⟨S',k,rfl,hP,hG7,F7,hS7,hF7,hO7⟩;refine⟨((k:Int),0,()),rfl,zd (by rfl) ?_⟩;have hs67:=hO7.2.2.2.1;have hb7:=hb6.only hO7 (fun hf=>by have:=hSlt _ hf;omega);have hrn:∀ a,zk x.1 (lo ks.length N i) x.2.2 1=some a->¬Fi a.block:=fun a ha=>by
    obtain⟨a0,h1,h2⟩:=zgv ha;have:=hxF a0 h1;rw[h2];exact hnFi _ this.1 (by omega)
   refine zm 1 ((zk x.1 (lo ks.length N i) x.2.2 1,lo ks.length N (i+1)-lo ks.length N i,x.2.2-lo ks.length N i):SLC) hb7 (by rfl) ?_;refine ya (hk6.only hO7 hrn) (by omega) (by dsimp only;omega) ?_;rw[show Int.toNat 0=0 from rfl,zqr l1];have hA7:=(hoA.ext he36).only hO7 hAF;have hB7:=(hoB.ext he36).only hO7 hBF;refine yT (E:=zw .u64) (ys:=[ks.getD (lo ks.length N i) 0]) (by rfl) rfl kT hA7 (by omega) (by omega) (by omega) ?_;intro A3 c3 w8 hA8 hg8;have hs78:=hg8.grown.size;have hB8:=hB7.grown hg8.grown (fun j hj=>hA7.ne hB7 (by decide) j hj);refine yT (E:=zw .u32) (ys:=[k]) (by rfl) rfl jR hB8 (by omega) (by omega) (by omega) ?_;intro A4 c4 w9 hB9 hg9;have hs89:=hg9.grown.size;have hA9:=hA8.grown hg9.grown (fun j hj=>hB8.ne hA8 (by decide) j hj);have hrA:∀ j,orow A=some j->¬F7 j:=fun j hj hf=>by
    have:=hoA.ye j hj;rcases hF7 j hf with e|e
    ·exact hAF j hj e
    ·omega
   have hrB':∀ j,orow A2=some j->¬F7 j:=fun j hj hf=>by
    have:=hoB.ye j hj;rcases hF7 j hf with e|e
    ·exact hBF j hj e
    ·omega
   have h7lt:=hS7.lt;have o79:Only (fun j=>orow A=some j\/orow A2=some j) w7 w9:=Only.trans (Only.zV hg8.grown (fun j hj=>.inl (.inl hj))) (Only.zV (F:=fun j=>orow A2=some j) hg9.grown (fun j hj=>.inl hj)) (fun j hj=>.inl (.inr hj));have hF72:∀ k,F7 k->F k\/w2.heap.size<=k:=fun k hk=>by
    rcases hF7 k hk with e|e
    ·exact hFi k e
    ·exact .inr (by omega)
   have hF2w:∀ k,Fi k->F k\/w.heap.size<=k:=fun k hk=>by
    rcases hFi k hk with e|e
    ·exact .inl e
    ·exact .inr (by omega)
   have hO9:Only F w w9:=Only.trans (Only.trans o06 hO7 hF2w) o79 (fun j hj=>.inr (by
    rcases hj with e|e
    ·have:=hoA.row j e;omega
    ·have:=hoB.row j e;omega))
   have hb9:Blk w9 r1 (ndV t x y z) 201:=((hb3.ext he36).only hO7 (hnFi _ (fun hf=>by have:=hFlt _ hf;omega) (by have:=hb2.lt;omega))).only o79 (fun hj=>by
    rcases hj with e|e
    ·have:=hoA.row _ e;have:=hb2.lt;omega
    ·have:=hoB.row _ e;have:=hb2.lt;omega)
   refine⟨⟨i+1,S',F7,ps++[k],A3,A4,c3,c4,by omega,rfl,by rw[length_append,hpl];rfl,hMk.trans (hP.mk_ hGi.good.well.len),?_,hPg.next hP hGi.good hpl,hS7.only o79 (fun j hj e=>by
    rcases e with e|e
    ·exact hrA j e hj
    ·exact hrB' j e hj),hF72,hO9,by omega,hb9,?_,hB9,fun j hj hf=>?_,fun j hj hf=>?_⟩,by omega⟩
   ·refine hG7.perm ?_;rw[show vs.drop (lo ks.length N (i+1))++((ps++[k])++R)=(vs.drop (lo ks.length N (i+1))++ps)++k::R by simp,<- append_assoc (vs.drop (lo ks.length N (i+1)))];exact List.perm_middle.symm
   ·rw[range_succ,map_append];exact hA9
   ·rcases hg8.next j hj with e|e
    ·exact hrA j e hf
    ·have:=h7lt j hf;omega
   ·rcases hg9.next j hj with e|e
    ·exact hrB' j e hf
    ·have:=h7lt j hf;omega
 ·obtain rfl:i=N:=by omega
  refine zd (decide_eq_false (by omega)) ?_;rw[zlT hN1,drop_of_length_le (by omega)]at hGi;refine⟨Si,Fi,ps,A,A2,c,c2,rfl,hpl,hMk,hGi,hPg,hSi,fun k hk=>?_,hO,hoA.lower (by omega),hoB.lower (by omega),hAF,hBF⟩;rcases hFi k hk with e|e
  ·exact .inl e
  ·exact .inr (by omega)
end V
/- Contracts of the package tree:root,Build. -/
namespace V
open Go Go.Proofs Go.RowKit Crc
variable {w w':World} {b db:Nat} {S:Spa} {F:Nat->Prop} {R H:List Nat} {M:Option (List Nat)}
theorem zh1 {x y z:SLC} {k:Nat} {deep:Nat} (hx:x.2.1=1) (hz:Sli (zw .u32) w z.1 z.2.1 [k]):Calls prog 123 #[.agg (ndV 3 x y z).toArray,.pointer (some ⟨b,0,none⟩),.int .i64 (deep:Int)] w (Ret fun v w'=>v=.tuple #[.int .u32 (k:Int),.int .i64 0]/\Ext w w'):=by
 have hzl:1=z.2.1:=hz.len;apply zen;unfold S123;refine zp fun r1 w1 hb1 he1 hr1 hz1=>?_;have hb1:Blk w1 r1 (ndV 3 x y z) 201:=hb1;refine yq (fun _ _=>False) (fun _ _ h=>h.elim) (fun J hJ=>?_);refine zm 1 x hb1 (by rfl) ?_;refine zd (beq_eq_false_iff_ne.2 (by omega)) ?_;refine zS (ls:=jd) (ndT 3 x y z) hb1 (by rfl) ?_;refine zb qD ?_;rintro _ w2 ⟨rfl,he2⟩;refine⟨_,rfl,zf (by rfl) ?_⟩;have hb2:=hb1.ext he2;have he:=he1.trans he2;refine zm 3 z hb2 (by rfl) (zf (beq_iff_eq.2 (by omega)) ?_);refine zm 3 z hb2 (by rfl) ?_;refine ya (hz.ext he) (by omega) (by omega) ?_;exact⟨rfl,he⟩
structure zjK (S S':Spa) (n:Nat) (ks vs ls R H:List Nat) (M:Option (List Nat)):Prop where
 made:Mk S S' ls
 great:Great S' (n::R) H M
 tree:jC S' n ks vs
 few:ls.length<=3
theorem zdD {n:Nat} {l:List Nat} (h:l.length=n):prt n 1 0 l=l:=by
 unfold prt lo;subst h;simp
theorem zqs (h:z6 w b db S F) {k0 k1 p q:Nat} {x y z:SLC} (hg:Great S ([p,q]++R) H M) (hpen:S.dev.pen.length<=800000) (hkx:Sli (zw .u64) w x.1 x.2.1 [k0,k1]) (hxc:x.2.1<=x.2.2) (hvz:Sli (zw .u32) w z.1 z.2.1 [p,q]) (hzc:z.2.1<=z.2.2)
  (hxF:∀ a,x.1=some a->¬F a.block/\a.block<w.heap.size) (hzF:∀ a,z.1=some a->¬F a.block/\a.block<w.heap.size) (h0:k0<18446744073709551616) (h1:k1<18446744073709551616) (hf:S.sup.pages.length+1<=S.zY):
  Calls prog 123 #[.agg (ndV 3 x y z).toArray,.pointer (some ⟨b,0,none⟩),.int .i64 2] w (Ret fun v w'=>∃ (S':Spa) (n:Nat),v=.tuple #[.int .u32 (n:Int),.int .i64 0]/\Mk S S' [n]/\S'.page n=(((3:UInt8),[p,q],mkB (k8B [k0,k1])),0)/\Great S' (n::R) H M/\yO w b db F S' w'):=by
 obtain⟨q0,q1,q2,q3⟩:=xK hg.good.dims;have hxl:2=x.2.1:=hkx.len;have hzl:2=z.2.1:=hvz.len;apply zen;unfold S123;refine zp fun r1 w1 hb1 he1 hr1 hz1=>?_;have hb1:Blk w1 r1 (ndV 3 x y z) 201:=hb1;refine yq (fun _ w'=>Ext w1 w') ?_ (fun J hJ=>?_);rotate_left
 ·refine zm 1 x hb1 (by rfl) ?_;refine zd (beq_eq_false_iff_ne.2 (by omega)) ?_;refine zS (ls:=jd) (ndT 3 x y z) hb1 (by rfl) ?_;refine zb qD ?_;rintro _ w2 ⟨rfl,he2⟩;refine⟨_,rfl,zf (by rfl) ?_⟩;refine zm 3 z (hb1.ext he2) (by rfl) (zd (beq_eq_false_iff_ne.2 (by omega)) ?_);exact zd (by decide) (hJ _ _ he2)
 rintro _ w2 he2;have he:=he1.trans he2;refine zS (ls:=jd) (ndT 3 x y z) (hb1.ext he2) (by rfl) ?_;have hs:=he.size;have hN:1=([k0,k1].length+S.r0 / 12-1) / (S.r0 / 12):=by
  show 1=(2+S.r0 / 12-1) / (S.r0 / 12);refine(Nat.div_eq_of_lt_le ?_ ?_).symm<;>omega
 refine zb (zd5 (h.ext he) (t:=3) (by decide) (by decide) hg hpen (hkx.ext he) hxc (hvz.ext he) hzc (fun a ha=>⟨(hxF a ha).1,by have:=(hxF a ha).2;omega⟩) (fun a ha=>⟨(hzF a ha).1,by have:=(hzF a ha).2;omega⟩) rfl (fun k hk=>?_) hN (by omega) (by omega) (by simp) hf) ?_
 ·simp only [mem_cons,not_mem_nil,or_false]at hk;rcases hk with rfl|rfl
  ·exact h0
  ·exact h1
 rintro _ w3 ⟨S',F',ps,A,A2,c,c2,rfl,hpl,hMk,hG,hPg,hS3,hF3,hO3,hoA,hoB,hAF,hBF⟩;refine⟨((A,1,c),(A2,1,c2),0,()),rfl,zd (by rfl) ?_⟩;dsimp only;rw[show wrap .i64 (2+1)=((3:Nat):Int) by decide];show ze _ _ [.agg (ndV 3 (A,1,c) (none,0,0) (A2,1,c2)).toArray,_,_] _ _ w3
 match ps,hpl with
 |[n],_=>
  refine zb (zh1 rfl (deep:=3) hoB.sl) ?_;rintro _ w4 ⟨rfl,he4⟩;refine⟨((n:Int),0,()),rfl,S',n,rfl,hMk,?_,hG,F',hS3.ext he4,fun k hk=>?_,?_⟩
  ·have:=(hPg 0 (by omega)).1;rw[zdD (n:=[k0,k1].length) (l:=[p,q]) rfl,zdD (l:=[k0,k1]) rfl]at this;exact this
  ·rcases hF3 k hk with e|e
   ·exact .inl e
   ·exact .inr (by omega)
  ·exact Only.trans (Only.trans (Only.zz he) hO3 (fun j hj=>.inl hj)) (Only.zz (F:=F) he4) (fun j hj=>.inl hj)
theorem zi9 (h:z6 w b db S F) {ks vs:List Nat} {x y z:SLC} (hg:Great S (vs++R) H M) (hpen:S.dev.pen.length<=700000) (hkx:Sli (zw .u64) w x.1 x.2.1 ks) (hxc:x.2.1<=x.2.2) (hvz:Sli (zw .u32) w z.1 z.2.1 vs) (hzc:z.2.1<=z.2.2)
  (hxF:∀ a,x.1=some a->¬F a.block/\a.block<w.heap.size) (hzF:∀ a,z.1=some a->¬F a.block/\a.block<w.heap.size)
  (hlen:ks.length=vs.length) (h64:∀ k∈ks,k<18446744073709551616) (h1:1<=ks.length) (h2:ks.length<=2*(S.r0 / 12)) (hrise:xT ks=true) (hf:S.sup.pages.length+3<=S.zY):
  Calls prog 123 #[.agg (ndV 5 x y z).toArray,.pointer (some ⟨b,0,none⟩),.int .i64 1] w (Ret fun v w'=>∃ (S':Spa) (n:Nat) (ls:List Nat),v=.tuple #[.int .u32 (n:Int),.int .i64 0]/\zjK S S' n ks vs ls R H M/\yO w b db F S' w'):=by
 obtain⟨q0,q1,q2,q3⟩:=xK hg.good.dims;have hxl:=hkx.len;have hzl:=hvz.len;have hfit:9<=S.r0 / 12/\S.r0 / 12<=339:=by omega
 generalize hft:S.r0 / 12=fit at *;obtain⟨N,hN⟩:∃ N,N=(ks.length+fit-1) / fit:=⟨_,rfl⟩;have hN1:1<=N:=by rw[hN,Nat.le_div_iff_mul_le (by omega)];omega
 have hN2:N<=2:=by
  rw[hN];refine Nat.le_of_lt_succ ((Nat.div_lt_iff_lt_mul (by omega)).2 ?_);show _<3*fit;omega
 have hNn:N<=ks.length:=by
  rw[hN];refine Nat.le_of_lt_succ ((Nat.div_lt_iff_lt_mul (by omega)).2 ?_);have:ks.length*1<=ks.length*fit:=Nat.mul_le_mul_left _ (by omega);rw[Nat.succ_mul];omega
 apply zen;unfold S123;refine zp fun r1 w1 hb1 he1 hr1 hz1=>?_;have hb1:Blk w1 r1 (ndV 5 x y z) 201:=hb1;refine yq (fun _ w'=>Ext w1 w') ?_ (fun J hJ=>?_);rotate_left
 ·refine zm 1 x hb1 (by rfl) ?_;refine zd (beq_eq_false_iff_ne.2 (by omega)) ?_;refine zS (ls:=jd) (ndT 5 x y z) hb1 (by rfl) ?_;refine zb qD ?_;rintro _ w2 ⟨rfl,he2⟩;refine⟨_,rfl,zd (by rfl) ?_⟩;exact zd (by decide) (hJ _ _ he2)
 rintro _ w2 he2;have he:=he1.trans he2;refine zS (ls:=jd) (ndT 5 x y z) (hb1.ext he2) (by rfl) ?_;have hs:=he.size;refine zb (zd5 (h.ext he) (t:=5) (by decide) (by decide) hg (by omega) (hkx.ext he) hxc (hvz.ext he) hzc (fun a ha=>⟨(hxF a ha).1,by have:=(hxF a ha).2;omega⟩) (fun a ha=>⟨(hzF a ha).1,by have:=(hzF a ha).2;omega⟩) hlen h64 (by rw[hft];exact hN) hN1 hN2 hNn (by omega)) ?_;rintro _ w3 ⟨S',F',ps,A,A2,c,c2,rfl,hpl,hMk,hG,hPg,hS3,hF3,hO3,hoA,hoB,hAF,hBF⟩;refine⟨((A,N,c),(A2,N,c2),0,()),rfl,zd (by rfl) ?_⟩;dsimp only;rw[show wrap .i64 (1+1)=((2:Nat):Int) by decide];have hst3:yO w b db F S' w3:=⟨F',hS3,fun k hk=>by rcases hF3 k hk with e|e;exact .inl e;exact .inr (by omega),Only.trans (Only.zz he) hO3 (fun j hj=>.inl hj)⟩;show ze _ _ [.agg (ndV 3 (A,N,c) (none,0,0) (A2,N,c2)).toArray,_,_] _ _ w3;have hpart:∀ j,j<N->jB S' (ps.getD j 0) (prt ks.length N j ks) (prt ks.length N j vs):=fun j hj=>by
  obtain⟨l1,l2,l3⟩:=zh0 (fit:=fit) (by omega) hN1 hN2 hNn (by
   rw[hN]
   have d1:=Nat.div_add_mod (ks.length+fit-1) fit
   have d2:=Nat.mod_lt (ks.length+fit-1) (show 0<fit by omega)
   rw[Nat.mul_comm]at d1
   omega) hj
  refine⟨(hPg j hj).1,?_,?_,zi3 (zi4 hrise _) _,fun k hk=>h64 k (zjJ k hk)⟩
  ·rw[vw rfl l2 (Nat.le_of_lt l1),vw hlen.symm l2 (Nat.le_of_lt l1)]
  ·rw[vw rfl l2 (Nat.le_of_lt l1)];omega
 rcases (show N=1\/N=2 by omega) with e|e
 ·clear hN;subst e
  match ps,hpl with
  |[p],_=>
   refine zb (zh1 rfl (deep:=2) hoB.sl) ?_;rintro _ w4 ⟨rfl,he4⟩;refine⟨((p:Int),0,()),rfl,S',p,[p],rfl,⟨hMk,hG,.one ?_,by simp⟩,?_⟩
   ·have:=hpart 0 (by omega);rw[zdD rfl,zdD hlen.symm]at this;exact this
   ·obtain⟨F4,a1,a2,a3⟩:=hst3;exact⟨F4,a1.ext he4,a2,Only.trans a3 (Only.zz (F:=F) he4) (fun j hj=>.inl hj)⟩
 ·clear hN;subst e
  match ps,hpl with
  |[p,q],_=>
   have hm:lo ks.length 2 1=ks.length / 2:=by unfold lo;rw[Nat.one_mul]
   have hm0:lo ks.length 2 0=0:=zjI _ _;have hm2:lo ks.length 2 2=ks.length:=zlT (by omega);have ekey:((List.range 2).map fun i=>ks.getD (lo ks.length 2 i) 0)=[ks.getD 0 0,ks.getD (ks.length / 2) 0]:=by
    show [ks.getD (lo ks.length 2 0) 0,ks.getD (lo ks.length 2 1) 0]=_;rw[hm,hm0]
   rw[ekey]at hoA;have hAl:=hoA.ye;have hBl:=hoB.ye;have h64':∀ i,ks.getD i 0<18446744073709551616:=fun i=>by
    rw[getD_eq_getElem?_getD];cases hq:ks[i]? with
    |none=>exact(by decide:(0:Nat)<18446744073709551616)
    |some v=>exact h64 v (mem_of_getElem? hq)
   have hsp:=hMk.sup;have hfr:=hMk.free;have hpn:=hMk.pen;have hle:A2=A2:=rfl;simp only [length_cons,length_nil]at hfr hpn;refine zb (zqs (k0:=ks.getD 0 0) (k1:=ks.getD (ks.length / 2) 0) (p:=p) (q:=q) hS3 hG (by omega) (x:=(A,2,c)) (y:=(none,0,0)) (z:=(A2,2,c2)) hoA.sl hoA.le.1 hoB.sl hoB.le.1 (fun a ha=>⟨hAF _ (by rw[show A=some a from ha];rfl),hAl _ (by rw[show A=some a from ha];rfl)⟩) (fun a ha=>⟨hBF _ (by rw[show A2=some a from ha];rfl),hBl _ (by rw[show A2=some a from ha];rfl)⟩) (h64' _) (h64' _) (by rw[hsp];omega)) ?_;rintro _ w4 ⟨S4,n,rfl,hP,hpg,hG4,hst⟩;refine⟨((n:Int),0,()),rfl,S4,n,[p,q]++[n],rfl,⟨hMk.trans hP,hG4,?_,by simp⟩,?_⟩
   ·have a0:=hpart 0 (by omega);have a1:=hpart 1 (by omega);have u0:=(hPg 0 (by omega)).2;have u1:=(hPg 1 (by omega)).2;have kp:∀ j,zE S'.sup.pages S'.now j=true->S4.page j=S'.page j:=fun j hj=>(hP.used hG.good hj).1;unfold prt at a0 a1;rw[hm0,show lo ks.length 2 (0+1)=_ from hm,List.drop_zero,List.drop_zero,Nat.sub_zero]at a0;rw[hm,show lo ks.length 2 (1+1)=_ from hm2]at a1;rw[take_of_length_le (l:=ks.drop _) (by rw[length_drop];omega),take_of_length_le (l:=vs.drop _) (by rw[length_drop];omega)]at a1;exact .two (ks.length / 2) p q (by omega) (by omega) hlen hrise h64 hpg (a0.keep (kp _ u0)) (a1.keep (kp _ u1))
   ·exact yO.trans (Only.trans (Only.zz he) hO3 (fun j hj=>.inl hj)) (fun k hk=>by
     rcases hF3 k hk with e|e
     ·exact .inl e
     ·exact .inr (by omega)) hst
theorem zja (h:z6 w b db S F) {ks vs:List Nat} {x y:SLC} (hg:Great S (vs++R) H M) (hpen:S.dev.pen.length<=700000) (hkx:Sli (zw .u64) w x.1 x.2.1 ks) (hxc:x.2.1<=x.2.2) (hvy:Sli (zw .u64) w y.1 y.2.1 vs)
  (hxF:∀ a,x.1=some a->¬F a.block/\a.block<w.heap.size) (hyF:∀ a,y.1=some a->¬F a.block/\a.block<w.heap.size)
  (hlen:ks.length=vs.length) (h64:∀ k∈ks,k<18446744073709551616) (h1:1<=ks.length) (h2:ks.length<=2*(S.r0 / 12)) (hrise:xT ks=true) (hf:S.sup.pages.length+3<=S.zY) (h6:∀ v∈vs,S.now.getD v 0<65535):
  Calls prog 77 #[.pointer (some ⟨b,0,none⟩),.bool true,.slice x.1 x.2.1 x.2.2,.slice y.1 y.2.1 y.2.2] w (Ret fun v w'=>∃ (S':Spa) (n:Nat) (ls:List Nat),v=.tuple #[.int .u32 (n:Int),.int .i64 0]/\zjK S S' n ks vs ls R H M/\yO w b db F S' w'):=by
 obtain⟨q0,q1,q2,q3⟩:=xK hg.good.dims;have hxl:=hkx.len;have hyl:=hvy.len;have hFlt:=h.lt;have hvu:∀ v∈vs,zE S.sup.pages S.now v=true:=fun v hv=>hg.good.well.root v (mem_append_left _ hv);apply zpV;unfold S77;refine zd (by rfl) ?_;refine zd (bne_eq_false_iff_eq.2 (by omega)) ?_;refine zb (R:=fun v w'=>v=.int .u8 5/\w'=w) ?_ ?_
 ·apply zmU;unfold S121;exact zf (by rfl) ⟨rfl,rfl⟩
 rintro _ w1 ⟨rfl,rfl⟩;refine⟨_,rfl,?_⟩;refine yh (vs:=ndV 5 x y (none,0,0)) (by rfl) (jq _ _ _ _) (fun r2 w2 hb2 he2 hr2=>?_) (by rfl);have hs2:=he2.size;refine zy (fun q w'=>∃ (i:Nat) (Fi:Nat->Prop) (A:Option Addr) (c:Nat),i<=vs.length/\q=((i:Int),())/\z6 w' b db S Fi/\(∀ k,Fi k->F k\/w2.heap.size<=k)/\Only F w1 w'/\w2.heap.size<=w'.heap.size/\Blk w' r2 (ndV 5 x y (A,i,c)) 201/\Owni (zw .u32) 39 w' w2.heap.size A i c (vs.take i)/\(∀ j,orow A=some j->¬Fi j)) (fun q=>(vs.length-q.1).toNat)
  ⟨0,F,none,0,by omega,rfl,h.ext he2,fun k hk=>.inl hk,Only.zz he2,Nat.le_refl _,hb2,Owni.nil _ _ _,fun j hj=>(by cases hj)⟩ ?_
 rintro _ w3 ⟨i,Fi,A,c,hi,rfl,hS3,hFi,hO3,hs3,hb3,ho3,hAF⟩;dsimp only;have hnFi:∀ j,¬F j->j<w2.heap.size->¬Fi j:=fun j h1 h2 hf=>by
  rcases hFi j hf with e|e
  ·exact h1 e
  ·omega
 have hr2l:=hb2.lt
 by_cases hlt:i<vs.length
 ·refine zf (decide_eq_true (by omega)) ?_;have hv3:=hvy.only hO3 (fun a ha=>(hyF a ha).1);have hk3:=hkx.only hO3 (fun a ha=>(hxF a ha).1);have hvi:vs.getD i 0∈vs:=by rw[getD_eq_getElem?_getD,List.getElem?_eq_getElem hlt];exact getElem_mem _
  have hvN:=hg.good.well.lt (hvu _ hvi);have hN:=hg.good.dims.n;refine yq (fun(_:Unit) w'=>∃ (Fj:Nat->Prop) (A':Option Addr) (c':Nat),z6 w' b db S Fj/\(∀ k,Fj k->F k\/w2.heap.size<=k)/\Only F w1 w'/\w2.heap.size<=w'.heap.size/\Blk w' r2 (ndV 5 x y (A',i+1,c')) 201/\Owni (zw .u32) 39 w' w2.heap.size A' (i+1) c' (vs.take (i+1))/\(∀ j,orow A'=some j->¬Fj j)) ?_ (fun J hJ=>?_)
  ·rintro _ w4 ⟨Fj,A',c',g1,g2,g3,g4,g5,g6,g7⟩;exact⟨⟨i+1,Fj,A',c',by omega,by rw[wrap_i64 (by omega) (by omega)];rfl,g1,g2,g3,g4,g5,g6,g7⟩,by rw[wrap_i64 (by omega) (by omega)];omega⟩
  refine ya hv3 (by omega) (by omega) ?_;rw[Int.toNat_natCast];refine yq (fun(_:Unit) w'=>∃ (Fj:Nat->Prop),z6 w' b db S Fj/\(∀ k,Fj k->Fi k\/w3.heap.size<=k)/\Only Fi w3 w') ?_ (fun J9 hJ9=>?_);rotate_left
  ·refine zN fun w4 he4 hz4 hh4=>?_;have used_:∀ {K:WP},True->ze prog 122 [.pointer (some ⟨b,0,none⟩),.int .u64 ((vs.getD i 0:Nat):Int)] (.one (.one .bool)) (fun u:Bool=>za (!u) K (J9 ())) w4:=by
    intro K _;refine zb (zi7 (hS3.ext he4) hg (hvu _ hvi) (h6 _ hvi)) ?_;rintro _ w5 ⟨rfl,F5,g1,g2,g3⟩;exact⟨_,rfl,zd (by rfl) (hJ9 _ _ ⟨F5,g1,fun k hk=>by
     rcases g2 k hk with e|e
     ·exact .inl e
     ·exact .inr (by omega),Only.trans (Only.zz he4) g3 (fun j hj=>.inl hj)⟩)⟩
   by_cases h0:i=0
   ·exact zd (decide_eq_false (by omega)) (zf rfl (used_ trivial))
   ·refine zf (decide_eq_true (by omega)) ?_;rw[show wrap .i64 ((i:Int)-1)=((i-1:Nat):Int) by rw[wrap_i64 (by omega) (by omega)];omega];refine ya (hk3.ext he4) (by omega) (by omega) ?_;refine ya (hk3.ext he4) (by omega) (by omega) ?_;rw[Int.toNat_natCast,Int.toNat_natCast];have:=qS.1 hrise (i-1) (by omega);rw[show i-1+1=i by omega]at this;exact zd (decide_eq_false (by omega)) (zf rfl (used_ trivial))
  rintro _ w4 ⟨F4,hS4,hF4,hO4⟩;refine zf rfl ?_;have hS3lt:=hS3.lt;have hs4:=hO4.2.2.2.1;have hF42:∀ k,F4 k->F k\/w2.heap.size<=k:=fun k hk=>by
   rcases hF4 k hk with e|e
   ·exact hFi k e
   ·exact .inr (by omega)
  have hr2F:¬F r2:=fun hf=>by have:=hFlt _ hf;omega
  have hb4:=hb3.only hO4 (hnFi _ hr2F hr2l);refine zm 3 ((A,i,c):SLC) hb4 (by rfl) ?_;have hw32:wrap .u32 ((vs.getD i 0:Nat):Int)=((vs.getD i 0:Nat):Int):=by rw[wrap_u32];omega
  rw[hw32];have ho4:=ho3.only hO4 hAF;refine yT (E:=zw .u32) (ys:=[vs.getD i 0]) (by rfl) rfl jR ho4 (by omega) (by dsimp only;omega) (by omega) ?_;intro A' c' w5 ho5 hg5;have hs5:=hg5.grown.size;have hb5:=hb4.grown hg5.grown (fun hh=>by have:=ho3.row _ hh.symm;omega);refine stE (o:=3) hb5 (by rw[zx]) (by show 3<4;omega) ?_;intro w6 hb6 o6;have hs6:=o6.2.2.2.1;have hAF4:∀ j,orow A=some j->¬F4 j:=fun j hj hf=>by
   have:=ho3.ye j hj;rcases hF4 j hf with e|e
   ·exact hAF j hj e
   ·omega
  have h4lt:=hS4.lt;have o46:Only (fun j=>orow A=some j\/j=r2) w4 w6:=Only.trans (Only.zV hg5.grown (fun j hj=>.inl (.inl hj))) o6 (fun j hj=>.inl (.inr hj));refine hJ _ _ ⟨F4,A',c',hS4.only o46 (fun j hj e=>by
   rcases e with e|e
   ·exact hAF4 j e hj
   ·rw[e]at hj
    rcases hF42 _ hj with e|e
    ·exact hr2F e
    ·omega),hF42,Only.trans (Only.trans hO3 hO4 (fun j hj=>by
     rcases hFi j hj with e|e
     ·exact .inl e
     ·exact .inr (by omega))) o46 (fun j hj=>.inr (by
     rcases hj with e|e
     ·have:=ho3.row j e;omega
     ·omega)),by omega,hb6,?_,fun j hj hf=>?_⟩
  ·rw[show vs.take (i+1)=vs.take i++[vs.getD i 0] by rw[take_succ_eq_append_getElem hlt,getD_eq_getElem?_getD,List.getElem?_eq_getElem hlt];rfl];exact ho5.only o6 (fun j hj e=>by have:=ho5.row j hj;have:j=r2:=e;omega)
  ·rcases hg5.next j hj with e|e
   ·exact hAF4 j e hf
   ·have:=h4lt j hf;omega
 ·obtain rfl:i=vs.length:=by omega
  refine zd (decide_eq_false (by omega)) ?_;rw[take_of_length_le (by omega)]at ho3;refine zS (ls:=jd) (ndT 5 x y (A,vs.length,c)) hb3 (by rfl) ?_;have hAl:=ho3.ye;refine zb (zi9 hS3 hg hpen (z:=(A,vs.length,c)) (hkx.only hO3 (fun a ha=>(hxF a ha).1)) hxc ho3.sl ho3.le.1 (fun a ha=>⟨hnFi _ (hxF a ha).1 (by have:=(hxF a ha).2;omega),by have:=(hxF a ha).2;omega⟩) (fun a ha=>⟨hAF _ (by rw[show A=some a from ha];rfl),hAl _ (by rw[show A=some a from ha];rfl)⟩) hlen h64 h1 h2 hrise hf) ?_;rintro _ w4 ⟨S',n,ls,rfl,hB,hst⟩;refine⟨((n:Int),0,()),rfl,S',n,ls,rfl,hB,yO.trans hO3 (fun k hk=>?_) hst⟩;rcases hFi k hk with e|e
  ·exact .inl e
  ·exact .inr (by omega)
end V
/- Contracts of the package schema and of the document's answer (17). -/
set_option maxRecDepth 100000
namespace V
open Go Go.Proofs
abbrev Col:=ByteArray×Int×Bool
def qe:Enc Col where
 k:=3
 f c:=[.string c.1,.int .i64 c.2.1,.bool c.2.2]
 len _:=rfl
 one _:=by
  intro v hv
  simp only [mem_cons,not_mem_nil,or_false]at hv
  rcases hv with rfl|rfl|rfl<;>rfl
 pos:=by omega
def letter (c:Nat):Bool:=(97<=c&&c<=122)||(65<=c&&c<=90)||c==95
def digit (c:Nat):Bool:=48<=c&&c<=57
def xt (i c:Nat):Bool:=letter c||(decide (0<i)&&digit c)
theorem uH {i c:Nat}:xt i c=true↔(97<=c/\c<=122)\/(65<=c/\c<=90)\/c=95\/(0<i/\48<=c/\c<=57):=by
 simp only [xt,letter,digit,Bool.or_eq_true,Bool.and_eq_true,decide_eq_true_eq,beq_iff_eq];omega
def zbu (s:List UInt8):Bool:=decide (1<=s.length/\s.length<=32/\∀ i,i<s.length->xt i (s.getD i 0).toNat=true)
def yi (s:List UInt8):Int:=if zbu s then 0 else 170
theorem zd6 {s:List UInt8} (h:s.length<1):yi s=170:=by
 unfold yi zbu;rw[decide_eq_false (by omega)];rfl
theorem zff {s:List UInt8} (h:32<s.length):yi s=170:=by
 unfold yi zbu;rw[decide_eq_false (by omega)];rfl
theorem zgw {s:List UInt8} {i:Nat} (hi:i<s.length) (h:xt i (s.getD i 0).toNat=false):yi s=170:=by
 unfold yi zbu;rw[decide_eq_false (fun hh=>by rw[hh.2.2 i hi]at h;cases h)];rfl
theorem zfg {s:List UInt8} (h1:1<=s.length) (h2:s.length<=32) (h:∀ i,i<s.length->xt i (s.getD i 0).toNat=true):yi s=0:=by
 unfold yi zbu;rw[decide_eq_true ⟨h1,h2,h⟩];rfl
theorem uI (w:World) (s:ByteArray):Calls prog 32 #[.string s] w (Ret fun v w'=>v=.int .i64 (yi (B s))/\Ext w w'):=by
 apply zph;unfold S32;have hsz:=yu s;refine zg (fun h=>?_) (fun h1=>?_)
 ·exact⟨by rw[zd6 (by have:=of_decide_eq_true h;omega)],Ext.refl w⟩
 refine zg (fun h=>?_) (fun h2=>?_)
 ·exact⟨by rw[zff (by have:=of_decide_eq_true h;omega)],Ext.refl w⟩
 have h1:=of_decide_eq_false h1;have h2:=of_decide_eq_false h2;apply yN;refine⟨fun _ w'=>∃ pos,w'.heap[w.heap.size]?=some (.stringIter s pos)/\pos<=s.size/\Ext w w'/\∀ i,i<pos->xt i ((B s).getD i 0).toNat=true,
  fun _ w'=>match w'.heap[w.heap.size]? with|some (.stringIter s pos)=>s.size-pos|_=>0,⟨0,by show(w.heap.push _)[_]?=_;simp,by omega,(Ext.refl w).alloc _,fun i hi=>by omega⟩,?_⟩
 rintro _ w' ⟨pos,hb,hp,he,hok⟩;have hlt:=(Array.getElem?_eq_some_iff.1 hb).1;refine⟨s,pos,hb,fun hps=>?_,fun hps=>?_⟩
 ·have hgo:xt pos ((B s).getD pos 0).toNat=true->((B s).getD pos 0).toNat<128->(fun(_:Unit) w''=>(∃ pos,w''.heap[w.heap.size]?=some (.stringIter s pos)/\pos<=s.size/\Ext w w''/\∀ i,i<pos->xt i ((B s).getD i 0).toNat=true)/\
      (match w''.heap[w.heap.size]? with|some (.stringIter s pos)=>s.size-pos|_=>0)<(match w'.heap[w.heap.size]? with|some (.stringIter s pos)=>s.size-pos|_=>0)) () (yP w' w.heap.size (.stringIter s (pos+(Utf8.decode s pos).2))):=by
   intro hc hlo;have hd:=decode_ascii hps hlo;rw[hd];have hs:=xV (w:=w') (l:=w.heap.size) (o:=.stringIter s (pos+1)) hlt;refine⟨⟨pos+1,hs,by omega,he.yP (Nat.le_refl _) _,fun i hi=>?_⟩,?_⟩
   ·by_cases hip:i=pos
    ·subst hip;exact hc
    ·exact hok i (by omega)
   ·rw[hs,hb];simp only;omega
  have hw2:Ext w (yP w' w.heap.size (.stringIter s (pos+(Utf8.decode s pos).2))):=he.yP (Nat.le_refl _) _;have hbyte:((B s).getD pos 0).toNat<128/\(Utf8.decode s pos).1=((B s).getD pos 0).toNat\/¬((B s).getD pos 0).toNat<128/\128<=(Utf8.decode s pos).1:=by
   by_cases hlo:((B s).getD pos 0).toNat<128
   ·exact .inl ⟨hlo,by rw[decode_ascii hps hlo]⟩
   ·exact .inr ⟨hlo,zhv hps hlo⟩
  have hbad:xt pos (Utf8.decode s pos).1=false->yi (B s)=170:=by
   intro hc;refine zgw (i:=pos) (by omega) ?_;rcases hbyte with ⟨h1,h2⟩|⟨h1,h2⟩
   ·rw[<- h2];exact hc
   ·rw[Bool.eq_false_iff];intro hh;rw[uH]at hh;omega
  have hgood:xt pos (Utf8.decode s pos).1=true->(fun(_:Unit) w''=>(∃ pos,w''.heap[w.heap.size]?=some (.stringIter s pos)/\pos<=s.size/\Ext w w''/\∀ i,i<pos->xt i ((B s).getD i 0).toNat=true)/\
    (match w''.heap[w.heap.size]? with|some (.stringIter s pos)=>s.size-pos|_=>0)<(match w'.heap[w.heap.size]? with|some (.stringIter s pos)=>s.size-pos|_=>0)) () (yP w' w.heap.size (.stringIter s (pos+(Utf8.decode s pos).2))):=by
   intro hc;rcases hbyte with ⟨h1,h2⟩|⟨h1,h2⟩
   ·exact hgo (by rw[<- h2];exact hc) h1
   ·rw[uH]at hc;omega
  clear hgo hbyte;generalize yP w' w.heap.size (.stringIter s (pos+(Utf8.decode s pos).2))=w2 at *;generalize (Utf8.decode s pos).1=c at *;refine zf rfl ?_;refine yq (fun _ w'=>xt pos c=false/\w'=w2) ?_ (fun J6 h6=>?_)
  ·rintro _ w3 ⟨hc,rfl⟩;exact⟨by rw[hbad hc],hw2⟩
  refine yq (fun(x:Bool×Unit) w'=>(x.1=true↔(97<=c/\c<=122)\/(65<=c/\c<=90)\/c=95)/\w'=w2) ?_ (fun J8 h8=>?_)
  ·rintro⟨b,_⟩ w3 ⟨hb',rfl⟩;simp only at hb';have ok:xt pos c=true↔b=true\/(0<pos/\48<=c/\c<=57):=by rw[uH,hb'];omega
   refine zg (fun h=>hgood (ok.2 (.inl h))) (fun hl=>?_);have hb2:¬b=true:=by simp[show b=false from hl]
   have no:¬(0<pos/\48<=c/\c<=57)->J6 () w3:=fun h=>h6 _ _ ⟨by rw[Bool.eq_false_iff,ne_eq,ok];rintro(h1|h1);exact hb2 h1;exact h h1,rfl⟩;refine zg (fun h1=>?_) (fun h1=>no (by have:=of_decide_eq_false h1;omega));refine zg (fun h2=>?_) (fun h2=>no (by have:=of_decide_eq_false h2;omega));refine zg (fun h3=>?_) (fun h3=>no (by have:=of_decide_eq_false h3;omega));have h1:=of_decide_eq_true h1;have h2:=of_decide_eq_true h2;have h3:=of_decide_eq_true h3;exact hgood (ok.2 (.inr ⟨by omega,by omega,by omega⟩))
  ·have hl:∀ b:Bool,(b=true↔(97<=c/\c<=122)\/(65<=c/\c<=90)\/c=95)->J8 (b,()) w2:=fun b hb=>h8 _ _ ⟨hb,rfl⟩;refine zg (fun ha=>?_) (fun ha=>?_)
   ·have ha:=of_decide_eq_true ha;refine zg (fun hb=>hl _ ?_) (fun hb=>?_)
    ·rw[decide_eq_true_eq];have hb:=of_decide_eq_true hb;omega
    ·have hb:=of_decide_eq_false hb;refine zg (fun h3=>?_) (fun h3=>?_)
     ·have h3:=of_decide_eq_true h3;refine zg (fun h4=>hl _ ?_) (fun h4=>hl _ ?_)
      ·rw[decide_eq_true_eq];have h4:=of_decide_eq_true h4;omega
      ·rw[beq_iff_eq];have h4:=of_decide_eq_false h4;omega
     ·exact hl _ (by rw[beq_iff_eq];have h3:=of_decide_eq_false h3;omega)
   ·have ha:=of_decide_eq_false ha;refine zg (fun h3=>?_) (fun h3=>?_)
    ·have h3:=of_decide_eq_true h3;refine zg (fun h4=>hl _ ?_) (fun h4=>hl _ ?_)
     ·rw[decide_eq_true_eq];have h4:=of_decide_eq_true h4;omega
     ·rw[beq_iff_eq];have h4:=of_decide_eq_false h4;omega
    ·exact hl _ (by rw[beq_iff_eq];have h3:=of_decide_eq_false h3;omega)
 ·obtain rfl:pos=s.size:=by omega
  refine zd rfl ?_;exact⟨by rw[zfg (by omega) (by omega) (fun i hi=>hok i (by omega))],he⟩
theorem kG (w:World) (s:ByteArray):Calls prog 12 #[.string s] w (Ret fun v w'=>v=.int .i64 (yi (B s))/\Ext w w'):=by
 apply zoY;unfold S12;have hsz:=yu s;refine zg (fun h=>?_) (fun h1=>?_)
 ·exact⟨by rw[zd6 (by have:=of_decide_eq_true h;omega)],Ext.refl w⟩
 refine zg (fun h=>?_) (fun h2=>?_)
 ·exact⟨by rw[zff (by have:=of_decide_eq_true h;omega)],Ext.refl w⟩
 have h1:=of_decide_eq_false h1;have h2:=of_decide_eq_false h2;refine zy (fun x w'=>w'=w/\∃ i:Nat,i<=s.size/\x=((i:Int),())/\∀ k,k<i->xt k ((B s).getD k 0).toNat=true) (fun x=>(s.size-x.1).toNat) ⟨rfl,0,by omega,rfl,fun k hk=>by omega⟩ ?_;rintro _ _ ⟨rfl,i,hi,rfl,hok⟩;dsimp only;rename_i w2
 by_cases hlt:i<s.size
 ·refine zf (decide_eq_true (by omega)) ?_;rw[wrap_i64 (x:=(i:Int)+1) (by omega) (by omega)];have hbt:bt s (i:Int)=((((B s).getD i 0).toNat:Nat):Int):=by rw[zgZ (by omega) (by omega)];rfl
  rw[hbt];have hbad:xt i ((B s).getD i 0).toNat=false->yi (B s)=170:=zgw (by omega);have hgood:xt i ((B s).getD i 0).toNat=true->∀ k,k<i+1->xt k ((B s).getD k 0).toNat=true:=fun h k hk=>by
   by_cases hki:k=i
   ·subst hki;exact h
   ·exact hok k (by omega)
  generalize ((B s).getD i 0).toNat=c at *;refine yq (fun _ w'=>xt i c=true/\w'=w2) ?_ (fun J6 h6=>?_)
  ·rintro _ w3 ⟨hc,rfl⟩;exact⟨⟨rfl,i+1,by omega,rfl,hgood hc⟩,by omega⟩
  refine⟨⟨by omega,by omega⟩,?_⟩;refine yq (fun(x:Bool×Unit) w'=>(x.1=true↔48<=c/\c<=57)/\w'=w2) ?_ (fun J8 h8=>?_)
  ·rintro⟨d,_⟩ w3 ⟨hd,rfl⟩;simp only at hd;refine yq (fun(x:Bool×Unit) w'=>(x.1=true↔xt i c=false)/\w'=w3) ?_ (fun J7 h7=>?_)
   ·rintro⟨b,_⟩ w4 ⟨hb,rfl⟩;simp only at hb;refine zg (fun h=>⟨by rw[hbad (hb.1 h)],Ext.refl _⟩) (fun h=>h6 _ _ ⟨?_,rfl⟩);cases hc:xt i c with
    |true=>rfl
    |false=>rw[hb.2 hc]at h;cases h
   have ok:=@uH i c;have no:∀ b:Bool,(b=false↔(97<=c/\c<=122)\/(65<=c/\c<=90)\/c=95\/(0<i/\48<=c/\c<=57))->J7 (b,()) w3:=fun b hb=>by
    refine h7 (b,()) w3 ⟨?_,rfl⟩;show b=true↔xt i c=false;cases hc:xt i c with
    |true=>
     have:=hb.2 (ok.1 hc);rw[this];simp
    |false=>
     cases hbb:b with
     |true=>simp
     |false=>
      have:=ok.2 (hb.1 hbb);rw[hc]at this;cases this
   have tail:¬(97<=c/\c<=122)->¬(65<=c/\c<=90)->(za ((c:Int)==(95:Int)) (J7 (false,()))<|za d (J7 ((!(decide ((i:Int)>(0:Int)))),()))<|J7 (true,())) w3:=fun hn1 hn2=>by
    refine zg (fun h=>no _ ?_) (fun h=>?_)
    ·rw[beq_iff_eq]at h;simp only [true_iff];omega
    ·have h:¬((c:Int)=95):=by rw[beq_eq_false_iff_ne]at h;exact h
     refine zg (fun hdd=>no _ ?_) (fun hdd=>no _ ?_)
     ·have:=hd.1 hdd;rw[Bool.not_eq_false',decide_eq_true_eq];omega
     ·have:¬(48<=c/\c<=57):=fun hh=>by rw[hd.2 hh]at hdd;cases hdd
      simp only [Bool.true_eq_false,false_iff];omega
   refine zg (fun ha=>?_) (fun ha=>?_)
   ·have ha:=of_decide_eq_true ha;refine zg (fun hb=>no _ ?_) (fun hb=>?_)
    ·have hb:=of_decide_eq_true hb;simp only [true_iff];omega
    ·have hb:=of_decide_eq_false hb;refine zg (fun h3=>?_) (fun h3=>tail (by omega) (by have h3:=of_decide_eq_false h3;omega));have h3:=of_decide_eq_true h3;refine zg (fun h4=>no _ ?_) (fun h4=>tail (by omega) (by have h4:=of_decide_eq_false h4;omega));have h4:=of_decide_eq_true h4;simp only [true_iff];omega
   ·have ha:=of_decide_eq_false ha;refine zg (fun h3=>?_) (fun h3=>tail (by omega) (by have h3:=of_decide_eq_false h3;omega));have h3:=of_decide_eq_true h3;refine zg (fun h4=>no _ ?_) (fun h4=>tail (by omega) (by have h4:=of_decide_eq_false h4;omega));have h4:=of_decide_eq_true h4;simp only [true_iff];omega
  ·refine zg (fun ha=>?_) (fun ha=>?_)
   ·have ha:=of_decide_eq_true ha;exact h8 _ _ ⟨by rw[decide_eq_true_eq];omega,rfl⟩
   ·have ha:=of_decide_eq_false ha;exact h8 _ _ ⟨by simp only [Bool.false_eq_true,false_iff];omega,rfl⟩
 ·obtain rfl:i=s.size:=by omega
  refine zd (decide_eq_false (by omega)) ?_;exact⟨by rw[zfg (by omega) (by omega) (fun k hk=>hok k (by omega))],Ext.refl _⟩
theorem zh2 {w:World} {c:Col} {a:Addr} {s:ByteArray} (h:w.cell? a=some (.string s)):
  Calls prog 172 #[.agg #[.string c.1,.int .i64 c.2.1,.bool c.2.2],.pointer (some a)] w (Ret fun v w'=>v=.bool (decide (B c.1=B s))/\Ext w w'):=by
 apply znw;unfold S172;apply yN;have he:Ext w (w.alloc (.cells #[(.string c.1),(.int .i64 c.2.1),(.bool c.2.2)] 95)):=(Ext.refl w).alloc _;have hb:Blk (w.alloc (.cells #[(.string c.1),(.int .i64 c.2.1),(.bool c.2.2)] 95)) w.heap.size [(.string c.1),(.int .i64 c.2.1),(.bool c.2.2)] 95:=Blk.new w _ _;refine zn hb (by rfl) ?_;refine zaW (he.cell h) ?_;exact⟨by rw[qh],he⟩
def Tests (g:FuncId):Prop:=∀ (w:World) (c:Col) (a:Addr) (s:ByteArray),w.cell? a=some (.string s)->
  Calls prog g #[.agg #[.string c.1,.int .i64 c.2.1,.bool c.2.2],.pointer (some a)] w (Ret fun v w'=>v=.bool (decide (B c.1=B s))/\Ext w w')
def ki (s:ByteArray) (cs:List Col):Nat:=cs.findIdx fun c=>decide (B c.1=B s)
theorem zh3 {w:World} {A:Option Addr} {n c:Nat} {cs:List Col} {g:FuncId} {a:Addr} {s:ByteArray} (hg:enterable prog g=true) (ht:Tests g) (h:Sli qe w A n cs) (ha:w.cell? a=some (.string s)):
  Calls prog 181 #[.slice A n c,.func (.func g) #[] #[.pointer (some a)]] w (Ret fun v w'=>v=.int .i64 (if ki s cs<n then (ki s cs:Int) else -1)/\Ext w w'):=by
 apply znF;unfold S181;have hl:=h.len;have hle:=h.le;refine zy (fun x w'=>Ext w w'/\∃ i:Nat,i<=n/\x=((i:Int),())/\i<=ki s cs) (fun x=>(n-x.1).toNat) ⟨Ext.refl w,0,by omega,rfl,by omega⟩ ?_;rintro _ w' ⟨he,i,hi,rfl,hf⟩;dsimp only
 by_cases hlt:i<n
 ·refine zf (decide_eq_true (by omega)) ?_;have hx:cs[i]?=some cs[i]:=List.getElem?_eq_getElem (by omega);refine xQ (h.ext he) (by omega) (x:=cs[i]) (by simp) rfl ?_;intro p hp hc;refine qn (ls:=[.str,(.int .i64),.bool]) (x:=(cs[i].1,cs[i].2.1,cs[i].2.2,())) hc ?_;refine xm hg ?_;refine zb (ht w' cs[i] a s (he.cell ha)) ?_;rintro _ w1 ⟨rfl,he1⟩;refine⟨_,rfl,?_⟩;refine zg (fun hd=>?_) (fun hd=>?_)
  ·have hfi:ki s cs=i:=by
    have h1:ki s cs<=i:=by
     rcases Nat.lt_or_ge i (ki s cs) with h1|h1
     ·have:=List.not_of_lt_findIdx h1;rw[hd]at this;cases this
     ·exact h1
    omega
   refine⟨?_,he.trans he1⟩;rw[hfi,if_pos hlt]
  ·rw[wrap_i64 (by omega) (by omega)];refine⟨⟨he.trans he1,i+1,by omega,rfl,?_⟩,by omega⟩;rcases Nat.lt_or_ge i (ki s cs) with h1|h1
   ·omega
   ·have hfi:ki s cs=i:=by omega
    have h2:ki s cs<cs.length:=by omega
    have:=List.findIdx_getElem (p:=fun c:Col=>decide (B c.1=B s)) (xs:=cs) (w:=h2);have h3:decide (B cs[i].1=B s)=true:=by
     have e:cs[ki s cs]=cs[i]:=by congr 1
     rw[<- e];exact this
    rw[h3]at hd;cases hd
 ·obtain rfl:i=n:=by omega
  refine zd (decide_eq_false (by omega)) ?_;exact⟨by rw[if_neg (by omega)],he⟩
theorem zfh {w:World} {A:Option Addr} {n c:Nat} {cs:List Col} {g:FuncId} {a:Addr} {s:ByteArray} (hg:enterable prog g=true) (ht:Tests g) (h:Sli qe w A n cs) (ha:w.cell? a=some (.string s)):
  Calls prog 171 #[.slice A n c,.func (.func g) #[] #[.pointer (some a)]] w (Ret fun v w'=>v=.bool (cs.any fun c=>decide (B c.1=B s))/\Ext w w'):=by
 apply znv;unfold S171;refine zb (zh3 hg ht h ha) ?_;rintro _ w1 ⟨rfl,he1⟩;refine⟨_,rfl,?_,he1⟩;have hl:=h.len;congr 1;rw[Bool.eq_iff_iff,decide_eq_true_iff,List.any_eq_true];have:=List.findIdx_lt_length (p:=fun c:Col=>decide (B c.1=B s)) (xs:=cs);rw[<- this,hl];show((if ki s cs<n then (ki s cs:Int) else -1)>=0)↔ki s cs<n;split<;>omega
def qf:List Col->List Col->Int
 |_,[]=>0
 |pre,c::r=>if yi (B c.1)≠0 then 170 else if c.2.1<1\/c.2.1>3\/(pre.any fun d=>decide (B d.1=B c.1))=true then 171 else qf (pre++[c]) r
def xo (cs:List Col):Int:=if cs.length<1\/cs.length>16 then 171 else qf [] cs
theorem zjb (s:List UInt8):yi s=0\/yi s=170:=by unfold yi;split<;>simp
theorem zar {w:World} {A:Option Addr} {n c:Nat} {cs:List Col} (h:Sli qe w A n cs) (hc:n<=c):
  Calls prog 153 #[.slice A n c] w (Ret fun v w'=>v=.int .i64 (xo cs)/\Ext w w'):=by
 apply znh;unfold S153 xo;have hl:=h.len;refine zg (fun h1=>?_) (fun h1=>?_)
 ·have h1:=of_decide_eq_true h1;rw[if_pos (by omega)];exact⟨rfl,Ext.refl w⟩
 refine zg (fun h2=>?_) (fun h2=>?_)
 ·have h2:=of_decide_eq_true h2;rw[if_pos (by omega)];exact⟨rfl,Ext.refl w⟩
 have h1:=of_decide_eq_false h1;have h2:=of_decide_eq_false h2;rw[if_neg (by omega)];refine zy (fun x w'=>Ext w w'/\∃ i:Nat,i<=n/\x=((i:Int),())/\qf [] cs=qf (cs.take i) (cs.drop i)) (fun x=>(n-x.1).toNat) ⟨Ext.refl w,0,by omega,rfl,by simp⟩ ?_;rintro _ w' ⟨he,i,hi,rfl,hf⟩;dsimp only
 by_cases hlt:i<n
 ·refine zf (decide_eq_true (by omega)) ?_;obtain⟨col,hcol⟩:∃ col,col=cs[i]:=⟨_,rfl⟩;have hdrop:cs.drop i=col::cs.drop (i+1):=by rw[hcol];exact drop_eq_getElem_cons (by omega)
  have htake:cs.take (i+1)=cs.take i++[col]:=by rw[hcol];exact take_succ_eq_append_getElem (by omega)
  have hx:cs[Int.toNat (i:Int)]?=some col:=by rw[hcol];simp
  rw[hdrop,qf]at hf;refine xQ (h.ext he) (by omega) hx rfl ?_;intro p hp hcell;refine qn (ls:=[.str,(.int .i64),.bool]) (x:=(col.1,col.2.1,col.2.2,())) hcell ?_;refine yh (vs:=[(.string col.1),(.int .i64 col.2.1),(.bool col.2.2)]) (by rfl) (qe.one col) ?_ (by rfl);intro r w1 hb he1 hr;refine zn hb (by rfl) ?_;refine zb (uI w1 col.1) ?_;rintro _ w2 ⟨rfl,he2⟩;refine⟨_,rfl,?_⟩;have hb2:=hb.ext he2;have he02:=(he.trans he1).trans he2;refine zg (fun hn=>?_) (fun hn=>?_)
  ·have hn:yi (B col.1)≠0:=by simpa using hn
   rw[hf,if_pos hn];rcases zjb (B col.1) with h0|h0
   ·exact absurd h0 hn
   ·exact⟨by rw[h0],he02⟩
  have hn:yi (B col.1)=0:=by simpa using hn
  rw[if_neg (by simp[hn])]at hf;refine yW (o:=1) hb2 (by rfl) ?_;refine zg (fun hk=>?_) (fun hk=>?_)
  ·have hk:=of_decide_eq_true hk;rw[hf,if_pos (.inl hk)];exact⟨rfl,he02⟩
  have hk:=of_decide_eq_false hk;refine yW (o:=1) hb2 (by rfl) ?_;refine zg (fun hk2=>?_) (fun hk2=>?_)
  ·have hk2:=of_decide_eq_true hk2;rw[hf,if_pos (.inr (.inl hk2))];exact⟨rfl,he02⟩
  have hk2:=of_decide_eq_false hk2;refine⟨⟨by omega,by omega⟩,?_⟩;rw[Int.toNat_natCast];have hcut:=(h.zfF (k:=i) (m:=c) (z:=3) rfl (by omega) (by omega)).ext he02;have hcell2:w2.cell? ⟨r,0,none⟩=some (.string col.1):=by rw[hb2.cell];rfl
  refine zb (zfh (s:=col.1) (g:=172) (by kernel_rfl) (fun w c a s h=>zh2 h) hcut hcell2) ?_;rintro _ w3 ⟨rfl,he3⟩;refine⟨_,rfl,?_⟩;refine zg (fun hd=>?_) (fun hd=>?_)
  ·rw[hf,if_pos (.inr (.inr hd))];exact⟨rfl,he02.trans he3⟩
  ·rw[if_neg (by
    rintro(h3|h3|h3)
    ·exact hk h3
    ·exact hk2 h3
    ·rw[h3]at hd;cases hd)]at hf
   rw[wrap_i64 (by omega) (by omega)];exact⟨⟨he02.trans he3,i+1,by omega,rfl,by rw[htake];exact hf⟩,by omega⟩
 ·obtain rfl:i=n:=by omega
  refine zd (decide_eq_false (by omega)) ?_;rw[drop_of_length_le (by omega)]at hf;exact⟨by rw[hf];rfl,he⟩
def zb5 (c:Col):Prop:=yi (B c.1)=0/\1<=c.2.1/\c.2.1<=3
theorem zdf:∀ (r pre:List Col),qf pre r=0->∀ c∈r,zb5 c
 |[],_,_,c,hc=>by cases hc
 |d::r,pre,h,c,hc=>by
  unfold qf at h;split at h
  ·cases h
  ·rename_i h1;split at h
   ·cases h
   ·rename_i h2;rcases mem_cons.1 hc with rfl|hc
    ·have:¬(c.2.1<1\/c.2.1>3):=fun hh=>h2 (by rcases hh with hh|hh;exact .inl hh;exact .inr (.inl hh));exact⟨by omega,by omega,by omega⟩
    ·exact zdf r _ h c hc
theorem zaK {cs:List Col} (h:xo cs=0):(1<=cs.length/\cs.length<=16)/\qf [] cs=0/\∀ c∈cs,zb5 c:=by
 unfold xo at h;split at h
 ·cases h
 ·exact⟨by omega,h,zdf _ _ h⟩
theorem qy {s:List UInt8} (h:yi s=0):1<=s.length/\s.length<=32:=by
 unfold yi zbu at h;split at h
 ·rename_i hh;have:=of_decide_eq_true hh;exact⟨this.1,this.2.1⟩
 ·cases h
def qc (c:Col):UInt8:=if c.2.2 then UInt8.ofNat (c.2.1.toNat+128) else UInt8.ofNat c.2.1.toNat
def jV (c:Col):List UInt8:=qc c::UInt8.ofNat (B c.1).length::B c.1
def xL (cs:List Col):List UInt8:=UInt8.ofNat cs.length::cs.flatMap jV
theorem zjc {c:Col} (h:zb5 c):(jV c).length<=34:=by
 have:=qy h.1;simp[jV];omega
theorem za4:∀ {cs:List Col},(∀ c∈cs,zb5 c)->(cs.flatMap jV).length<=cs.length*34
 |[],_=>by simp
 |c::r,h=>by
  have h1:=zjc (h c mem_cons_self);have h2:=za4 (cs:=r) (fun c hc=>h c (mem_cons_of_mem _ hc));simp only [flatMap_cons,length_append,length_cons];omega
def zdg (cs:List Col):List UInt8×Int:=if xo cs=0 then (xL cs,0) else ([],xo cs)
theorem zh4 {w:World} {A:Option Addr} {n c:Nat} {cs:List Col} (h:Sli qe w A n cs) (hc:n<=c):
  Calls prog 116 #[.slice A n c] w (Ret fun v w'=>v=.tuple #[.string ⟨(zdg cs).1.toArray⟩,.int .i64 (zdg cs).2]/\Ext w w'):=by
 apply zmQ;unfold S116;have hl:=h.len;refine zb (zar h hc) ?_;rintro _ w1 ⟨rfl,he1⟩;refine⟨_,rfl,?_⟩;unfold zdg;refine zg (fun hn=>?_) (fun hn=>?_)
 ·have hn:xo cs≠0:=by simpa using hn
  rw[if_neg hn];exact⟨rfl,he1⟩
 have hn:xo cs=0:=by simpa using hn
 rw[if_pos hn];obtain⟨hlen,_,hok⟩:=zaK hn;apply yN;have e0:#[Value.int .u8 (wrap .u8 ((n:Nat):Int))]=(bV [UInt8.ofNat cs.length]).toArray:=by rw[qu,hl];rfl
 rw[e0];have ho0:Own 5 (w1.alloc (.cells (bV [UInt8.ofNat cs.length]).toArray 5)) w.heap.size (some ⟨w1.heap.size,0,none⟩) 1 1 (bV [UInt8.ofNat cs.length]):=Own.lit (cs:=(bV [UInt8.ofNat cs.length]).toArray) he1.size (by simp[bV]);have he2:=he1.alloc (.cells (bV [UInt8.ofNat cs.length]).toArray 5);generalize w1.alloc (.cells (bV [UInt8.ofNat cs.length]).toArray 5)=w2 at ho0 he2 ⊢;refine zy (fun x w'=>Ext w w'/\∃ (i:Nat) (A':Option Addr) (m c':Nat),i<=n/\x=((A',m,c'),(i:Int),())/\Own 5 w' w.heap.size A' m c' (bV (UInt8.ofNat cs.length::(cs.take i).flatMap jV))) (fun x=>(n-x.2.1).toNat) ⟨he2,0,_,1,1,by omega,rfl,by simpa using ho0⟩ ?_;rintro _ w' ⟨he,i,A',m,c',hi,rfl,ho⟩;dsimp only;have hm:=ho.sl.blen;have hlb:(UInt8.ofNat cs.length::(cs.take i).flatMap jV).length<=600:=by
  have:=za4 (cs:=cs.take i) (fun c hc=>hok c (List.mem_of_mem_take hc));have h2:(cs.take i).length<=16:=by simp;omega
  have:=Nat.mul_le_mul_right 34 h2;simp only [length_cons];omega
 by_cases hlt:i<n
 ·refine zf (decide_eq_true (by omega)) ?_;obtain⟨col,hcol⟩:∃ col,col=cs[i]:=⟨_,rfl⟩;have hmem:col∈cs:=by rw[hcol];exact getElem_mem _
  have htake:cs.take (i+1)=cs.take i++[col]:=by rw[hcol];exact take_succ_eq_append_getElem (by omega)
  have hx:cs[Int.toNat (i:Int)]?=some col:=by rw[hcol];simp
  obtain⟨hk0,hk1,hk2⟩:=hok col hmem;have hname:=qy hk0;have hns:=yu col.1;refine xQ (h.ext he) (by omega) hx rfl ?_;intro p hp hcell;refine qn (ls:=[.str,(.int .i64),.bool]) (x:=(col.1,col.2.1,col.2.2,())) hcell ?_;refine yh (vs:=[(.string col.1),(.int .i64 col.2.1),(.bool col.2.2)]) (by rfl) (qe.one col) ?_ (by rfl);intro r w3 hb he3 hr;refine yW (o:=1) hb (by rfl) ?_;refine yW (o:=2) hb (by rfl) ?_;have tail:∀ (kb:Int),kb=((qc col).toNat:Int)->(zB<|
    ldW .str (aD r) fun(u15:ByteArray)=>
    ldW .str (aD r) fun(u16:ByteArray)=>
    zi (.cells #[(.int .u8 kb),(.int .u8 (wrap .u8 ((u15.size:Nat):Int)))] 5) fun(r17:Nat)=>
    zt [[((aD r),(.string u16))]]<|
    zv prog (Builtin.append_ #[119,119] 119 #[(.slice A' m c'),(.slice (some (aD r17)) 2 2)]) .slc fun(u18:SLC)=>
    zt [[((aD r),(.string u16))]]<|
    zv prog (Builtin.append_ #[119,9] 119 #[(.slice u18.1 u18.2.1 u18.2.2),(.string u16)]) .slc fun(u19:SLC)=>fun w'=>(Ext w w'/\∃ (i':Nat) (A':Option Addr) (m c':Nat),i'<=n/\(((u19.1,u19.2.1,u19.2.2),wrap .i64 ((i:Int)+1),()):SLC×Int×Unit)=((A',m,c'),(i':Int),())/\Own 5 w' w.heap.size A' m c' (bV (UInt8.ofNat cs.length::(cs.take i').flatMap jV)))/\(n-wrap .i64 ((i:Int)+1)).toNat<(n-(i:Int)).toNat) w3:=by
   rintro kb rfl;show(ldW _ _ _) w3.drew;have he3':Ext w' w3.drew:=he3.drew;have hb':Blk w3.drew r [(.string col.1),(.int .i64 col.2.1),(.bool col.2.2)] 95:=hb;generalize w3.drew=w4 at he3' hb' ⊢;refine zn hb' (by rfl) ?_;refine zn hb' (by rfl) ?_;rw[qu];have he4:=he.trans he3';have ho4:=ho.ext he3';have e1:(#[.int .u8 ((qc col).toNat:Int),.int .u8 ((UInt8.ofNat col.1.size).toNat:Int)]:Array Value)=(bV [qc col,UInt8.ofNat (B col.1).length]).toArray:=by rw[hns];rfl
   rw[e1];apply yN;have hblk:Blk (w4.alloc (.cells (bV [qc col,UInt8.ofNat (B col.1).length]).toArray 5)) w4.heap.size (bV [qc col,UInt8.ofNat (B col.1).length]) 5:=by simpa using Blk.new w4 (bV [qc col,UInt8.ofNat (B col.1).length]).toArray 5
   have hal:Ext w4 (w4.alloc (.cells (bV [qc col,UInt8.ofNat (B col.1).length]).toArray 5)):=(Ext.refl w4).alloc _;have held:∀ {w5:World} {K:WP},Blk w5 r [(.string col.1),(.int .i64 col.2.1),(.bool col.2.2)] 95->K w5->zt [[((aD r),(.string col.1))]] K w5:=fun {w5 K} hb hk=>⟨fun l hl p hp=>by
    simp only [mem_singleton]at hl
    subst hl
    simp only [mem_singleton]at hp
    subst hp
    rw[hb.cell]
    rfl,hk⟩
   have hb5:=hb'.ext hal;have ho5:=ho4.ext hal;have he5:=he4.trans hal;generalize w4.alloc (.cells (bV [qc col,UInt8.ofNat (B col.1).length]).toArray 5)=w5 at *;refine held hb5 ?_;refine zaB qJ ho5 he5.size (Sl.xw hblk rfl (by omega)) (zbi _) (by omega) (by omega) ?_;intro A6 c6 w6 ho6 hg6 _;rw[<- xu]at ho6;have hrne:orow A'≠some r:=fun hh=>by
    have h1:=World.ownsRow.lt ho r (by rw[xv];exact hh);omega
   have hb6:Blk w6 r [(.string col.1),(.int .i64 col.2.1),(.bool col.2.2)] 95:=hb5.grown hg6.grown (fun hh=>hrne hh.symm);have he6:=he5.grown hg6.grown ho5.row';refine held hb6 ?_;dsimp only;have hm6:=ho6.sl.blen;refine zbO qJ (by kernel_rfl) ho6 he6.size (by omega) ?_;intro A7 c7 w7 ho7 hg7;have he7:=he6.grown hg7.grown ho6.row';rw[wrap_i64 (by omega) (by omega)];refine⟨⟨he7,i+1,A7,_,c7,by omega,rfl,?_⟩,by omega⟩;have e2:UInt8.ofNat cs.length::(cs.take (i+1)).flatMap jV=(UInt8.ofNat cs.length::(cs.take i).flatMap jV++[qc col,UInt8.ofNat (B col.1).length])++B col.1:=by
    rw[htake];simp[jV]
   rw[e2];exact ho7
  have hkn:wrap .u8 col.2.1=((col.2.1.toNat:Nat):Int):=by rw[wrap_u8];omega
  refine zg (fun hnull=>?_) (fun hnull=>?_)
  ·refine tail _ ?_;rw[hkn,show(128:Int)=((128:Nat):Int) from rfl,zjs (k:=.u8) rfl (by simp[IntKind.bits];omega) (by simp[IntKind.bits])];unfold qc;rw[hnull,if_pos rfl];have:col.2.1.toNat=1\/col.2.1.toNat=2\/col.2.1.toNat=3:=by omega
   rcases this with h|h|h<;>rw[h]<;>rfl
  ·refine tail _ ?_;rw[hkn];unfold qc;have:col.2.1.toNat=1\/col.2.1.toNat=2\/col.2.1.toNat=3:=by omega
   rw[hnull,if_neg (by simp)];rcases this with h|h|h<;>rw[h]<;>rfl
 ·obtain rfl:i=n:=by omega
  refine zd (decide_eq_false (by omega)) ?_;rw[take_of_length_le (by omega)]at ho;refine qY (e:=5) (by kernel_rfl) (by kernel_rfl) (by kernel_rfl) ho.sl ?_;exact⟨rfl,he⟩
end V
/- Contracts of schema.Read and what goes with it. -/
namespace V
open Go Go.Proofs
theorem zoe:qm prog 38 95 (.agg #[.string ByteArray.empty,.int .i64 0,.bool false]) qe.k 32:=by
 refine⟨by kernel_rfl,by kernel_rfl,rfl⟩
theorem zof:∀ x:Fin 256,iandn .u8 (x.val:Int) 128=((x.val % 128:Nat):Int):=by decide+kernel
theorem zqt:∀ x:Fin 256,((iand .u8 (x.val:Int) 128) !=0)=decide (128<=x.val):=by decide+kernel
def kr (s:List UInt8):Option (Col×List UInt8):=
 if s.length<2\/s.length-2<(s.getD 1 0).toNat then none
 else some ((⟨((s.drop 2).take (s.getD 1 0).toNat).toArray⟩,(((s.getD 0 0).toNat % 128:Nat):Int),decide (128<=(s.getD 0 0).toNat)),s.drop (2+(s.getD 1 0).toNat))
def xY:Nat->List UInt8->Option (List Col×List UInt8)
 |0,s=>some ([],s)
 |n+1,s=>match kr s with
  |none=>none
  |some (c,r)=>match xY n r with
   |none=>none
   |some (cs,r')=>some (c::cs,r')
def xZ:List UInt8->Option (List Col×List UInt8)
 |[]=>none
 |b::r=>match xY b.toNat r with
  |none=>none
  |some (cs,r')=>if xo cs=0 then some (cs,r') else none
theorem zkN {n i:Nat} {r0 rest:List UInt8} {acc:List Col} (hi:i<n) {c:Col} {r:List UInt8} (hc:kr rest=some (c,r))
  (h:xY n r0=(xY (n-i) rest).map fun p=>(acc++p.1,p.2)):xY n r0=(xY (n-(i+1)) r).map fun p=>((acc++[c])++p.1,p.2):=by
 rw[h,show n-i=(n-(i+1))+1 by omega,xY,hc];simp only;cases xY (n-(i+1)) r with
 |none=>rfl
 |some p=>simp
theorem zkO {n i:Nat} {r0 rest:List UInt8} {acc:List Col} (hi:i<n) (hc:kr rest=none)
  (h:xY n r0=(xY (n-i) rest).map fun p=>(acc++p.1,p.2)):xY n r0=none:=by
 rw[h,show n-i=(n-(i+1))+1 by omega,xY,hc];rfl
abbrev RdT:=SLC×ByteArray×Int×Unit
def zoI (w:World) (R:Option (List Col×List UInt8)) (x:RdT) (w':World):Prop:=
 (match R with
  |none=>x=((none,0,0),⟨#[]⟩,171,())
  |some (cs,r)=>Owni qe 95 w' w.heap.size x.1.1 x.1.2.1 x.1.2.2 cs/\x.2.1=⟨r.toArray⟩/\x.2.2.1=0)/\Ext w w'
def zrJ:Option (Col×List UInt8)->(ByteArray×Int×Bool×Unit)×ByteArray×Bool×Unit
 |none=>((ByteArray.empty,0,false,()),⟨#[]⟩,false,())
 |some (c,r)=>((c.1,c.2.1,c.2.2,()),⟨r.toArray⟩,true,())
theorem zlW (w:World) (s:ByteArray) (hsmall:s.size<=9223372036854775807):Calls prog 178 #[.string s] w (Ret fun v w'=>v=Rs.val (.many [.agg [.str,.int .i64,.bool],.one .str,.one .bool]) (zrJ (kr (B s)))/\Ext w w'):=by
 apply znC;unfold S178;have hsz:=yu s;apply yN;have hb:Blk (w.alloc (.cells #[(.string ByteArray.empty),(.int .i64 (0:Int)),(.bool false)] 95)) w.heap.size [(.string ByteArray.empty),(.int .i64 (0:Int)),(.bool false)] 95:=Blk.new w _ _;have he:Ext w (w.alloc (.cells #[(.string ByteArray.empty),(.int .i64 (0:Int)),(.bool false)] 95)):=(Ext.refl w).alloc _;have hB:w.heap.size<=w.heap.size:=Nat.le_refl _;generalize w.alloc (.cells #[(.string ByteArray.empty),(.int .i64 (0:Int)),(.bool false)] 95)=w1 at hb he ⊢;generalize hbk:w.heap.size=blk at hb hB ⊢;have put:∀ {K:(ByteArray×Int×Bool×Unit)->WP} {w2:World} (c:Col),Blk w2 blk [(.string ByteArray.empty),(.int .i64 (0:Int)),(.bool false)] 95->Ext w w2->(∀ w',Ext w w'->K (c.1,c.2.1,c.2.2,()) w')->
   (zc ((#[(.string c.1),(.int .i64 c.2.1),(.bool c.2.2)]:Array Value).size=3)<|
   zq (aD blk) [(.string c.1),(.int .i64 c.2.1),(.bool c.2.2)]<|
   zl [.str,(.int .i64),.bool] (aD blk) K) w2:=by
  intro K w2 c hb2 he2 hK;refine⟨rfl,hb2.qI _ 0 (by simp) (qe.one c),?_⟩;have hb3:=hb2.setCells [(.string c.1),(.int .i64 c.2.1),(.bool c.2.2)] rfl;exact zbj (ls:=[.str,(.int .i64),.bool]) (x:=(c.1,c.2.1,c.2.2,())) hb3 rfl (hK _ (he2.setCells (by rw[hbk];exact hB) _ _))
 refine zg (fun h=>?_) (fun h1=>?_)
 ·have hn:kr (B s)=none:=by
   have:=of_decide_eq_true h;unfold kr;rw[if_pos (.inl (by omega))]
  rw[hn];exact put (ByteArray.empty,0,false) hb he (fun w' he'=>⟨rfl,he'⟩)
 have h1:=of_decide_eq_false h1;refine⟨⟨by omega,by omega⟩,?_⟩;have hb1:bt s 1=(((B s).getD 1 0).toNat:Int):=by rw[zgZ (by omega) (by omega)];rfl
 have hb0:bt s 0=(((B s).getD 0 0).toNat:Int):=by rw[zgZ (by omega) (by omega)];rfl
 have hl1:=((B s).getD 1 0).toNat_lt;have hl0:=((B s).getD 0 0).toNat_lt;rw[hb1,hb0];rw[wrap_i64 (x:=(s.size:Int)-2) (by omega) (by omega),wrap_i64 (x:=(((B s).getD 1 0).toNat:Int)) (by omega) (by omega),wrap_i64 (x:=2+(((B s).getD 1 0).toNat:Int)) (by omega) (by omega)];refine zg (fun h2=>?_) (fun h2=>?_)
 ·have hn:kr (B s)=none:=by
   have:=of_decide_eq_true h2;unfold kr;rw[if_pos (.inr (by omega))]
  rw[hn];exact put (ByteArray.empty,0,false) hb he (fun w' he'=>⟨rfl,he'⟩)
 have h2:=of_decide_eq_false h2;refine⟨⟨by omega,by omega⟩,?_⟩;have he':=he.drew;have hb':=hb.drew;show(zc _ _) w1.drew;generalize w1.drew=w2 at he' hb' ⊢;refine⟨⟨by omega,by omega,by omega⟩,⟨by omega,by omega⟩,⟨by omega,by omega⟩,⟨by omega,by omega⟩,?_⟩;have hs:kr (B s)=some ((⟨(((B s).drop 2).take ((B s).getD 1 0).toNat).toArray⟩,((((B s).getD 0 0).toNat % 128:Nat):Int),decide (128<=((B s).getD 0 0).toNat)),(B s).drop (2+((B s).getD 1 0).toNat)):=by
  unfold kr;rw[if_neg (by omega)]
 rw[hs];have i1:=zof ⟨((B s).getD 0 0).toNat,hl0⟩;have i2:=zqt ⟨((B s).getD 0 0).toNat,hl0⟩;simp only at i1 i2;rw[i1,i2,wrap_i64 (x:=((((B s).getD 0 0).toNat % 128:Nat):Int)) (by omega) (by omega)];have ex1:s.extract (Int.toNat 2) (Int.toNat (2+(((B s).getD 1 0).toNat:Int)))=⟨(((B s).drop 2).take ((B s).getD 1 0).toNat).toArray⟩:=by
  apply j9;rw[jO,jN];congr 1;omega
 have ex2:s.extract (Int.toNat (2+(((B s).getD 1 0).toNat:Int))) s.size=⟨((B s).drop (2+((B s).getD 1 0).toNat)).toArray⟩:=by
  apply j9;rw[jO,show(2+(((B s).getD 1 0).toNat:Int)).toNat=2+((B s).getD 1 0).toNat by omega];show _=(B s).drop (2+((B s).getD 1 0).toNat);exact take_of_length_le (by simp;omega)
 rw[ex1,ex2];exact put (⟨(((B s).drop 2).take ((B s).getD 1 0).toNat).toArray⟩,((((B s).getD 0 0).toNat % 128:Nat):Int),decide (128<=((B s).getD 0 0).toNat)) hb' he' (fun w' he'=>⟨rfl,he'⟩)
def zfi (a b:Col):Bool:=decide (B a.1=B b.1)&&(a.2.1==b.2.1&&(a.2.2==b.2.2&&true))
theorem zgx {a b:Col}:zfi a b=true↔a=b:=by
 unfold zfi;simp only [Bool.and_eq_true,decide_eq_true_eq,beq_iff_eq,and_true];constructor
 ·rintro⟨h1,h2,h3⟩;exact Prod.ext (j9 h1) (Prod.ext h2 h3)
 ·rintro rfl;exact⟨rfl,rfl,rfl⟩
theorem zkP (w:World) (a b:Col):(Op.eqFields 9999 #[.string a.1,.int .i64 a.2.1,.bool a.2.2] #[.string b.1,.int .i64 b.2.1,.bool b.2.2] (prog.fieldsOf 95).toList).run prog w=.ok (zfi a b) w:=by
 have hf:(prog.fieldsOf 95).toList=[(prog.fieldsOf 95).getD 0 default,(prog.fieldsOf 95).getD 1 default,(prog.fieldsOf 95).getD 2 default]:=by kernel_rfl
 rw[hf];unfold zfi;rw[<- qh];refine qj (of_decide_eq_true (by kernel_rfl)) (a:=.string a.1) (b:=.string b.1) (by kernel_rfl) (by kernel_rfl) (run_equalIn_string w 9998 _ _ _ (by kernel_rfl)) ?_;refine qj (of_decide_eq_true (by kernel_rfl)) (a:=.int .i64 a.2.1) (b:=.int .i64 b.2.1) (by kernel_rfl) (by kernel_rfl) (run_equalIn_int w 9998 _ .i64 .i64 _ _ (by kernel_rfl)) ?_;refine qj (of_decide_eq_true (by kernel_rfl)) (a:=.bool a.2.2) (b:=.bool b.2.2) (by kernel_rfl) (by kernel_rfl) (run_equalIn_bool' w 9998 _ _ _ (by kernel_rfl)) ?_;rfl
theorem zqu (w:World) (a b:Col) (x y:Operand):(eqS .neq 95 x y (.agg #[.string a.1,.int .i64 a.2.1,.bool a.2.2]) (.agg #[.string b.1,.int .i64 b.2.1,.bool b.2.2])).run prog w=.ok (.bool (!(zfi a b))) w:=
 zfH (by kernel_rfl) (by kernel_rfl) (by kernel_rfl) (zkP w a b)
theorem zjd {w:World} {s:ByteArray} (hsmall:s.size<=9223372036854775807):Calls prog 162 #[.string s] w (Ret fun v w'=>∃ x:RdT,v=Rs.val (.many [.one .slc,.one .str,.one (.int .i64)]) x/\zoI w (xZ (B s)) x w'):=by
 apply zno;unfold S162;have hsz:=yu s;have none_:∀ {w'},xZ (B s)=none->Ext w w'->∃ x:RdT,Value.tuple #[(.slice none 0 0),(.string (ByteArray.mk #[])),(.int .i64 (171:Int))]=Rs.val (.many [.one .slc,.one .str,.one (.int .i64)]) x/\zoI w (xZ (B s)) x w':=fun {w'} h he=>⟨((none,0,0),⟨#[]⟩,171,()),rfl,by rw[h];exact⟨rfl,he⟩⟩;refine zg (fun h=>?_) (fun h=>?_)
 ·rw[qh]at h;have hB:B s=[]:=of_decide_eq_true h;exact none_ (by rw[hB];rfl) (Ext.refl w)
 rw[qh]at h;have hB:B s≠[]:=of_decide_eq_false h;obtain⟨b,r0,hs⟩:∃ b r0,B s=b::r0:=by
  cases hh:B s with
  |nil=>exact absurd hh hB
  |cons b r=>exact⟨b,r,rfl⟩
 have hl:(B s).length=r0.length+1:=by rw[hs];rfl
 have he0:Ext w w.drew:=(Ext.refl w).drew;show(zc _ _) w.drew;generalize w.drew=w0 at he0 ⊢;refine⟨⟨by omega,by omega⟩,⟨by omega,by omega⟩,?_⟩;have hb0:bt s 0=(b.toNat:Int):=by rw[zgZ (by omega) (by omega),hs];rfl
 have hlt:=b.toNat_lt;rw[hb0,wrap_i64 (by omega) (by omega)];have ex:s.extract (Int.toNat 1) s.size=⟨r0.toArray⟩:=by
  apply j9;rw[jO,hs];show _=r0;exact take_of_length_le (by simp;omega)
 rw[ex];refine zy (fun x w'=>Ext w w'/\∃ (i:Nat) (acc:List Col) (rest:ByteArray) (A:Option Addr) (m c:Nat),i<=b.toNat/\x=((A,m,c),rest,(i:Int),())/\Owni qe 95 w' w.heap.size A m c acc/\acc.length=i/\rest.size<=9223372036854775807/\xY b.toNat r0=(xY (b.toNat-i) (B rest)).map fun p=>(acc++p.1,p.2))
  (fun x=>(b.toNat-x.2.2.1).toNat) ⟨he0,0,[],⟨r0.toArray⟩,none,0,0,by omega,rfl,Owni.nil _ _ _,rfl,by rw[yu,jN];omega,by rw[jN,Nat.sub_zero];cases xY b.toNat r0<;>simp⟩ ?_
 rintro _ w' ⟨he,i,acc,rest,A,m,c,hi,rfl,ho,hacc,hrs,hrd⟩;dsimp only;have hm:=ho.len
 by_cases hlt:i<b.toNat
 ·refine zf (decide_eq_true (by omega)) ?_;refine zb (zlW w' rest hrs) ?_;rintro _ w1 ⟨rfl,he1⟩;refine⟨_,rfl,?_⟩;cases hcol:kr (B rest) with
  |none=>
   refine yh (vs:=[(.string ByteArray.empty),(.int .i64 (0:Int)),(.bool false)]) (by rfl) (qe.one (ByteArray.empty,0,false)) ?_ (by rfl);intro r w2 hb he2 hr;refine zf (by rfl) ?_;refine none_ ?_ ((he.trans he1).trans he2);rw[hs,xZ,zkO hlt hcol hrd]
  |some p=>
   obtain⟨col,rest'⟩:=p;refine yh (vs:=[(.string col.1),(.int .i64 col.2.1),(.bool col.2.2)]) (by rfl) (qe.one col) ?_ (by rfl);intro r w2 hb he2 hr;refine zd (by rfl) ?_;refine zbj (ls:=[.str,(.int .i64),.bool]) (x:=(col.1,col.2.1,col.2.2,())) hb rfl ?_;have he02:=(he.trans he1).trans he2;refine yT (E:=qe) (ys:=[col]) (by rfl) rfl zoe (ho.ext (he1.trans he2)) he02.size (by omega) (by omega) ?_;intro A3 c3 w3 ho3 hg3;dsimp only;rw[wrap_i64 (by omega) (by omega)];have hrl:rest'.length<=(B rest).length:=by
    unfold kr at hcol;split at hcol
    ·cases hcol
    ·injection hcol with hcol
     injection hcol with _ hcol
     rw[<- hcol];simp
   refine⟨⟨he02.grown hg3.grown (ho.ext (he1.trans he2)).row,i+1,acc++[col],⟨rest'.toArray⟩,A3,_,c3,by omega,rfl,ho3,by simp[hacc],?_,?_⟩,by omega⟩
   ·rw[yu,jN];have:=yu rest;omega
   ·rw[jN];exact zkN hlt hcol hrd
 ·obtain rfl:i=b.toNat:=by omega
  refine zd (decide_eq_false (by omega)) ?_;rw[Nat.sub_self]at hrd;have hrd2:xY b.toNat r0=some (acc,B rest):=by rw[hrd];simp[xY]
  refine zb (zar ho.sl (by have:=ho.le;omega)) ?_;rintro _ w1 ⟨rfl,he1⟩;refine⟨_,rfl,?_⟩;refine zg (fun hck=>?_) (fun hck=>?_)
  ·have hck:xo acc≠0:=by simpa using hck
   refine none_ ?_ (he.trans he1);rw[hs,xZ,hrd2];simp only;rw[if_neg hck]
  ·have hck:xo acc=0:=by simpa using hck
   have hres:xZ (B s)=some (acc,B rest):=by
    rw[hs,xZ,hrd2];simp only;rw[if_pos hck]
   refine⟨((A,m,c),rest,0,()),rfl,?_⟩;rw[hres];exact⟨⟨ho.ext he1,rfl,rfl⟩,he.trans he1⟩
end V
end Go.Proofs.YtpagephahcnijaaGreat
