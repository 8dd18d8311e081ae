/- Texts of mine, merged (wip/tool/mergep.py): LNames. -/
import Derived.Test.YtpagephahcnijaaGreatM6
open Go.IntKind (wrap)
open Go.Proofs.Tryz (prog)
open List (mem_cons_self mem_cons_of_mem mem_cons length_cons map_map mem_append mem_append_left drop_drop mem_range mem_of_getElem? getElem_mem map_cons mem_map append_assoc nodup_cons foldl_cons append_nil length_map length_set eq_nil_of_length_eq_zero range_succ map_congr_left length_append drop_of_length_le take_of_length_le getD_eq_getElem?_getD mem_singleton length_take length_drop take_succ_eq_append_getElem take_add_one not_mem_nil map_append take_left' length_replicate drop_left' flatMap_cons length_range getElem_range flatMap_append length_singleton)
set_option linter.unusedVariables false
set_option linter.unusedSimpArgs false
namespace Go.Proofs.YtpagephahcnijaaGreat
/- Law 26:SnapsNames. -/
namespace V
open Go Go.Proofs Go.RowKit Crc
variable {w0 w w':World} {b db:Nat} {S S':Spa} {F:Nat->Prop}
theorem yH.zgf {x y:SLC} {k:Nat} {c:Cat} {K:Int->WP} (h:yH w x y c) (hc:c.1=[yD k]) (hK:K (k:Int) w):
  (zc (0<=(0:Int)/\(0:Int)<((x.2.1:Nat):Int))<|zk x.1 fun(p15:Addr)=>ldW (.int .u32) ((p15.add (Int.toNat (0:Int)*5)).add 2) K) w:=
 h.root (i:=0) (by rw[hc];show 0<1;omega) (by rw[hc];exact hK)
theorem za4 {T:Type} {A:(T->WP)->WP} {B:T->WP} (v:T) (hA:∀ J:T->WP,J v w->A J w) (hB:B v w):yF T A B w:=
 yv (fun q w'=>q=v/\w'=w) (by rintro _ _ ⟨rfl,rfl⟩;exact hB) (fun J hJ=>hA J (hJ _ _ ⟨rfl,rfl⟩))
theorem zhQ {ss:List Snp} (h:ss.length<=1000):zak ([],ss):=⟨by show 0<=1000;omega,h,fun e he=>by cases he⟩
theorem St.act {F':Nat->Prop} (h:St w0 w b db S F) (h':zV w' b db S' F') (hF:∀ k,F' k->F k\/w.heap.size<=k) (o:Only F w w'):St w0 w' b db S' F':=
 ⟨h',fun k hk=>by
  rcases hF k hk with e|e
  ·exact h.low k e
  ·exact Nat.le_trans h.ext.size e,Only.ext h.ext o h.low⟩
theorem St.fill {r:Nat} (h:St w0 w b db S F) (hr:¬F r) (hl:w0.heap.size<=r) (o:Only (fun k=>k=r) w w'):St w0 w' b db S F:=
 ⟨h.sp.only o (fun k hk e=>hr (by have:k=r:=e;rw[<- this];exact hk)),h.low,Only.ext h.ext o (fun j hj=>by have:j=r:=hj;omega)⟩
theorem zix (w:World):Calls prog 6 #[] w (Ret fun v w'=>v=.bool true/\Ext w w'):=by
 apply zpv;unfold S6;refine zb (ziv w) ?_;rintro _ w1 ⟨rfl,he1⟩;refine⟨_,rfl,zd (by rfl) ?_⟩;refine zb (zdt w1) ?_;rintro _ w2 ⟨db,b,rfl,F,h2⟩;have h2:=St.pre he1 h2;refine⟨some ⟨b,0,none⟩,rfl,?_⟩;refine zb (zdv h2.sp) ?_;rintro _ w3 ⟨x,y,S1,k,F1,rfl,hP,hG,h3,hF1,o3,hC3⟩;refine⟨yl x y,rfl,?_⟩;have st3:St w w3 b db S1 F1:=h2.act h3 hF1 o3;refine yd (vs:=zB x y) (by rfl) (ye _ _) (fun r4 w4 hb4 he4 hr4=>?_) (by rfl);have st4:=st3.ext' he4;have hA4:=(hC3.ext he4).and (St.box st3.sp hb4 hr4);refine zK (ls:=yy) (yl x y) hb4 (by rfl) ?_;obtain⟨hfz,hrt⟩:=zc1 hP hG;have hnm:yr (B strs)=0:=by kernel_rfl
 have hlt1:zak ([yD k],[]):=⟨by show 1<=1000;omega,by show 0<=1000;omega,fun e he=>by rw[mem_singleton.1 he];show 2<=1000;omega⟩;refine zb (qp (c:=([yD k],[])) (s:=strs) (R:=[k]) (H:=[]) (M:=none) st4.sp (hA4.mono fun _ h=>h.1.cat) hlt1 (fun _ _ _=>hfz)) ?_;rintro _ w5 (⟨hne,_⟩|⟨_,hth,_⟩|⟨_,_,h16,_⟩|⟨_,_,_,X,Y,S2,n,c1,ls,F2,rfl,hOk,h5,hF2,o5,hA5⟩)
 ·exact absurd hnm hne
 ·exact absurd hth (zhP _ _)
 ·cases h16
 rw[znk]at hA5;obtain⟨g1,g2,g3,g4⟩:=zfn hG.good hOk;have hn0:n≠0:=fun e=>by have:=g3 e;cases this
 have g1:Great S2 (n::[k]) [] none:=by unfold nL at g1;rw[if_neg hn0]at g1;exact g1
 have st5:St w w5 b db S2 F2:=st4.act h5 hF2 o5;have hA5:=(hA4.step o5 hF2).and hA5;refine⟨(yl X Y,0,()),rfl,?_⟩;refine yd (vs:=zB X Y) (by rfl) (ye _ _) (fun r7 w6 hb6 he6 hr6=>?_) (by rfl);have st6:=st5.ext' he6;have hA6:=(hA5.ext he6).and (St.box st5.sp hb6 hr6);have hlt2:zak ([yD k],[(strs,n)]):=⟨hlt1.1,by show 1<=1000;omega,hlt1.2.2⟩;have hCA:∀ {w:World},(((z8 w 0 x y ([yD k],[])/\Blk w r4 (zB x y) 30)/\z8 w 0 X Y ([yD k],[(strs,n)]))/\Blk w r7 (zB X Y) 30)->yH w X Y ([yD k],[(strs,n)]):=fun h=>h.1.2.cat;refine zK (ls:=yy) (yl X Y) hb6 (by rfl) ?_
 -- again
 refine zb (qp (c:=([yD k],[(strs,n)])) (s:=strs) (R:=[]) (H:=[]) (M:=none) st6.sp (hA6.mono fun _ h=>hCA h) hlt2 (fun _ hh _=>absurd (zcO [yD k] strs n) hh)) ?_;rintro _ w7 (⟨hne,_⟩|⟨_,_,rfl,he7⟩|⟨_,hth,_⟩|⟨_,hth,_⟩)
 ·exact absurd hnm hne
 rotate_left
 ·exact absurd (zcO _ _ _) hth
 ·exact absurd (zcO _ _ _) hth
 refine⟨(yl (none,0,0) (none,0,0),6,()),rfl,?_⟩;refine yd (vs:=zB (none,0,0) (none,0,0)) (by rfl) (ye _ _) (fun r10 w8 hb8 he8 hr8=>?_) (by rfl);have he68:=he7.trans he8;have st8:=st6.ext' he68;have hA8:=hA6.ext he68;refine zK (ls:=yy) (yl X Y) hA8.now.2 (by rfl) ?_
 -- no name
 have hne0:yr (B (ByteArray.mk #[]))=170:=by kernel_rfl
 refine zb (qp (c:=([yD k],[(strs,n)])) (s:=ByteArray.mk #[]) (R:=[]) (H:=[]) (M:=none) st8.sp (hA8.mono fun _ h=>hCA h) hlt2 (fun hh _ _=>absurd hh (by rw[hne0];decide))) ?_;rintro _ w9 (⟨_,rfl,he9⟩|⟨hh,_⟩|⟨hh,_⟩|⟨hh,_⟩);rotate_left
 ·rw[hne0]at hh;cases hh
 ·rw[hne0]at hh;cases hh
 ·rw[hne0]at hh;cases hh
 refine⟨(yl (none,0,0) (none,0,0),yr (B (ByteArray.mk #[])),()),rfl,?_⟩;refine yd (vs:=zB (none,0,0) (none,0,0)) (by rfl) (ye _ _) (fun r13 w10 hb10 he10 hr10=>?_) (by rfl);have he810:=he9.trans he10;have st10:=st8.ext' he810;have hA10:=hA8.ext he810;refine zK (ls:=yy) (yl X Y) hA10.now.2 (by rfl) ?_
 -- another name leaves
 have hsx:B strs≠B (ByteArray.mk #[120]):=by decide
 have hnf:=zpp [yD k] n hsx;refine zb (zds (c:=([yD k],[(strs,n)])) (s:=ByteArray.mk #[120]) (R:=[]) (H:=[]) (M:=none) st10.sp (hA10.mono fun _ h=>hCA h) hlt2 (fun hh=>absurd hh hnf)) ?_;rintro _ w11 (⟨_,rfl,he11⟩|⟨hf,_⟩);rotate_left
 ·exact absurd hf hnf
 refine⟨(yl (none,0,0) (none,0,0),211,()),rfl,?_⟩;refine yd (vs:=zB (none,0,0) (none,0,0)) (by rfl) (ye _ _) (fun r16 w12 hb12 he12 hr12=>?_) (by rfl);have he1012:=he11.trans he12;have st12:=st10.ext' he1012;have hA12:=hA10.ext he1012;refine zK (ls:=yy) (yl X Y) hA12.now.2 (by rfl) ?_;have hfs:yq ([yD k],[(strs,n)]) strs=0:=znl [yD k] strs n;refine zb (vG (hCA hA12.now) strs) ?_;rintro _ w13 ⟨rfl,he13⟩;have e1:qu ([yD k],[(strs,n)]) strs=(0,0):=by unfold qu;rw[hfs];rfl
 rw[e1];refine⟨(0,0,()),rfl,?_⟩;have st13:=st12.ext' he13;have hA13:=hA12.ext he13;refine zK (ls:=yy) (yl X Y) hA13.now.2 (by rfl) ?_;refine zb (vG (hCA hA13.now) (ByteArray.mk #[120])) ?_;rintro _ w14 ⟨rfl,he14⟩;have e2:qu ([yD k],[(strs,n)]) (ByteArray.mk #[120])=(0,211):=if_neg hnf;rw[e2];refine⟨(0,211,()),rfl,?_⟩;have st14:=st13.ext' he14;have hA14:=hA13.ext he14;refine zK (ls:=yy) (yl X Y) hA14.now.2 (by rfl) ?_
 -- its tables
 have hgot:zd3 S2 n ([yD k],[]) 0:=zd3.cat (g2 hn0) g1.good (g1.good.well.root n mem_cons_self);have hlv:(([yD k],[(strs,n)]):Cat).2.getD (yq ([yD k],[(strs,n)]) strs) zP=(strs,n):=by rw[hfs];rfl
 refine zb (zb1 (c:=([yD k],[(strs,n)])) (s:=strs) st14.sp (hCA hA14.now) (zpo hnm) (f:=([yD k],[])) (e:=0) (fun _=>by rw[hlv];exact hgot)) ?_;rintro _ w15 ⟨⟨_,_,X1,Y1,rfl,hO15⟩|⟨_,hne,_⟩|⟨hnf,_⟩,he15⟩;rotate_left
 ·exact absurd rfl hne
 ·exact absurd (show yq ([yD k],[(strs,n)]) strs<1 by rw[hfs];omega) hnf
 refine⟨(X1,0,()),rfl,?_⟩;have st15:=st14.ext' he15;have hA15:=(hA14.ext he15).and (St.own st14.sp hO15);refine zK (ls:=yy) (yl X Y) hA15.now.1.2 (by rfl) ?_;refine zb (zb1 (c:=([yD k],[(strs,n)])) (s:=ByteArray.mk #[120]) st15.sp (hCA hA15.now.1) (by decide) (f:=zaz) (e:=0) (fun hh=>absurd hh hnf)) ?_;rintro _ w16 ⟨⟨hf,_⟩|⟨hf,_⟩|⟨_,rfl⟩,he16⟩
 ·exact absurd hf hnf
 ·exact absurd hf hnf
 refine⟨((none,0,0),211,()),rfl,?_⟩;have st16:=st15.ext' he16;have hA16:=hA15.ext he16;refine zK (ls:=yy) (yl X Y) hA16.now.1.2 (by rfl) ?_;refine zb (zfl (some ⟨b,0,none⟩) (hCA hA16.now.1) hlt2 (s:=ByteArray.mk #[]) (by decide)) ?_;rintro _ w17 ⟨⟨X3,Y3,rfl,hO17⟩,he17⟩;refine⟨(X3,0,()),rfl,?_⟩;have hX3:X3.2.1=1:=hO17.cat.xlen.1.symm;have st17:=st16.ext' he17;have hA17:=hA16.ext he17;refine zO x hA17.now.1.1.1.2 (by rfl) ?_;refine yH.zgf (k:=k) hA17.now.1.1.1.1.cat rfl ?_;have hu1:=hG.good.well.root k (mem_singleton.2 rfl);have hk32:k<4294967296:=by
  have:=hG.good.well.lt hu1;have:=hG.good.dims.n;omega
 refine zb (zg6 st17.sp hk32) ?_;rintro _ w18 ⟨rfl,hw18⟩;subst hw18;refine⟨_,rfl,?_⟩;rw[zqm hP hG hOk];refine zK (ls:=yy) (yl X Y) hA17.now.1.2 (by rfl) ?_
 -- the snapshot leaves
 refine zb (zds (c:=([yD k],[(strs,n)])) (s:=strs) (R:=[k]) (H:=[]) (M:=none) st17.sp (hA17.mono fun _ h=>hCA h.1) hlt2 (fun _=>.inr (by rw[hlv];exact⟨hn0,g1⟩))) ?_;rintro _ w19 (⟨hnf,_⟩|⟨_,X9,Y9,c9,F9,rfl,hG9,hle9,_,sp9,hF9,o9,hA9⟩)
 ·exact absurd (show yq ([yD k],[(strs,n)]) strs<1 by rw[hfs];omega) hnf
 refine⟨(yl X9 Y9,0,()),rfl,?_⟩;have hY9:Y9.2.1=0:=by
  have h1:=hA9.now.cat.xlen.2;rw[hfs]at h1;exact h1.symm
 have rp0:=zql hP hG hOk hG9 hle9;have st19:St w w19 b db { S2 with now:=c9 } F9:=st17.act sp9 hF9 o9;refine yd (vs:=zB X9 Y9) (by rfl) (ye _ _) (fun r33 w20 hb20 he20 hr20=>?_) (by rfl);have st20:=st19.ext' he20;have hA20:=((hA17.step o9 hF9).ext he20).and (St.box st19.sp hb20 hr20)
 -- an empty one
 have hno:Safe F9 w20 fun w=>yH w (none,0,0) (none,0,0) ([],[]):=fun w2 _=>(uf w2 0).cat;have hne1:yr (B (ByteArray.mk #[101]))=0:=by kernel_rfl
 refine zb (qp (c:=([],[])) (x:=(none,0,0)) (y:=(none,0,0)) (s:=ByteArray.mk #[101]) (R:=[k]) (H:=[]) (M:=none) st20.sp hno (zhQ (by show 0<=1000;omega)) (fun _ _ _=>rp0.frz (by omega) [])) ?_;rintro _ w21 (⟨hne,_⟩|⟨_,hth,_⟩|⟨_,_,h16,_⟩|⟨_,_,_,XE,YE,S3,nE,cE1,lsE,F3,rfl,hOkE,h21,hF3,o21,hA21⟩)
 ·exact absurd hne1 hne
 ·exact absurd hth (zhP _ _)
 ·cases h16
 rw[znk]at hA21;obtain⟨rfl,rp1⟩:=rp0.step hOkE;have st21:St w w21 b db S3 F3:=st20.act h21 hF3 o21;have hA21:=(hA20.step o21 hF3).and hA21;refine⟨(yl XE YE,0,()),rfl,?_⟩;refine yd (vs:=zB XE YE) (by rfl) (ye _ _) (fun r35 w22 hb22 he22 hr22=>?_) (by rfl);have st22:=st21.ext' he22;have hA22:=(hA21.ext he22).and (St.box st21.sp hb22 hr22);have hYE:YE.2.1=1:=hA21.now.2.cat.xlen.2.symm;refine zn 1 YE hb22 (by rfl) (zd (beq_eq_false_iff_ne.2 (by omega)) ?_);refine zK (ls:=yy) (yl XE YE) hb22 (by rfl) ?_;refine yd (vs:=zB XE YE) (by rfl) (ye _ _) (fun r38 w23 hb23 he23 hr23=>?_) (by rfl);have st23:=st22.ext' he23;have hA23:=hA22.box he23 hr23;have hF3lt:=st22.sp.lt;have hn38:¬F3 r38:=fun hf=>by have:=hF3lt _ hf;omega
 have hx22:=st22.ext.size;have hfull:=zi2 (P:=F3) ((hA22.mono fun _ h=>h.1.2).ext he23);have hfm:zbM F3 w23 r38 XE YE [(ByteArray.mk #[101],0)]:=⟨hb23,hn38,hfull.1,hfull.2.1,hfull.2.2.1,hfull.2.2.2⟩
 -- fifteen more
 refine zE (fun q w'=>∃ (i:Nat) (S:Spa) (F:Nat->Prop) (Xq Yq:SLC) (ss:List Snp),i<=15/\q=((i:Int),())/\St w w' b db S F/\zbL k S (i+1)/\zd4 i ss/\zbM F w' r38 Xq Yq ss/\Safe (FrX F r38) w' (fun w=>(((((((z8 w 0 x y ([yD k],[])/\Blk w r4 (zB x y) 30)/\z8 w 0 X Y ([yD k],[(strs,n)]))/\Blk w r7 (zB X Y) 30)/\z8 w 0 X1 Y1 ([yD k],[]))/\Blk w r33 (zB X9 Y9) 30)/\z8 w 0 XE YE ([],[(ByteArray.mk #[101],0)]))/\Blk w r35 (zB XE YE) 30))) (fun q=>(15-q.1).toNat)
  ⟨0,S3,F3,XE,YE,_,by omega,rfl,st23,rp1,zqk _ (by rfl) 0,hfm,hA23⟩ ?_
 rintro _ w24 ⟨i,S,F4,XF,YF,ss,hi,rfl,st24,rp,nms,fm,hA24⟩;dsimp only;have hssl:=nms.len
 by_cases hlt:i<15
 ·refine zf (decide_eq_true (by omega)) ?_;refine zS fun w25 he25 hz25 hh25=>?_;have st25:=st24.ext' he25;have fm25:=fm.ext he25;have hA25:=hA24.ext he25;refine zK (ls:=yy) (yl XF YF) fm25.box (by rfl) ?_;have hw:wrap .i64 ((i:Int)+1)=((i+1:Nat):Int):=by rw[wrap_i64 (by omega) (by omega)];rfl
  rw[hw];have hB97:B (ByteArray.mk #[97])=[97]:=by rfl
  refine zb (zhY w25 (ByteArray.mk #[97]) (n:=((i+1:Nat):Int)) (by omega) (by rw[hB97];show 1*_<=_;omega) (by rw[hB97];show 1<=_;omega)) ?_;rintro _ w26 ⟨rfl,hw26⟩;subst hw26;refine⟨_,rfl,?_⟩;refine xQ (zcT fm25.box) ?_;rw[hB97,Int.toNat_natCast];generalize hnmB:(⟨(yX [97] (i+1)).toArray⟩:ByteArray)=nm;have hBn:B nm=yX [97] (i+1):=by rw[<- hnmB];exact jq _
  refine zb (qp (c:=([],ss)) (s:=nm) (R:=[k]) (H:=[]) (M:=none) st25.sp fm25.safe (zhQ (by omega)) (fun _ _ _=>rp.frz (by omega) ss)) ?_;rintro _ w27 (⟨hne,_⟩|⟨_,hth,_⟩|⟨_,_,h16,_⟩|⟨_,_,_,XG,YG,S4,n4,c4,ls4,F5,rfl,hOk4,h27,hF5,o27,hA27⟩)
  ·exact absurd (by rw[hBn];exact zqb (i+1) (by omega) (by omega)) hne
  ·exact absurd hth (nms.not (by rw[hBn];exact NmI.new))
  ·have h16:16<=ss.length:=h16;omega
  obtain⟨rfl,rp4⟩:=rp.step hOk4;have st27:St w w27 b db S4 F5:=st25.act h27 hF5 o27;have hA27':=hA25.act o27 hF5;refine⟨(yl XG YG,0,()),rfl,?_⟩;have hb27:=fm25.box.only o27 fm25.nb;have hn5:¬F5 r38:=fun hf=>by
   rcases hF5 _ hf with e|e
   ·exact fm25.nb e
   ·have:=fm25.box.lt;omega
  obtain⟨q1,q2,q3,q4⟩:=zi2 (P:=F5) hA27;refine za3 (vs:=zB XG YG) hb27 (by rfl) (ye _ _) (by rfl) ?_;intro w28 hb28 o28;refine⟨⟨i+1,S4,F5,XG,YG,_,by omega,rfl,st27.fill hn5 (by omega) o28,rp4,nms.step (n:=0) hBn,⟨hb28,hn5,?_,?_,q3,q4⟩,hA27'.fill o28⟩,by omega⟩
  ·exact q1.only o28 (fun j hj e=>Owni.neB q1 hb27 (by decide) j hj e)
  ·exact q2.only o28 (fun j hj e=>Owni.neB q2 hb27 (by decide) j hj e)
 obtain rfl:i=15:=by omega
 refine zd (decide_eq_false (by omega)) ?_;refine zK (ls:=yy) (yl XF YF) fm.box (by rfl) ?_;have hBz:B (ByteArray.mk #[122])=[122]:=by rfl
 have hnz:yr (B (ByteArray.mk #[122]))=0:=by kernel_rfl
 have hntz:¬jN ([],ss) (ByteArray.mk #[122]):=nms.not (by rw[hBz];exact NmI.notz);refine zb (qp (c:=([],ss)) (s:=ByteArray.mk #[122]) (R:=[k]) (H:=[]) (M:=none) st24.sp fm.safe (zhQ (by omega)) (fun _ _ h16=>absurd h16 (by show ¬ss.length<16;omega))) ?_;rintro _ w25 (⟨hne,_⟩|⟨_,hth,_⟩|⟨_,_,h16,rfl,he25⟩|⟨_,_,h16,_⟩)
 ·exact absurd hnz hne
 ·exact absurd hth hntz
 rotate_left
 ·have h16:ss.length<16:=h16;omega
 refine⟨(yl (none,0,0) (none,0,0),12,()),rfl,?_⟩;refine yd (vs:=zB (none,0,0) (none,0,0)) (by rfl) (ye _ _) (fun r46 w26 hb26 he26 hr26=>?_) (by rfl);have he2426:=he25.trans he26;have st26:=st24.ext' he2426;have hA26:=hA24.ext he2426;refine yv (fun q w'=>q=(true,())/\Ext w w') ?_ (fun J47 hJ47=>?_)
 ·rintro _ w27 ⟨rfl,he⟩;exact⟨rfl,he⟩
 refine zS fun w27 he27 hz27 hh27=>?_;have st27:=st26.ext' he27;have hA27:=hA26.ext he27;obtain⟨⟨⟨⟨⟨⟨⟨p1,p2⟩,_⟩,_⟩,p3⟩,p4⟩,p5⟩,p6⟩:=hA27.now;dsimp only;refine za4 (true,()) (fun J hJ=>zf (by rfl) (zf (by rfl) (zf (by rw[hne0];rfl) (zf (by rfl) hJ)))) ?_;refine za4 (true,()) (fun J hJ=>zf (by rfl) (zf (by rfl) (zf (by rfl) (zf (by rfl) hJ)))) ?_;refine za4 (true,()) (fun J hJ=>zf (by rfl) (zf (by rfl) (zf (beq_iff_eq.2 (by have:X1.2.1=1:=p3.cat.xlen.1.symm;omega)) ?_))) ?_
 ·refine yH.zgf (k:=k) p3.cat rfl ?_;refine zO x p2 (by rfl) ?_;refine yH.zgf (k:=k) p1.cat rfl ?_;exact zf (beq_self_eq_true _) hJ
 refine za4 (true,()) (fun J hJ=>zf (by rfl) (zf (by rfl) (zf (by rfl) (zf (beq_iff_eq.2 (by omega)) hJ)))) ?_;refine za4 (true,()) (fun J hJ=>zf (by rfl) (zf (by rfl) (zf (by rfl) (zn 1 Y9 p4 (by rfl) (zf (beq_iff_eq.2 (by omega)) hJ))))) ?_;refine za4 (true,()) (fun J hJ=>zf (by rfl) (zO x p2 (by rfl) ?_)) ?_
 ·refine yH.zgf (k:=k) p1.cat rfl ?_;refine zb (zg6 st27.sp hk32) ?_;rintro _ w28 ⟨rfl,hw28⟩;subst hw28;refine⟨_,rfl,?_⟩;rw[rp.one];exact zf (by rfl) (zf (by rfl) hJ)
 refine zf (by rfl) (zn 1 YE p6 (by rfl) ?_);refine zbi (E:=zA) 1 (fun e:Snp=>((e.2:Nat):Int)) zP p5.2.sl (fun _=>rfl) rfl (by omega) (by omega) ?_;refine zf (by rfl) (hJ47 _ _ ⟨rfl,st27.ext⟩)
end V
end Go.Proofs.YtpagephahcnijaaGreat
