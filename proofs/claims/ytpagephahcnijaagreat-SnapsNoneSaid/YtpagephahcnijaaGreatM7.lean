/- Texts of mine, merged (wip/tool/mergep.py): L, L2, L3, L4, LStay, LNone. -/
import Derived.Test.YtpagephahcnijaaGreatM6
open Go.IntKind (wrap)
open Go.Proofs.Tryz (prog)
open List (mem_cons_self mem_cons_of_mem mem_cons length_cons map_map mem_append mem_append_left drop_drop mem_range mem_of_getElem? getElem_mem mem_iff_getElem map_cons mem_map append_assoc nodup_cons foldl_cons append_nil length_map length_set eq_nil_of_length_eq_zero range_succ map_congr_left length_append drop_of_length_le take_of_length_le getD_eq_getElem?_getD mem_singleton length_take drop_eq_getElem_cons length_drop take_succ_eq_append_getElem take_add_one not_mem_nil map_append take_left' length_replicate drop_left' flatMap_cons length_range getElem_range flatMap_append length_singleton)
set_option linter.unusedVariables false
set_option linter.unusedSimpArgs false
namespace Go.Proofs.YtpagephahcnijaaGreat
/- Law 26:the space that all begin with;catalogs of names. -/
namespace V
open Go Go.Proofs Go.RowKit Crc
variable {w0 w w':World} {b db:Nat} {S:Spa} {F:Nat->Prop} {R H:List Nat} {M:Option (List Nat)}
theorem zdF (w:World):Calls prog 8 #[] w (Ret fun v w'=>∃ db b,v=.pointer (some ⟨b,0,none⟩)/\∃ F,St w w' b db S0 F):=by
 apply zpI;unfold S8;refine zb (zjw w 256 256) ?_;rintro _ w2 (⟨_,db,rfl,hd⟩|⟨hg,_⟩)
 ·refine⟨(some ⟨db,0,none⟩,0,()),rfl,?_⟩;refine zb (zln hd) ?_;rintro _ w3 ⟨b,rfl,F,h3⟩;exact⟨(some ⟨b,0,none⟩,0,()),rfl,zd (by rfl) ⟨db,b,rfl,F,h3⟩⟩
 ·rw[zfv]at hg;cases hg
def ym (es:List Ent):List Nat:=es.filterMap fun e=>if e.2.2.1=0 then none else some e.2.2.1
theorem vI (es:List Ent) (e:Ent):ym (es++[e])=ym es++(if e.2.2.1=0 then [] else [e.2.2.1]):=by
 unfold ym;rw[List.filterMap_append];congr 1;split
 ·rename_i h;simp[h]
 ·rename_i h;simp[h]
theorem zf3 (A:Option Addr) (es:List Ent):∀ i,i<=es.length->(spT A es i).map (fun p=>p.2.2)=ym (es.take i)
 |0,_=>rfl
 |i+1,h=>by
  rw[jk,map_append,zf3 A es i (by omega),znH (d:=zZ) (by omega),vI];congr 1;split<;>rfl
theorem zaT (c:Cat):zY (alone c)=ym c.1:=by
 rw[<- zdD (none,0,0) (none,0,0)];unfold zV alone;rw[map_append,zf3 none c.1 _ (Nat.le_refl _),take_of_length_le (Nat.le_refl _)];simp[spS]
theorem zeV {es:List Ent} {r:Nat} (h:r∈ym es):∃ j,j<es.length/\(es.getD j zZ).2.2.1=r/\r≠0:=by
 unfold ym at h;obtain⟨e,he,h2⟩:=List.mem_filterMap.1 h;split at h2
 ·cases h2
 ·rename_i hn;injection h2 with h2
  obtain⟨j,hj,e2⟩:=zbX (d:=zZ) he;exact⟨j,hj,by rw[e2];exact h2,by omega⟩
def fM (m:Nat):Nat:=if m % 3=0 then 0 else if m % 3=1 then 2 else 1
structure xx (S:Spa) (es:List Ent) (xs:List ByteArray) (rows i:Nat):Prop where
 len:es.length=i
 great:Great S (ym es) [] none
 ent:∀ j,j<i->∃ r,es.getD j zZ=(xs.getD j ByteArray.empty,jY,r,j,if r=0 then (0:Int) else ((1+j:Nat):Int))/\(r≠0->S.page r=(((7:UInt8),[],xs.getD j ByteArray.empty),0)/\S.now.getD r 0=1)
 nodup:(ym es).Nodup
 mk_:Mk S0 S (ym es)
 many:3*(ym es).length+fM (rows+i)=2*i+fM rows
theorem xx.init (xs:List ByteArray) (rows:Nat):xx S0 [] xs rows 0:=⟨rfl,zab,fun j hj=>by omega,List.nodup_nil,Mk.refl _,by show 3*0+fM (rows+0)=2*0+fM rows;rw[Nat.add_zero]⟩
theorem xx.none_ {es:List Ent} {xs:List ByteArray} {rows i:Nat} (h:xx S es xs rows i) (hm:(rows+i) % 3=0):xx S (es++[(xs.getD i ByteArray.empty,jY,0,i,0)]) xs rows (i+1):=by
 have hr:ym (es++[(xs.getD i ByteArray.empty,jY,0,i,0)])=ym es:=by rw[vI,if_pos rfl,append_nil]
 refine⟨by rw[length_append,h.len];rfl,by rw[hr];exact h.great,fun j hj=>?_,by rw[hr];exact h.nodup,by rw[hr];exact h.mk_,?_⟩
 ·rw[vT h.len]
  by_cases e:j<i
  ·rw[if_pos e];exact h.ent j e
  ·have e2:j=i:=by omega
   subst e2;rw[if_neg e,if_pos rfl];exact⟨0,by rw[if_pos rfl],fun hh=>absurd rfl hh⟩
 ·rw[hr];have:=h.many;unfold fM at this ⊢;rw[if_pos hm]at this;rw[if_neg (by omega),if_pos (by omega)];omega
theorem xx.some_ {S':Spa} {es:List Ent} {xs:List ByteArray} {rows i k:Nat} (h:xx S es xs rows i) (hm:(rows+i) % 3≠0) (hP:jV S S' ((7:UInt8),[],xs.getD i ByteArray.empty) k) (hG:Great S' (k::ym es) [] none):xx S' (es++[(xs.getD i ByteArray.empty,jY,k,i,((1+i:Nat):Int))]) xs rows (i+1):=by
 have h2:=hP.two;have hk0:k≠0:=by omega
 have hr:ym (es++[(xs.getD i ByteArray.empty,jY,k,i,((1+i:Nat):Int))])=ym es++[k]:=by rw[vI,if_neg hk0]
 have hl:S.now.length=S.N:=h.great.good.ok.now;have hfr:=(zR.1 hP.free).1;have hnk:∀ {r j:Nat},j<i->(es.getD j zZ).2.2.1=r->r≠0->r≠k:=fun hj he h0 e=>by
  obtain⟨r',e1,e2⟩:=h.ent _ hj;rw[e1]at he;have he:r'=_:=he;subst he;have:=(e2 h0).2;rw[e]at this;omega
 refine⟨by rw[length_append,h.len];rfl,?_,fun j hj=>?_,?_,?_,?_⟩
 ·rw[hr];exact hG.perm (List.perm_append_singleton k (ym es)).symm
 ·rw[vT h.len]
  by_cases e:j<i
  ·rw[if_pos e];obtain⟨r,e1,e2⟩:=h.ent j e;refine⟨r,e1,fun h0=>?_⟩;obtain⟨e3,e4⟩:=e2 h0;have hne:=hnk e (by rw[e1]) h0;have hlt:r<S.N:=by
    have hm:r∈ym es:=by
     unfold ym;refine List.mem_filterMap.2 ⟨es.getD j zZ,zaw (by rw[h.len];exact e),?_⟩;rw[e1,if_neg h0]
    exact h.great.good.well.lt (h.great.good.well.root r hm)
   refine⟨by rw[hP.other r hne hlt];exact e3,?_⟩;rw[hP.now,yk,if_neg (fun hh=>hne hh.1.symm)];exact e4
  ·have e2:j=i:=by omega
   subst e2;rw[if_neg e,if_pos rfl];refine⟨k,by rw[if_neg hk0],fun _=>⟨hP.page,?_⟩⟩;rw[hP.now,yk,if_pos ⟨rfl,by rw[hl];exact hP.lt⟩]
 ·rw[hr,List.nodup_append];refine⟨h.nodup,by simp,fun a ha c hc e=>?_⟩;rw[mem_singleton]at hc;obtain⟨j,hj,e1,e2⟩:=zeV ha;exact hnk (by rw[h.len]at hj;exact hj) e1 e2 (by omega)
 ·rw[hr];exact h.mk_.trans (hP.mk_ hl)
 ·rw[hr,length_append];have:=h.many;unfold fM at this ⊢;rw[if_neg hm]at this;show 3*((ym es).length+1)+_=_
  by_cases h1:(rows+i) % 3=1
  ·rw[if_pos h1]at this;rw[if_neg (by omega),if_neg (by omega)];omega
  ·rw[if_neg h1]at this;rw[if_pos (by omega)];omega
theorem xx.bound {es:List Ent} {xs:List ByteArray} {rows i:Nat} (h:xx S es xs rows i):i<=400/\(ym es).length<=251/\S.dev.pen.length<=251:=by
 have h1:=h.mk_.free;rw[zda]at h1;have h2:=h.many;have h3:∀ m,fM m<=2:=fun m=>by unfold fM;split<;>(try split)<;>omega
 have:=h3 (rows+i);have:=h3 rows;have h4:=h.mk_.pen;rw[zhW]at h4;have:([]:List (Int×ByteArray)).length=0:=rfl;refine⟨by omega,by omega,by omega⟩
def zcY (x:SLC) (raws:List Raw) (k:Nat):Prop:=orow x.1=some k\/∃ i,i<raws.length/\orow (raws.getD i yS).2.1.1=some k
theorem yy.apart {G:Nat->Prop} {B0:Nat} {x:SLC} {raws:List Raw} {es:List Ent} (h:yy w B0 x raws es) (o:Only G w w') (hG:∀ k,zcY x raws k->¬G k):yy w' B0 x raws es:=
 ⟨h.row.only o (fun j hj=>hG j (.inl hj)),h.len,fun i hi=>⟨(h.at_ i hi).name,(h.at_ i hi).rest,(h.at_ i hi).cols.only o (fun j hj=>hG j (.inr ⟨i,by rw[h.len];exact hi,hj⟩))⟩⟩
theorem yy.rows {B0:Nat} {x:SLC} {raws:List Raw} {es:List Ent} (h:yy w B0 x raws es) {k:Nat} (hk:zcY x raws k):B0<=k/\k<w.heap.size:=by
 rcases hk with e|⟨i,hi,e⟩
 ·exact⟨h.row.row k e,h.row.yd k e⟩
 ·have hE:=h.at_ i (by rw[<- h.len];exact hi);exact⟨hE.cols.row k e,hE.cols.yd k e⟩
structure vJ (w0 w:World) (b db r1 r2 B0:Nat) (S:Spa) (F:Nat->Prop) (x:SLC) (raws:List Raw) (es:List Ent):Prop where
 st:St w0 w b db S F
 b1:Blk w r1 (zD (none,0,0) (none,0,0)) 30
 b2:Blk w r2 (zD x (none,0,0)) 30
 tabs:yy w B0 x raws es
 nF:∀ k,F k->k≠r1/\k≠r2/\¬zcY x raws k
variable {r1 r2 B0 rows i:Nat} {xs:List ByteArray} {x:SLC} {raws:List Raw} {es:List Ent}
theorem vJ.ext' (h:vJ w0 w b db r1 r2 B0 S F x raws es) (he:Ext w w'):vJ w0 w' b db r1 r2 B0 S F x raws es:=
 ⟨h.st.ext' he,h.b1.ext he,h.b2.ext he,h.tabs.ext he,h.nF⟩
def zfB (w0:World) (b db:Nat) (xs:List ByteArray) (rows:Nat) (v:Value) (w':World):Prop:=
 ∃ (x y:SLC) (ok:Bool),v=.tuple #[.agg (zD x y).toArray,.bool ok]/\Ext w0 w'/\
  (ok=true->∃ S F es,y=(none,0,0)/\St w0 w' b db S F/\xx S es xs rows xs.length/\xs.length<=8/\xU (es,[])=true/\Safe F w' (fun w=>yr w 0 x y (es,[])))
theorem zbY {ok:Bool} (h:vJ w0 w b db r1 r2 B0 S F x raws es) (h1:w0.heap.size<=r1) (hB:r1<B0) (hok:ok=true->xx S es xs rows xs.length/\xs.length<=8/\xU (es,[])=true):
  (zc ((#[(.slice x.1 x.2.1 x.2.2),(.slice none 0 0)]:Array Value).size=2)<|
   zr (aD r1) [(.slice x.1 x.2.1 x.2.2),(.slice none 0 0)]<|
   zl [.slc,.slc] (aD r1) fun(u17:(SLC×SLC×Unit))=>zfB w0 b db xs rows (.tuple #[(.agg #[(.slice u17.1.1 u17.1.2.1 u17.1.2.2),(.slice u17.2.1.1 u17.2.1.2.1 u17.2.1.2.2)]),(.bool ok)])) w:=by
 refine vu (vs:=zD x (none,0,0)) h.b1 (by rfl) (yq _ _) (by rfl) ?_;intro w2 hb2 o2;refine zM (ls:=yB) (yw x (none,0,0)) hb2 (by rfl) ?_;have e2:Ext w0 w2:=Only.ext h.st.ext o2 (fun j hj=>by have:j=r1:=hj;omega);refine⟨x,(none,0,0),ok,rfl,e2,fun hh=>?_⟩;obtain⟨hpl,h8,hc⟩:=hok hh;have hsp:zT w2 b db S F:=h.st.sp.only o2 (fun k hk e=>(h.nF k hk).1 e);have ht:=h.tabs.apart o2 (fun k hk e=>by have:=(h.tabs.rows hk).1;have:k=r1:=e;omega);refine⟨S,F,es,rfl,⟨hsp,h.st.low,e2⟩,hpl,h8,hc,fun w3 o3=>⟨⟨raws,?_⟩,Owni.nil _ _ _⟩⟩;exact(ht.apart o3 (fun k hk hf=>(h.nF k hf).2.2 hk)).lower (Nat.zero_le _)
theorem zh0 {r12:Nat} {e:Ent} {P:SLC} {N:WP} (h:vJ w0 w b db r1 r2 B0 S F x raws es) (hl:es.length=i) (h12:r1<B0/\r2<B0/\r1≠r2) (hB:B0<=r12) (hb:Blk w r12 (yG.f (e.1,P,e.2.2)) 42) (hp:Owni qb 95 w B0 P.1 P.2.1 P.2.2 e.2.1) (hnP:∀ k,orow P.1=some k->¬F k) (hn:i<=1000) (hn12:¬F r12) (hw0:w0.heap.size<=r2/\w0.heap.size<=B0) (hpl:xx S (es++[e]) xs rows (i+1))
  (hN:∀ w' x' raws',vJ w0 w' b db r1 r2 B0 S F x' raws' (es++[e])->N w'):
  (ldW .slc (aD r2) fun(u18:SLC)=>
   zl [.str,.slc,(.int .u32),(.int .u64),(.int .i64)] (aD r12) fun(u19:(ByteArray×SLC×Int×Int×Int×Unit))=>
   zi (.cells #[(.string u19.1),(.slice u19.2.1.1 u19.2.1.2.1 u19.2.1.2.2),(.int .u32 u19.2.2.1),(.int .u64 u19.2.2.2.1),(.int .i64 u19.2.2.2.2.1)] 42) fun(r20:Nat)=>
   zv prog (Builtin.append_ #[27,27] 27 #[(.slice u18.1 u18.2.1 u18.2.2),(.slice (some (aD r20)) 1 1)]) .slc fun(u21:SLC)=>
   stW (aD r2) (.slice u21.1 u21.2.1 u21.2.2)<|N) w:=by
 have hxl:=h.tabs.row.len;have hrl:=h.tabs.len;refine zN x h.b2 (by rfl) ?_;refine zM (ls:=zeO) (zbI (e.1,P,e.2.2)) hb (by rfl) ?_;refine yR (E:=yG) (ys:=[(e.1,P,e.2.2)]) (by rfl) rfl zd6 h.tabs.row (by have:=hb.lt;omega) (by omega) (by omega) ?_;intro A' c' w2 ho2 hg2;have hlt:=h.st.sp.lt;have hrow:=h.tabs.row.row;have hnx:∀ k,F k->orow x.1≠some k:=fun k hk e=>(h.nF k hk).2.2 (.inl e);have hsp2:zT w2 b db S F:=h.st.sp.only (G:=fun k=>orow x.1=some k) (Only.zW hg2.grown (fun j hj=>.inl hj)) (fun k hk e=>hnx k hk e);have hb12:=h.b1.grown hg2.grown (fun e=>by have:=hrow _ e.symm;omega);have hb22:=h.b2.grown hg2.grown (fun e=>by have:=hrow _ e.symm;omega);have e02:Ext w0 w2:=h.st.ext.grown hg2.grown (fun j hj=>by have:=hrow j hj;omega);refine stE (o:=0) hb22 rfl (by show 0<2;omega) ?_;intro w3 hb3 o3;have hx0:w.heap.size<=w2.heap.size:=hg2.grown.size;refine hN w3 (A',x.2.1+1,c') (raws++[(e.1,P,e.2.2)]) ⟨⟨hsp2.only o3 (fun k hk e=>(h.nF k hk).2.1 e),h.st.low,Only.ext e02 o3 (fun j hj=>by have:j=r2:=hj;omega)⟩,hb12.only o3 (fun e=>h12.2.2 e),hb3,?_,fun k hk=>⟨(h.nF k hk).1,(h.nF k hk).2.1,?_⟩⟩
 ·have hold:∀ j,j<es.length->xJ w2 B0 (raws.getD j yS) (es.getD j zZ):=fun j hj=>(h.tabs.at_ j hj).grown h.tabs.row hg2.grown;have hnew:xJ w2 B0 ((e.1,P,e.2.2):Raw) e:=⟨rfl,rfl,hp.grown hg2.grown (fun j hj=>h.tabs.row.ne hp (by decide) j hj)⟩;have hT2:=h.tabs.snoc (c:=c') ho2 hold hnew;refine hT2.apart o3 (fun k hk e=>?_);have:=(hT2.rows hk).1;have:k=r2:=e;omega
 ·rintro(e|⟨j,hj,e⟩)
  ·rcases hg2.next k e with e|e
   ·exact hnx k hk e
   ·have:=hlt k hk;omega
  ·rw[vT (n:=raws.length) rfl]at e;rw[length_append]at hj;split at e
   ·rename_i hj2;exact(h.nF k hk).2.2 (.inr ⟨j,hj2,e⟩)
   ·split at e
    ·exact hnP k e hk
    ·rename_i h1 h2;have:j<raws.length+1:=hj;omega
end V
/- Law 26:catalogs of names,made. -/
namespace V
open Go Go.Proofs Go.RowKit Crc
variable {w0 w w':World} {b db:Nat} {S:Spa} {F:Nat->Prop}
variable {r1 r2 B0 rows i:Nat} {xs:List ByteArray} {x:SLC} {raws:List Raw} {es:List Ent}
theorem zqo (rows i:Nat) (h:rows+i<9223372036854775808):(Int.tmod (wrap .i64 ((rows:Int)+(i:Int))) (3:Int) !=(0:Int))=decide ((rows+i) % 3≠0):=by
 rw[wrap_i64 (by omega) (by omega),show(rows:Int)+(i:Int)=((rows+i:Nat):Int) by omega];have:Int.tmod ((rows+i:Nat):Int) (3:Int)=(((rows+i) % 3:Nat):Int):=rfl;rw[this]
 by_cases h:(rows+i) % 3=0
 ·rw[h];rfl
 ·rw[decide_eq_true h];exact bne_iff_ne.2 (by omega)
theorem zlq {A1:Option Addr} {n1 c1 r12:Nat} {P:SLC} {I:Int×Unit->WP} (hs:Sli yK w A1 n1 xs) (hi:i<n1) (hx:(xs.getD i ByteArray.empty).size<=30) (h:vJ w0 w b db r1 r2 B0 S F x raws es) (pl:xx S es xs rows i) (hRow:¬zcY x raws r12) (h12:w0.heap.size<=r1/\w0.heap.size<=r2/\r1<B0/\r2<B0/\r1≠r2)
  (hb:Blk w r12 (yG.f (xs.getD i ByteArray.empty,P,0,i,0)) 42) (hB:B0<=r12) (hn12:¬F r12) (hp:Owni qb 95 w B0 P.1 P.2.1 P.2.2 jY) (hnP:∀ k,orow P.1=some k->¬F k) (hr3:rows<3) (hsb:∀ w',Ext w0 w'->Sli yK w' A1 n1 xs)
  (hI:∀ S' F' x' raws' es' w',vJ w0 w' b db r1 r2 B0 S' F' x' raws' es'->xx S' es' xs rows (i+1)->I (((i+1:Nat):Int),()) w'):
  (za ((Int.tmod (wrap .i64 ((rows:Int)+(i:Int))) (3:Int)) !=(0:Int)) (zc (0<=(i:Int)/\(i:Int)<((n1:Nat):Int))<|
   zk A1 fun(p13:Addr)=>
   ldW .str (p13.add (Int.toNat (i:Int)*1)) fun(u14:ByteArray)=>
   ze prog 30 [(.pointer (some (aD b))),(.agg #[(.int .u8 (7:Int)),(.slice none 0 0),(.string u14)])] (.many [(.one (.int .u32)),(.one (.int .i64))]) fun(u15:Int×Int×Unit)=>
   za (u15.2.1 !=(0:Int)) (zl [.slc,.slc] (aD r2) fun(u16:(SLC×SLC×Unit))=>
   zc ((#[(.slice u16.1.1 u16.1.2.1 u16.1.2.2),(.slice u16.2.1.1 u16.2.1.2.1 u16.2.1.2.2)]:Array Value).size=2)<|
   zr (aD r1) [(.slice u16.1.1 u16.1.2.1 u16.1.2.2),(.slice u16.2.1.1 u16.2.1.2.1 u16.2.1.2.2)]<|
   zl [.slc,.slc] (aD r1) fun(u17:(SLC×SLC×Unit))=>zfB w0 b db xs rows (.tuple #[(.agg #[(.slice u17.1.1 u17.1.2.1 u17.1.2.2),(.slice u17.2.1.1 u17.2.1.2.1 u17.2.1.2.2)]),(.bool false)]))<|
   stW ((aD r12).add 2) (.int .u32 u15.1)<|
   stW ((aD r12).add 4) (.int .i64 (wrap .i64 ((1:Int)+(i:Int))))<|
   ldW .slc (aD r2) fun(u18:SLC)=>
   zl [.str,.slc,(.int .u32),(.int .u64),(.int .i64)] (aD r12) fun(u19:(ByteArray×SLC×Int×Int×Int×Unit))=>
   zi (.cells #[(.string u19.1),(.slice u19.2.1.1 u19.2.1.2.1 u19.2.1.2.2),(.int .u32 u19.2.2.1),(.int .u64 u19.2.2.2.1),(.int .i64 u19.2.2.2.2.1)] 42) fun(r20:Nat)=>
   zv prog (Builtin.append_ #[27,27] 27 #[(.slice u18.1 u18.2.1 u18.2.2),(.slice (some (aD r20)) 1 1)]) .slc fun(u21:SLC)=>
   stW (aD r2) (.slice u21.1 u21.2.1 u21.2.2)<|I ((wrap .i64 ((i:Int)+(1:Int))),()))<|
   ldW .slc (aD r2) fun(u22:SLC)=>
   zl [.str,.slc,(.int .u32),(.int .u64),(.int .i64)] (aD r12) fun(u23:(ByteArray×SLC×Int×Int×Int×Unit))=>
   zi (.cells #[(.string u23.1),(.slice u23.2.1.1 u23.2.1.2.1 u23.2.1.2.2),(.int .u32 u23.2.2.1),(.int .u64 u23.2.2.2.1),(.int .i64 u23.2.2.2.2.1)] 42) fun(r24:Nat)=>
   zv prog (Builtin.append_ #[27,27] 27 #[(.slice u22.1 u22.2.1 u22.2.2),(.slice (some (aD r24)) 1 1)]) .slc fun(u25:SLC)=>
   stW (aD r2) (.slice u25.1 u25.2.1 u25.2.2)<|I ((wrap .i64 ((i:Int)+(1:Int))),())) w:=by
 obtain⟨hb400,hb251,hpen⟩:=pl.bound;have hw:wrap .i64 ((i:Int)+1)=((i+1:Nat):Int):=by rw[wrap_i64 (by omega) (by omega)];rfl
 have hw2:wrap .i64 ((1:Int)+(i:Int))=((1+i:Nat):Int):=by rw[wrap_i64 (by omega) (by omega)];omega
 rw[zqo rows i (by omega),hw,hw2]
 by_cases hm:(rows+i) % 3=0
 ·refine zd (decide_eq_false (by omega)) ?_;exact zh0 (e:=(xs.getD i ByteArray.empty,jY,0,i,0)) (P:=P) h pl.len ⟨h12.2.2.1,h12.2.2.2.1,h12.2.2.2.2⟩ hB hb hp hnP (by omega) hn12 ⟨h12.2.1,by omega⟩ (pl.none_ hm) (fun w' x' raws' hh=>hI _ _ _ _ _ _ hh (pl.none_ hm))
 refine zf (decide_eq_true hm) ?_;refine ux hs (by omega) (by omega) ?_;rw[Int.toNat_natCast];have hroom:S.room 0=(238:Nat):=by
  have h1:=(xH pl.great.good.dims).1;have h2:=pl.mk_.r0;rw[zgt]at h2;rw[h1,h2]
 have hput:=zhi (p:=((7:UInt8),[],xs.getD i ByteArray.empty)) (A:=none) (n:=0) (c:=0) h.st.sp (by exact pl.great) (by omega) (Sli.nil _ _) (fun a ha=>by cases ha) (by show 3<=7;omega) (by rw[hroom];show(0:Int)<=_;decide) (by dsimp only;omega);refine zb hput ?_;rintro _ w2 ⟨S',k,e,rfl,hR,hst⟩;refine⟨((k:Int),e,()),rfl,?_⟩;obtain⟨F',g1,g2,g3⟩:=hst;have hlt:=h.st.sp.lt;have hs2:=g3.2.2.2.1;have hFw:∀ {k:Nat},F' k->F k\/w.heap.size<=k:=fun hk=>g2 _ hk;have hb1:=h.b1.only g3 (fun hf=>(h.nF _ hf).1 rfl);have hb2:=h.b2.only g3 (fun hf=>(h.nF _ hf).2.1 rfl);have hT:=h.tabs.apart g3 (fun k hk hf=>(h.nF k hf).2.2 hk);have hst2:St w0 w2 b db S' F':=⟨g1,fun k hk=>by
  rcases hFw hk with e|e
  ·exact h.st.low k e
  ·exact Nat.le_trans h.st.ext.size e,Only.ext h.st.ext g3 h.st.low⟩
 have hnF:∀ k,F' k->k≠r1/\k≠r2/\¬zcY x raws k:=fun k hk=>by
  rcases hFw hk with e|e
  ·exact h.nF k e
  ·have q1:=h.b1.lt;have q2:=h.b2.lt;refine⟨by omega,by omega,fun hr=>?_⟩;have:=(h.tabs.rows hr).2;omega
 rcases hR with ⟨_,_,_,hbig⟩|⟨rfl,rfl,rfl,_⟩|⟨rfl,hP,hG,_,_⟩
 ·rw[show(((7:UInt8),([]:List Nat),xs.getD i ByteArray.empty):Page).2.1.length=0 from rfl]at hbig;have:((238:Nat):Int)<((xs.getD i ByteArray.empty).size:Int):=by rw[<- hroom];exact hbig
  omega
 ·refine zf (by rfl) ?_;refine zM (ls:=yB) (yw x (none,0,0)) hb2 (by rfl) ?_;exact zbY (ok:=false) ⟨hst2,hb1,hb2,hT,hnF⟩ h12.1 h12.2.2.1 (fun e=>by cases e)
 ·refine zd (by rfl) ?_;have hpl:=pl.some_ hm hP hG;have hb12:=hb.only g3 hn12;have hl12:=hb.lt;have hn12':¬F' r12:=fun hf=>by
   rcases hFw hf with e|e
   ·exact hn12 e
   ·omega
  have hp2:=hp.only g3 (fun j hj hf=>hnP j hj hf);have hnP':∀ k,orow P.1=some k->¬F' k:=fun k hk hf=>by
   rcases hFw hf with e|e
   ·exact hnP k hk e
   ·have:=hp.yd k hk;omega
  show stW ((aD r12).add 2) _ _ w2;rw[zw];refine stE (o:=2) hb12 rfl (by show 2<5;omega) ?_;intro w3 hb3 o3;show stW ((aD r12).add 4) _ _ w3;rw[zw];refine stE (o:=4) hb3 rfl (by show 4<5;omega) ?_;intro w4 hb4 o4;have hb4:Blk w4 r12 (yG.f (xs.getD i ByteArray.empty,P,k,i,((1+i:Nat):Int))) 42:=hb4;have o24:Only (fun j=>j=r12) w2 w4:=Only.trans o3 o4 (fun j hj=>.inl hj);have hne:∀ j,F' j->j≠r12:=fun j hj e=>hn12' (by rw[<- e];exact hj);have hst4:St w0 w4 b db S' F':=⟨hst2.sp.only o24 (fun j hj e=>hne j hj e),hst2.low,Only.ext hst2.ext o24 (fun j hj=>by have:j=r12:=hj;omega)⟩;have hb14:=hb1.only o24 (fun e=>by have:r1=r12:=e;omega);have hb24:=hb2.only o24 (fun e=>by have:r2=r12:=e;omega);have hT4:=hT.apart o24 (fun j hj e=>hRow (by have:j=r12:=e;rw[<- this];exact hj));have hp4:=hp2.only o24 (fun j hj e=>Owni.neB hp2 hb12 (by decide) j hj e);exact zh0 (e:=(xs.getD i ByteArray.empty,jY,k,i,((1+i:Nat):Int))) (P:=P) ⟨hst4,hb14,hb24,hT4,hnF⟩ pl.len ⟨h12.2.2.1,h12.2.2.2.1,h12.2.2.2.2⟩ hB hb4 hp4 hnP' (by omega) hn12' ⟨h12.2.1,by omega⟩ hpl (fun w' x' raws' hh=>hI _ _ _ _ _ _ hh hpl)
theorem zkk {A1:Option Addr} {n1 c1:Nat} (h:St w0 w b db S0 F) (hs:Sli yK w0 A1 n1 xs) (hr3:rows<3):
  Calls prog 10 #[.pointer (some ⟨b,0,none⟩),.slice A1 n1 c1,.int .i64 (rows:Int)] w (Ret (zfB w0 b db xs rows)):=by
 have hl:=hs.len;have hle:=hs.le;have hFlt:=h.sp.lt;have hs0:=h.ext.size;apply znW;unfold S10;refine zq fun r1 w1 hb1 he1 hr1 hz1=>?_;refine zq fun r2 w2 hb2 he2 hr2 hz2=>?_;have hb1:Blk w1 r1 (zD (none,0,0) (none,0,0)) 30:=hb1;have hb2:Blk w2 r2 (zD (none,0,0) (none,0,0)) 30:=hb2;have he02:=he1.trans he2;refine zA (fun q w'=>∃ (i:Nat) (S:Spa) (F':Nat->Prop) (x:SLC) (raws:List Raw) (es:List Ent),i<=n1/\q=((i:Int),())/\vJ w0 w' b db r1 r2 w2.heap.size S F' x raws es/\xx S es xs rows i) (fun q=>(n1-q.1).toNat)
  ⟨0,S0,F,(none,0,0),[],[],by omega,rfl,⟨h.ext' he02,hb1.ext he2,hb2,⟨Owni.nil _ _ _,rfl,fun i hi=>by cases hi⟩,fun k hk=>⟨fun e=>by have:=hFlt k hk;omega,fun e=>by have:=hFlt k hk;omega,fun hr=>by
   rcases hr with e|⟨j,hj,_⟩
   ·cases e
   ·cases hj⟩⟩,xx.init xs rows⟩ ?_
 rintro _ w3 ⟨i,S,F',x,raws,es,hi,rfl,hM,pl⟩;dsimp only;obtain⟨hb400,hb251,hpen⟩:=pl.bound
 by_cases hlt:i<n1
 ·refine zf (decide_eq_true (by omega)) ?_;have hs3:=hs.ext hM.st.ext;refine ux hs3 (by omega) (by omega) ?_;rw[Int.toNat_natCast];refine zg (fun hq=>?_) (fun hq=>?_)
  ·refine zM (ls:=yB) (yw x (none,0,0)) hM.b2 (by rfl) ?_;exact zbY (ok:=false) hM (by omega) (by omega) (fun e=>by cases e)
  have hq:=of_decide_eq_false hq;refine zP fun w4 he4 hz4 hh4=>?_;have hM4:=hM.ext' he4;have hs4:=hs3.ext he4;have eg:xs[i]?=some (xs.getD i ByteArray.empty):=by rw[getD_eq_getElem?_getD,List.getElem?_eq_getElem (by omega)];rfl
  refine q8 (E:=yK) hs4 (by omega) (x:=xs.getD i ByteArray.empty) (by rw[Int.toNat_natCast];exact eg) rfl ?_;intro pa hpa hca;rw[Int.toNat_natCast]at hca;refine zaC (l:=.str) (x:=xs.getD i ByteArray.empty) hca.1 ?_;have hcell:=hca.1;have hsz4:∀ k,F' k->k<w4.heap.size:=hM4.st.sp.lt;have hwu:wrap .u64 (i:Int)=(i:Int):=zB (by omega);rw[hwu];have one5:∀ P:SLC,∀ v∈yG.f (xs.getD i ByteArray.empty,P,0,i,0),v.oneCell'=true:=fun P=>yG.one _;have hBz:=hM4.b2.lt;have hB4:w2.heap.size<=w4.heap.size:=by
   have h1:=hM.b1.lt;have h2:=he4.size;have h3:r2<w4.heap.size:=hBz;omega
  have cont:∀ {w6:World} {r12:Nat} {P:SLC},Ext w4 w6->Blk w6 r12 (yG.f (xs.getD i ByteArray.empty,P,0,i,0)) 42->w4.heap.size<=r12->Owni qb 95 w6 w4.heap.size P.1 P.2.1 P.2.2 jY->_:=fun {w6 r12 P} he hb hr hp=>
   zlq (c1:=c1) (I:=fun q w'=>(∃ (i:Nat) (S:Spa) (F':Nat->Prop) (x:SLC) (raws:List Raw) (es:List Ent),i<=n1/\q=((i:Int),())/\vJ w0 w' b db r1 r2 w2.heap.size S F' x raws es/\xx S es xs rows i)/\(n1-q.1).toNat<(n1-(i:Int)).toNat) (hs4.ext he) hlt (by omega) (hM4.ext' he) pl (fun hR=>by have:=(hM4.tabs.rows hR).2;omega) ⟨by omega,by omega,by omega,by omega,by omega⟩ hb (by omega) (fun hf=>by have:=hsz4 _ hf;omega) (hp.lower hB4) (fun k hk hf=>by have:=hsz4 _ hf;have:=hp.row k hk;omega) hr3 (fun w' e=>hs.ext e) (fun S' F'' x' raws' es' w' g1 g2=>⟨⟨i+1,S',F'',x',raws',es',by omega,rfl,g1,g2⟩,by omega⟩)
  refine⟨?_,?_⟩
  ·refine zb (zee w4) ?_;rintro _ w5 ⟨rp,rfl,hp,he5⟩;refine⟨(some ⟨rp,0,none⟩,2,2),rfl,?_⟩;refine xr (fun q hq=>by rw[mem_singleton.1 hq];exact he5.cell hcell) ?_;refine yI ?_;have he6:Ext w5 (w5.alloc (.cells #[(.string ByteArray.empty),(.slice none 0 0),(.int .u32 (0:Int)),(.int .u64 (0:Int)),(.int .i64 (0:Int))] 42)):=(Ext.refl w5).alloc _;refine xr (fun q hq=>by rw[mem_singleton.1 hq];exact(he5.trans he6).cell hcell) ?_;refine vu (vs:=yG.f (xs.getD i ByteArray.empty,(some ⟨rp,0,none⟩,2,2),0,i,0)) (Blk.new w5 _ _) (by rfl) (one5 _) (by rfl) ?_;intro w7 hb7 o7;have he57:Ext w5 w7:=Only.ext he6 o7 (fun j hj=>by have:j=w5.heap.size:=hj;omega);exact cont (he5.trans he57) hb7 he5.size (hp.ext he57)
  ·refine yI ?_;have he6:Ext w4 (w4.alloc (.cells #[(.string ByteArray.empty),(.slice none 0 0),(.int .u32 (0:Int)),(.int .u64 (0:Int)),(.int .i64 (0:Int))] 42)):=(Ext.refl w4).alloc _;have hbN:=Blk.new w4 #[(.string ByteArray.empty),(.slice none 0 0),(.int .u32 (0:Int)),(.int .u64 (0:Int)),(.int .i64 (0:Int))] 42;refine xr (fun q hq=>by rw[mem_singleton.1 hq];exact he6.cell hcell) ?_;refine zb (zee _) ?_;rintro _ w5 ⟨rp,rfl,hp,he5⟩;refine⟨(some ⟨rp,0,none⟩,2,2),rfl,?_⟩;have he46:=he6.trans he5;refine xr (fun q hq=>by rw[mem_singleton.1 hq];exact he46.cell hcell) ?_;have hbN5:=Blk.ext hbN he5;refine vu (vs:=yG.f (xs.getD i ByteArray.empty,(some ⟨rp,0,none⟩,2,2),0,i,0)) hbN5 (by rfl) (one5 _) (by rfl) ?_;intro w7 hb7 o7;have he47:Ext w4 w7:=Only.ext he46 o7 (fun j hj=>by have:j=w4.heap.size:=hj;omega);exact cont he47 hb7 (Nat.le_refl _) ((hp.only o7 (fun j hj e=>Owni.neB hp hbN5 (by decide) j hj e)).lower (by simp))
 obtain rfl:i=n1:=by omega
 refine zd (decide_eq_false (by omega)) ?_;refine zP fun w4 he4 hz4 hh4=>?_;have hM4:=hM.ext' he4;refine zM (ls:=yB) (yw x (none,0,0)) hM4.b2 (by rfl) ?_;refine zg (fun hq=>?_) (fun hq=>zbY (ok:=false) hM4 (by omega) (by omega) (fun e=>by cases e));have hq:=of_decide_eq_true hq;refine zM (ls:=yB) (yw x (none,0,0)) hM4.b2 (by rfl) ?_;have hcat:xm w4 x (none,0,0) (es,[]):=⟨⟨raws,hM4.tabs.row.sl,hM4.tabs.len,fun j hj=>⟨(hM4.tabs.at_ j hj).name,(hM4.tabs.at_ j hj).rest,(hM4.tabs.at_ j hj).cols.sl,(hM4.tabs.at_ j hj).cols.le.1⟩⟩,Sli.nil _ _,hM4.tabs.row.le.1,Nat.le_refl _⟩;refine zb (zfA hcat) ?_;rintro _ w5 ⟨rfl,he5⟩;refine⟨_,rfl,?_⟩;have hM5:=hM4.ext' he5;refine xr (zc3 hM5.b2) ?_;refine zbY hM5 (by omega) (by omega) (fun hh=>?_);rw[hl];refine⟨pl,by omega,?_⟩;cases hc:xU (es,[]) with
 |true=>rfl
 |false=>rw[hc]at hh;cases hh
end V
/- Law 26:plain part;lives. -/
namespace V
open Go Go.Proofs Go.RowKit Crc
variable {w0 w w':World} {b db:Nat} {S S':Spa} {F:Nat->Prop} {R H:List Nat} {M:Option (List Nat)} {es:List Ent} {xs:List ByteArray} {rows:Nat}
theorem zeW {len:Nat} (h:len<=11000):nparts 238 len<=47:=by
 rcases Nat.lt_or_ge 47 (nparts 238 len) with h1|h1
 ·have:=(zap (r:=238) (len:=len) (i:=47) (by omega)).1 h1;omega
 ·exact h1
theorem xx.root {i:Nat} (h:xx S es xs rows i) {r:Nat} (hr:r∈ym es):zG S.sup.pages S.now r=true/\S.now.getD r 0=1/\yc S.page r=[]:=by
 obtain⟨j,hj,e1,e2⟩:=zeV hr;obtain⟨r',e3,e4⟩:=h.ent j (by rw[<- h.len];exact hj);rw[e3]at e1;have e1:r'=r:=e1;subst e1;obtain⟨e5,e6⟩:=e4 e2;exact⟨h.great.good.well.root _ hr,e6,by unfold yc;rw[e5]⟩
theorem xx.facts {i:Nat} (h:xx S es xs rows i) (h8:i<=8):S.sup.pages.length=3/\S.r0=238/\S.dev.pen.length<=251/\243<=S.zU/\(ym es).length<=8:=by
 have h1:=h.mk_.free;rw[zda]at h1;have h2:=h.mk_.r0;rw[zgt]at h2;have h3:(ym es).length<=es.length:=List.length_filterMap_le _ _;have h4:=h.len;exact⟨by rw[h.mk_.sup,zbV],h2,h.bound.2.2,by omega,by omega⟩
theorem xx.frz {i:Nat} (h:xx S es xs rows i) (h8:i<=8) (hok:xU (es,[])=true):znr S (es,[]) (ym es) [] none:=by
 obtain⟨f1,f2,f3,f4,f5⟩:=h.facts h8;have hal:alone (es,[])=(es,[]):=rfl;have hr:zY (alone (es,[]))=ym es:=zaT (es,[]);have hlen:=(jd.1 hok).len;have hnp:=zeW hlen;refine⟨h.great,hok,fun v hv=>?_,fun v hv=>?_,by omega,by rw[f2];omega,?_,?_⟩
 ·rw[hr]at hv;exact(h.root hv).1
 ·rw[hr]at hv;have:=(h.root hv).2.1;omega
 ·rw[f2,znJ,hal];omega
 ·rw[f2,hal,f1];omega
def nL (n:Nat):List Nat:=if n=0 then [] else [n]
theorem zlr {n i:Nat} {c1 ls:List Nat} (h:xx S es xs rows i) (hF:zkg S S' (es,[]) n (ym es) [] none c1 ls):Great S' (nL n++ym es) [] none/\(n≠0->zeS S' n (es,[])/\n∉ym es)/\(n=0->es=[])/\(∀ r∈ym es,S'.now.getD r 0=2/\S'.page r=S.page r):=by
 have hr:zY (alone (es,[]))=ym es:=zaT (es,[]);have hroots:∀ r∈ym es,S'.now.getD r 0=2/\S'.page r=S.page r:=by
  intro r hm;obtain⟨u1,u2,u3⟩:=h.root hm;have hcnt:=hF.cnt r;rw[hr,u2,h.nodup.count,if_pos hm]at hcnt;have hnl:r∉ls:=fun hk=>by
   have:=(zR.1 (hF.made.mem hk).2.2).1;have:c1.getD r 0=0:=this;omega
  refine⟨?_,hF.made.other r (by exact h.great.good.well.lt u1) hnl⟩;rw[hF.made.now,if_neg hnl];exact hcnt
 rcases hF.out with ⟨e1,e2,e3⟩|⟨e1,e2,e3⟩
 ·refine⟨?_,fun h0=>absurd e2 h0,fun _=>e1,hroots⟩;unfold nL;rw[if_pos e2];exact e3
 ·have hn2:=(zO.1 (e2.good.well.root n mem_cons_self)).1;refine⟨?_,fun _=>⟨e3,fun hm=>?_⟩,fun h0=>by omega,hroots⟩
  ·unfold nL;rw[if_neg (by omega)];exact e2
  ·-- a tree is no leaf of data
   obtain⟨k1,k2,k3⟩:=h.root hm;have hpg:=(hroots n hm).2;obtain⟨_,bn,bks,ht,_⟩:=e3;have hkid:yc S'.page n≠[]:=by
    cases ht with
    |one hA=>
     unfold yc;rw[hA.1];simp
    |two m a c' h1 h2 h3 h4 h5 h6 h7 h8=>
     unfold yc;rw[h6];simp
   apply hkid;unfold yc at k3 ⊢;rw[hpg];exact k3
end V
/- Law 26:lives;SnapsStay. -/
namespace V
open Go Go.Proofs Go.RowKit Crc
variable {w0 w w':World} {b db:Nat} {S S':Spa} {F:Nat->Prop} {R H:List Nat} {M:Option (List Nat)} {es:List Ent} {xs:List ByteArray} {rows:Nat}
def strt:ByteArray:=ByteArray.mk #[116]
def strs:ByteArray:=ByteArray.mk #[115]
def vw (k:Nat):Ent:=(strt,jY,k,1,1)
theorem zp8 {k:Nat} (hk:k≠0):xU ([vw k],[])=true:=by
 refine jd.2 ⟨by show 1<=16;omega,by show 0<=16;omega,fun e he=>?_,(fun s hs=>by cases hs),rfl,rfl⟩;rw[mem_singleton.1 he];exact⟨by kernel_rfl,zpx,⟨by show(0:Int)<=1;omega,by show(1:Int)<=4096;omega⟩,⟨fun e=>absurd e hk,fun e=>by cases e⟩,by show 1<_;omega⟩
theorem ziB (h:zT w b db S0 F):
  Calls prog 24 #[.pointer (some ⟨b,0,none⟩)] w (Ret fun v w'=>∃ x y S' k F',v=.agg (zD x y).toArray/\jV S0 S' ((7:UInt8),[],strt) k/\Great S' [k] [] none/\zT w' b db S' F'/\(∀ k,F' k->F k\/w.heap.size<=k)/\Only F w w'/\Safe F' w' (fun w=>yr w 0 x y ([vw k],[]))):=by
 have hFlt:=h.lt;apply zn5;unfold S24;refine zq fun r1 w1 hb1 he1 hr1 hz1=>?_;have hroom:S0.room 0=(238:Nat):=by rw[(xH zab.good.dims).1,zgt]
 refine zb (zhi (p:=((7:UInt8),[],strt)) (A:=none) (n:=0) (c:=0) (h.ext he1) (by exact zab) (by rw[zhW];simp) (Sli.nil _ _) (fun a ha=>by cases ha) (by show 3<=7;omega) (by rw[hroom];show(0:Int)<=_;decide) (by show 1<=1000000000;omega)) ?_;rintro _ w2 ⟨S',k,e,rfl,hR,F',g1,g2,g3⟩;rcases hR with ⟨_,_,_,hbig⟩|⟨_,_,_,hfull⟩|⟨rfl,hP,hG,_,_⟩
 ·have:((238:Nat):Int)<((strt.size:Nat):Int):=by rw[<- hroom];exact hbig
  have:strt.size=1:=by kernel_rfl
  omega
 ·rw[zda,zbV]at hfull;omega
 refine⟨((k:Int),0,()),rfl,?_⟩;have hs1:=he1.size;have hlt':=g1.lt;have hb12:=hb1.only g3 (fun hf=>by have:=hFlt _ hf;omega);refine zb (zee w2) ?_;rintro _ w3 ⟨n,rfl,ho,he3⟩;refine⟨(some ⟨n,0,none⟩,2,2),rfl,?_⟩;refine zq fun r4 w4 hb4 he4 hr4 hz4=>?_;have he24:=he3.trans he4;refine vu (vs:=zD (some ⟨r4,0,none⟩,1,1) (none,0,0)) (hb12.ext he24) (by rfl) (yq _ _) (by rfl) ?_;intro w5 hb5 o5;have hs2:=g3.2.2.2.1;have hs3:=he3.size;have hb45:Blk w5 r4 (yG.flat [(strt,(some ⟨n,0,none⟩,2,2),k,1,1)]) 42:=by
  have:Blk w4 r4 (yG.flat [(strt,(some ⟨n,0,none⟩,2,2),k,1,1)]) 42:=hb4;exact this.only o5 (fun e=>by have:r4=r1:=e;have:=hb1.lt;omega)
 have hor:=ho.row;have ho5:=(ho.ext he4).only o5 (fun j hj e=>by have:=hor j hj;have:j=r1:=e;have:=hb1.lt;omega);have hO:yr w5 w2.heap.size (some ⟨r4,0,none⟩,1,1) (none,0,0) ([vw k],[]):=by
  refine⟨⟨[(strt,(some ⟨n,0,none⟩,2,2),k,1,1)],vD hb45 rfl (by show 1<=9223372036854775807;omega) (by omega),rfl,fun i hi=>?_⟩,Owni.nil _ _ _⟩;have hi:i<1:=hi;obtain rfl:i=0:=by omega
  exact⟨rfl,rfl,ho5⟩
 have o25:Only (fun k=>k=r1) w2 w5:=Only.trans (Only.zz he24) o5 (fun j hj=>.inl hj);have hF1:∀ k,F' k->k≠r1:=fun j hj e=>by
  rcases g2 j hj with e1|e1
  ·have:=hFlt _ e1;omega
  ·have:=hb1.lt;omega
 refine zM (ls:=yB) (yw (some ⟨r4,0,none⟩,1,1) (none,0,0)) hb5 (by rfl) ⟨_,_,S',k,F',rfl,hP,hG,g1.only o25 (fun j hj e=>hF1 j hj e),fun j hj=>?_,?_,fun w6 o6=>(hO.only o6 (fun j hj=>hlt' j hj)).lower (Nat.zero_le _)⟩
 ·rcases g2 j hj with e|e
  ·exact .inl e
  ·exact .inr (by omega)
 ·refine Only.trans (Only.trans (Only.zz he1) g3 (fun j hj=>.inl hj)) o25 (fun j hj=>?_);have:j=r1:=hj;exact .inr (by omega)
theorem zpz {k:Nat} (hP:jV S0 S ((7:UInt8),[],strt) k) (hG:Great S [k] [] none):znr S ([vw k],[]) [k] [] none/\ym [vw k]=[k]:=by
 have h2:=hP.two;have hk0:k≠0:=by omega
 have hrt:ym [vw k]=[k]:=by
  show ym ([]++[vw k])=_;rw[vI,if_neg (show ¬(vw k).2.2.1=0 from hk0)];rfl
 have hr:zY (alone ([vw k],[]))=[k]:=(zaT ([vw k],[])).trans hrt;have hl:S0.now.length=S0.N:=zab.good.ok.now;have hok:=zp8 hk0;have hlen:=(jd.1 hok).len;have hnp:=zeW hlen;have hmk:=hP.mk_ hl;have hf:=hmk.free;rw[zda]at hf;have hf1:([k]:List Nat).length=1:=rfl;have hr0:S.r0=238:=by rw[hmk.r0,zgt]
 have hp:=hP.pen;rw[zhW]at hp;have hp0:([]:List (Int×ByteArray)).length=0:=rfl;refine⟨⟨hG,hok,fun v hv=>?_,fun v hv=>?_,by omega,by rw[hr0];omega,by rw[hr0,znJ];show(xX ([vw k],[])).length<=_;omega,?_⟩,hrt⟩
 ·rw[hr]at hv;exact hG.good.well.root v hv
 ·rw[hr,mem_singleton]at hv;subst hv;rw[hP.now,yk,if_pos ⟨rfl,by rw[hl];exact hP.lt⟩];omega
 ·rw[hr0,hP.sup,zbV];show 3+nparts 238 (xX ([vw k],[])).length+4<=_;omega
theorem zls (es:List Ent) (s:ByteArray):qt (es,[]) s=0:=Nat.le_zero.1 zfY
theorem zlt (es:List Ent) (s:ByteArray):¬vc (es,[]) s:=by
 rintro⟨h,_⟩;rw[zls]at h;cases h
theorem zp9 (es:List Ent) (s:ByteArray) (n:Nat):(([]:List Snp).insertIdx (qt (es,[]) s) (s,n))=[(s,n)]:=by rw[zls];rfl
theorem ziC (w:World):Calls prog 7 #[] w (Ret fun v w'=>v=.bool true/\Ext w w'):=by
 apply zpH;unfold S7;refine zb (zdF w) ?_;rintro _ w1 ⟨db,b,rfl,F,h1⟩;refine⟨some ⟨b,0,none⟩,rfl,zd (by rfl) ?_⟩;refine zb (ziB h1.sp) ?_;rintro _ w2 ⟨x,y,S2,k,F2,rfl,hP,hG,h2,hF2,o2,hC⟩;refine⟨yw x y,rfl,?_⟩;obtain⟨hfz,hrt⟩:=zpz hP hG;have hnm:yi (B (ByteArray.mk #[115]))=0:=by kernel_rfl
 refine zb (zac (c:=([vw k],[])) (R:=[k]) (H:=[]) (M:=none) h2 (hC.mono fun _ h=>h.cat) ⟨by show 1<=1000;omega,by show 0<=1000;omega,fun e he=>by rw[mem_singleton.1 he];show 2<=1000;omega⟩ (fun _ _ _=>hfz)) ?_;rintro _ w3 (⟨hne,_⟩|⟨_,hth,_⟩|⟨_,_,h16,_⟩|⟨_,_,_,X,Y,S3,n,c1,ls,F3,rfl,hOk,h3,hF3,o3,hC3⟩)
 ·exact absurd hnm hne
 ·exact absurd hth (zlt _ _)
 ·cases h16
 refine⟨(yw X Y,0,()),rfl,?_⟩;rw[zp9]at hC3;have hC3:=hC3.now;have hx3:Ext w w3:=by
  refine Only.ext (Only.ext h1.ext o2 h1.low) o3 (fun j hj=>?_);rcases hF2 j hj with e|e
  ·exact h1.low j e
  ·have:=h1.ext.size;omega
 refine yg (vs:=zD X Y) (by rfl) (yq _ _) (fun r4 w4 hb4 he4 hr4=>?_) (by rfl);refine zf (by rfl) ?_;refine zM (ls:=yB) (yw X Y) hb4 (by rfl) ?_;refine zb (zhZ (hC3.ext he4).cat (by show 1<=1000;omega)) ?_;rintro _ w5 ⟨⟨A,kk,rfl,ho⟩,he5⟩;refine⟨(A,1,kk),rfl,?_⟩;refine zq fun r7 w6 hb6 he6 hr6 hz6=>?_;have hs6:Sli yK w6 (some ⟨r7,0,none⟩) 1 [strs]:=Sli.xD (E:=yK) (xs:=[strs]) (by exact hb6) rfl (by omega);refine zb (zgb (ho.ext he6).sl hs6) ?_;rintro _ w7 ⟨rfl,he7⟩;exact⟨_,rfl,rfl,((hx3.trans he4).trans he5).trans (he6.trans he7)⟩
end V
/- Law 26:SnapsStay. -/
namespace V
open Go Go.Proofs Go.RowKit Crc
variable {w0 w w':World} {b db:Nat} {S S':Spa} {F:Nat->Prop} {es:List Ent} {xs:List ByteArray} {rows:Nat}
theorem St.box {r:Nat} {cs:List Value} {t:TypeId} (h:zT w b db S F) (hb:Blk w' r cs t) (hr:w.heap.size<=r):Safe F w' (fun w=>Blk w r cs t):=fun w2 o=>hb.only o (fun hf=>by have:=h.lt _ hf;omega)
theorem Safe.and {P Q:World->Prop} (h:Safe F w P) (k:Safe F w Q):Safe F w (fun w=>P w/\Q w):=fun w' o=>⟨h w' o,k w' o⟩
theorem zpA {s:ByteArray} (h:yi (B s)=0):B s≠[]:=by
 intro e;have:=ql h;rw[e]at this;simp at this
theorem zns (es:List Ent) (s:ByteArray) (n:Nat):yt (es,[(s,n)]) s=0:=by
 unfold yt yD;show((List.range 1).findIdx _)=0;simp[List.range,List.range.loop,List.findIdx_cons]
end V
/- Law 26:SnapsNone. -/
namespace V
open Go Go.Proofs Go.RowKit Crc
variable {w0 w w':World} {b db:Nat} {S S':Spa} {F:Nat->Prop} {R:List Nat} {es:List Ent} {xs:List ByteArray} {rows:Nat}
theorem ziD (hg:Good S R) (hR:∀ r∈R,yc S.page r=[]) {n:Nat} (hn:zG S.sup.pages S.now n=true):S.now.getD n 0=R.count n:=by
 obtain⟨rk,hr⟩:=hg.well.rank;have parent:∀ m,zG S.sup.pages S.now m=true->m∉R->∃ k,k<S.N/\zG S.sup.pages S.now k=true/\m∈yc S.page k:=by
  intro m hm hmR;obtain⟨a1,a2,a3⟩:=zO.1 hm;have hs:=hg.well.sum m a1 a2;rw[List.count_eq_zero.2 hmR,Nat.zero_add]at hs;apply Classical.byContradiction;intro hno;have:ju S.N S.sup.pages S.page S.now m=0:=by
   unfold ju;rw[zan (g:=fun _=>0) (fun k hk=>by
    unfold xA
    split
    ·rename_i huk
     exact List.count_eq_zero.2 (fun hmem=>hno ⟨k,hk,huk,hmem⟩)
    ·rfl)]
   exact vR S.N
  omega
 have nokids:∀ m,m<S.N->zG S.sup.pages S.now m=true->yc S.page m=[]:=by
  intro m hmN hm;apply Classical.byContradiction;intro hk;obtain⟨q,q1,q2,q3⟩:=zbU (U:=fun k=>zG S.sup.pages S.now k&&!(yc S.page k).isEmpty) rk S.N ⟨m,hmN,by rw[hm,Bool.true_and,Bool.not_eq_true'];simpa using hk⟩;rw[Bool.and_eq_true,Bool.not_eq_true']at q2;have hqk:yc S.page q≠[]:=by simpa using q2.2
  obtain⟨p,p1,p2,p3⟩:=parent q q2.1 (fun hh=>hqk (hR q hh));have h1:=hr p p2 q p3;have h2:=q3 p p1 (by rw[p2,Bool.true_and,Bool.not_eq_true'];cases hz:yc S.page p with
   |nil=>rw[hz]at p3;cases p3
   |cons _ _=>rfl)
  omega
 obtain⟨a1,a2,a3⟩:=zO.1 hn;have hs:=hg.well.sum n a1 a2;have:ju S.N S.sup.pages S.page S.now n=0:=by
  unfold ju;rw[zan (g:=fun _=>0) (fun k hk=>by
   unfold xA
   split
   ·rename_i huk
    rw[nokids k hk huk];rfl
   ·rfl)]
  exact vR S.N
 omega
theorem zcZ (es:List Ent) (s:ByteArray) (n:Nat):vc (es,[(s,n)]) s:=by
 have h0:qt (es,[(s,n)]) s=0:=by
  unfold qt yD;show((List.range 1).findIdx _)=0;simp[List.range,List.range.loop,List.findIdx_cons,zi8]
 refine⟨by rw[h0];show 0<1;omega,?_⟩;rw[h0];rfl
theorem zpB (es:List Ent) {s t:ByteArray} (n:Nat) (h:B s≠B t):¬yt (es,[(s,n)]) t<1:=by
 unfold yt;intro hlt;have hq:yD (fun j=>decide (B (((es,[(s,n)]):Cat).2.getD j zJ).1=B t)) 1<1:=hlt;have h2:=zar hq;have h3:=of_decide_eq_true h2;have h0:yD (fun j=>decide (B (((es,[(s,n)]):Cat).2.getD j zJ).1=B t)) 1=0:=by omega
 rw[h0]at h3;exact h h3
theorem znt {n:Nat} (ha:S.asked n=true) (h0:S.now.getD n 0=0):(S.get n).2=8:=by
 unfold Spa.get;rw[if_neg (by rw[ha];simp),if_pos h0]
theorem zkl (w:World) {A1:Option Addr} {n1 c1:Nat} (hs:Sli yK w A1 n1 xs) (s t:ByteArray):
  Calls prog 5 #[.slice A1 n1 c1,.string s,.string t] w (Ret fun v w'=>v=.bool true/\Ext w w'):=by
 apply zpG;unfold S5;refine zb (ziC w) ?_;rintro _ w1 ⟨rfl,he1⟩;refine⟨_,rfl,zd (by rfl) ?_⟩;refine zb (zdF w1) ?_;rintro _ w2 ⟨db,b,rfl,F,h2⟩;have h2:=St.pre he1 h2;refine⟨some ⟨b,0,none⟩,rfl,zd (by rfl) ?_⟩;refine zb (zkk (c1:=c1) (rows:=1) h2 hs (by omega)) ?_;rintro _ w5 ⟨x,y,ok,rfl,he5,hok⟩;refine⟨(yw x y,ok,()),rfl,?_⟩;refine yg (vs:=zD x y) (by rfl) (yq _ _) (fun r4 w6 hb6 he6 hr6=>?_) (by rfl);have he06:=he5.trans he6;cases ok with
 |false=>exact zf (by rfl) ⟨rfl,he06⟩
 |true=>
 refine zd (by rfl) ?_;obtain⟨S1,F1,es,hy,st5,pl,h8,hcat,hC5⟩:=hok rfl;obtain⟨f1,f2,f3,f4,f5⟩:=pl.facts h8;have hesl:=pl.len;refine zg (fun _=>⟨rfl,he06⟩) (fun _=>?_);refine zg (fun _=>⟨rfl,he06⟩) (fun _=>?_);have st6:=st5.ext' he6;have hC6:=hC5.ext he6;refine zM (ls:=yB) (yw x y) hb6 (by rfl) ?_;have hlt:zbT (es,[]):=by
  refine⟨by show es.length<=1000;omega,by show 0<=1000;omega,fun e he=>?_⟩;have:=((jd.1 hcat).ents e he).2.1;have:=(zaq this).1;omega
 have hCat6:Safe F1 w6 (fun w=>xm w x y (es,[])):=hC6.mono fun _ h=>h.cat;refine zb (zac (c:=(es,[])) (s:=s) (R:=ym es) (H:=[]) (M:=none) st6.sp hCat6 hlt (fun _ _ _=>pl.frz h8 hcat)) ?_;rintro _ w8 (⟨hne,rfl,he8⟩|⟨_,hth,_⟩|⟨_,_,h16,_⟩|⟨hnm,_,_,X,Y,S2,n,c1',ls,F2,rfl,hOk,h8',hF2,o8,hA8⟩)
 ·refine⟨(yw (none,0,0) (none,0,0),yi (B s),()),rfl,?_⟩;refine yg (vs:=zD (none,0,0) (none,0,0)) (by rfl) (yq _ _) (fun r7 w9 hb9 he9 hr9=>?_) (by rfl);refine zf (bne_iff_ne.2 hne) ?_;refine zb (vG w9 s) ?_;rintro _ w10 ⟨rfl,he10⟩;refine⟨_,rfl,?_,((he06.trans he8).trans he9).trans he10⟩;rw[beq_self_eq_true]
 ·exact absurd hth (zlt _ _)
 ·cases h16
 rw[zp9]at hA8;obtain⟨g1,g2,g3,g4⟩:=zlr pl hOk;have st8:St w w8 b db S2 F2:=⟨h8',fun k hk=>by
  rcases hF2 k hk with e|e
  ·exact st6.low k e
  ·exact Nat.le_trans st6.ext.size e,Only.ext st6.ext o8 st6.low⟩
 refine⟨(yw X Y,0,()),rfl,?_⟩;refine yg (vs:=zD X Y) (by rfl) (yq _ _) (fun r7 w9 hb9 he9 hr9=>?_) (by rfl);refine zd (by rfl) ?_;have st9:=st8.ext' he9;have hP9:Safe F2 w9 (fun w=>xm w X Y (es,[(s,n)])/\Blk w r7 (zD X Y) 30):=((hA8.mono fun _ h=>h.cat).ext he9).and (St.box st8.sp hb9 hr9);refine zb (ziZ st9.sp) ?_;rintro _ w10 ⟨rfl,he10⟩;refine⟨_,rfl,?_⟩;have st10:=st9.ext' he10;have hP10:=hP9.ext he10;refine zM (ls:=yB) (yw X Y) hP10.now.2 (by rfl) ?_;have hlt2:zbT (es,[(s,n)]):=⟨hlt.1,by show 1<=1000;omega,hlt.2.2⟩;refine zb (zac (c:=(es,[(s,n)])) (s:=s) (R:=[]) (H:=[]) (M:=none) st10.sp (hP10.mono fun _ h=>h.1) hlt2 (fun _ hh _=>absurd (zcZ es s n) hh)) ?_;rintro _ w11 (⟨hne,_⟩|⟨_,_,rfl,he11⟩|⟨_,hth,_⟩|⟨_,hth,_⟩)
 ·exact absurd hnm hne
 rotate_left
 ·exact absurd (zcZ es s n) hth
 ·exact absurd (zcZ es s n) hth
 refine⟨(yw (none,0,0) (none,0,0),6,()),rfl,?_⟩;refine yg (vs:=zD (none,0,0) (none,0,0)) (by rfl) (yq _ _) (fun r12 w12 hb12 he12 hr12=>?_) (by rfl);have he1012:=he11.trans he12;have st12:=st10.ext' he1012;have hP12:=hP10.ext he1012;refine zM (ls:=yB) (yw X Y) hP12.now.2 (by rfl) ?_;have hfs:yt (es,[(s,n)]) s=0:=zns es s n;have hu:n≠0->zG S2.sup.pages S2.now n=true:=fun h0=>g1.good.well.root n (by unfold nL;rw[if_neg h0];simp)
 by_cases hst:B s=B t
 ·-- the snapshot's own name
  have hst':s=t:=kQ hst;subst hst';have hlv:((es,[(s,n)]):Cat).2.getD (yt (es,[(s,n)]) s) zJ=(s,n):=by rw[hfs];rfl
  refine zb (zdE (c:=(es,[(s,n)])) (s:=s) (R:=ym es) (H:=[]) (M:=none) st12.sp (hP12.mono fun _ h=>h.1) hlt2 (fun _=>?_)) ?_
  ·rw[hlv];have hg:=g1;unfold nL at hg
   by_cases h0:n=0
   ·rw[if_pos h0]at hg;exact .inl ⟨h0,hg⟩
   ·rw[if_neg h0]at hg;exact .inr ⟨h0,hg⟩
  rintro _ w13 (⟨hnf,_⟩|⟨_,X9,Y9,c9,F9,rfl,hG9,_,_,sp9,hF9,o9,hA9⟩)
  ·exact absurd (show yt (es,[(s,n)]) s<1 by rw[hfs];omega) hnf
  refine⟨(yw X9 Y9,0,()),rfl,?_⟩;refine yg (vs:=zD X9 Y9) (by rfl) (yq _ _) (fun r15 w14 hb14 he14 hr14=>?_) (by rfl);have hP13:=(hP12.step o9 hF9).ext he14;have hx14:Ext w w14:=(Only.ext st12.ext o9 st12.low).trans he14;have sp14:=sp9.ext he14;refine zM (ls:=yB) (yw X Y) hP13.now.2 (by rfl) ?_;refine zb (vH hP13.now.1 s) ?_;rintro _ w15 ⟨rfl,he15⟩;have e1:qx (es,[(s,n)]) s=(0,0):=by unfold qx;rw[hfs];rfl
  rw[e1];refine⟨(0,0,()),rfl,?_⟩;refine zM (ls:=yB) (yw X Y) (hP13.ext he15).now.2 (by rfl) ?_
  -- what was dropped can not be got
  obtain⟨f,e,hgot,hne⟩:∃ f e,zcX { S2 with now:=c9 } n f e/\e≠211:=by
   by_cases h0:n=0
   ·exact⟨v8,0,zcX.none h0,by omega⟩
   ·obtain⟨a1,a2,a3⟩:=zO.1 (hu h0);have hnN:=g1.good.well.lt (hu h0);have hdN:=g1.good.dims.n;have hz:c9.getD n 0=0:=by
     apply Classical.byContradiction;intro hnz;have hused:zG ({ S2 with now:=c9 }:Spa).sup.pages ({ S2 with now:=c9 }:Spa).now n=true:=zO.2 ⟨a1,a2,Nat.pos_of_ne_zero hnz⟩;have hc:=ziD hG9.good (fun r hr=>by
      obtain⟨_,_,u3⟩:=pl.root hr
      have hp:=(g4 r hr).2
      show yc S2.page r=[]
      unfold yc at u3 ⊢
      rw[hp]
      exact u3) hused
     rw[List.count_eq_zero.2 (g2 h0).2]at hc;exact hnz hc
    have hask:({ S2 with now:=c9 }:Spa).asked n=true:=(x5 g1.good (hu h0)).1;have h8:=znt (S:={ S2 with now:=c9 }) hask hz;refine⟨v8,_,zcX.bad h0 (by omega) (by rw[h8];omega),by rw[h8];omega⟩
  refine zb (zcc (c:=(es,[(s,n)])) (s:=s) (sp14.ext he15) (hP13.ext he15).now.1 (zpA hnm) (f:=f) (e:=e) (fun _=>by rw[hlv];exact hgot)) ?_;rintro v16 w16 ⟨hcase,he16⟩;obtain⟨A16,e16,rfl,hne16⟩:∃ (A16:SLC) (e16:Int),v16=.tuple #[.slice A16.1 A16.2.1 A16.2.2,.int .i64 e16]/\e16≠211:=by
   rcases hcase with ⟨_,_,X',Y',rfl,_⟩|⟨_,_,rfl⟩|⟨hnf,_⟩
   ·exact⟨X',0,rfl,by omega⟩
   ·exact⟨(none,0,0),e,rfl,hne⟩
   ·exact absurd (show yt (es,[(s,n)]) s<1 by rw[hfs];omega) hnf
  refine⟨(A16,e16,()),rfl,?_⟩;rw[qB];refine zf (by rw[decide_eq_true rfl]) (zf (by rfl) (zf (by rfl) (zf (by rfl) ⟨?_,(hx14.trans he15).trans he16⟩)));dsimp only;rw[bne_iff_ne.2 hne16]
 ·-- another name
  have hnf:=zpB es n hst;refine zb (zdE (c:=(es,[(s,n)])) (s:=t) (R:=[]) (H:=[]) (M:=none) st12.sp (hP12.mono fun _ h=>h.1) hlt2 (fun hh=>absurd hh hnf)) ?_;rintro _ w13 (⟨_,rfl,he13⟩|⟨hf,_⟩);rotate_left
  ·exact absurd hf hnf
  refine⟨(yw (none,0,0) (none,0,0),211,()),rfl,?_⟩;refine yg (vs:=zD (none,0,0) (none,0,0)) (by rfl) (yq _ _) (fun r15 w14 hb14 he14 hr14=>?_) (by rfl);have he1214:=he13.trans he14;have st14:=st12.ext' he1214;have hP14:=hP12.ext he1214;refine zM (ls:=yB) (yw X Y) hP14.now.2 (by rfl) ?_;refine zb (vH hP14.now.1 t) ?_;rintro _ w15 ⟨rfl,he15⟩;have e1:qx (es,[(s,n)]) t=(0,211):=if_neg hnf;rw[e1];refine⟨(0,211,()),rfl,?_⟩;have st15:=st14.ext' he15;have hP15:=hP14.ext he15;refine zM (ls:=yB) (yw X Y) hP15.now.2 (by rfl) ?_;have fin:∀ {w16:World} {A:SLC} {e:Int},Ext w15 w16->((decide (B t=[])==(e==(0:Int)))=true)->
    (za (s.toList==t.toList) (za ((6:Int)==(6:Int)) (za ((211:Int)==(0:Int)) (za ((211:Int)==(0:Int)) ((fun w'=>Value.bool (e !=(211:Int))=.bool true/\Ext w w'))<|(fun w'=>Value.bool false=.bool true/\Ext w w'))<|(fun w'=>Value.bool false=.bool true/\Ext w w'))<|(fun w'=>Value.bool false=.bool true/\Ext w w'))<|
     za ((6:Int)==(6:Int)) (za ((211:Int)==(211:Int)) (za ((211:Int)==(211:Int)) (za ((t.toList==(ByteArray.mk #[]).toList)==(e==(0:Int))) (ze prog 9 [(.pointer (some (aD b)))] (.one (.one (.int .i64))) fun(u20:Int)=>(fun w'=>Value.bool (u20==(S2.zU:Int))=.bool true/\Ext w w'))<|(fun w'=>Value.bool false=.bool true/\Ext w w'))<|(fun w'=>Value.bool false=.bool true/\Ext w w'))<|(fun w'=>Value.bool false=.bool true/\Ext w w'))<|(fun w'=>Value.bool false=.bool true/\Ext w w')) w16:=by
   intro w16 A e he16 hq;rw[qB,zat];refine zd (decide_eq_false hst) (zf (by rfl) (zf (by rfl) (zf (by rfl) (zf hq ?_))));refine zb (ziZ (st15.ext' he16).sp) ?_;rintro _ w17 ⟨rfl,he17⟩;exact⟨_,rfl,by rw[beq_self_eq_true],(st15.ext.trans he16).trans he17⟩
  by_cases ht0:B t=[]
  ·refine zb (zfx (some ⟨b,0,none⟩) hP15.now.1 hlt2 ht0) ?_;rintro _ w16 ⟨⟨X',Y',rfl,_⟩,he16⟩;refine⟨(X',0,()),rfl,?_⟩;exact fin (A:=X') he16 (by rw[decide_eq_true ht0];rfl)
  ·refine zb (zcc (c:=(es,[(s,n)])) (s:=t) st15.sp hP15.now.1 ht0 (f:=v8) (e:=0) (fun hh=>absurd hh hnf)) ?_;rintro _ w16 ⟨⟨hf,_⟩|⟨hf,_⟩|⟨_,rfl⟩,he16⟩
   ·exact absurd hf hnf
   ·exact absurd hf hnf
   refine⟨((none,0,0),211,()),rfl,?_⟩;exact fin (A:=(none,0,0)) he16 (by rw[decide_eq_false ht0];rfl)
end V
end Go.Proofs.YtpagephahcnijaaGreat
