/- Texts of mine, merged (wip/tool/mergep.py): Graph, KSpa7, KCounts4, KSpa8, KSpa9, HR3, KWalk, KWalk2, KWalk3, Good, Good2, Good3, Taken, KCommit, KOpen, Great, Great2, BlobP, Great3, TreeP, KTree1, KTree2, KAtS, KAt2, KMark, KGreat, KTree3, KTree4, KTree5, KBlob1, KTree6, KTree7, KTree8. -/
import Derived.Test.YtplgodmmmppmeaaGreatM4
import Derived.Test.YtplgodmmmppmeaaGreatM3
open Go.IntKind (wrap)
open Go.Proofs.Tryz (prog)
open List (mem_cons_self mem_cons_of_mem mem_cons length_cons map_map mem_append mem_append_left drop_drop mem_range mem_of_getElem? getElem_mem mem_iff_getElem map_cons mem_map append_assoc nodup_cons foldl_cons length_nil append_nil length_map length_set eq_nil_of_length_eq_zero range_succ map_congr_left length_append drop_of_length_le take_of_length_le getD_eq_getElem?_getD drop_eq_getElem_cons mem_singleton not_mem_nil take_succ_eq_append_getElem all_eq_true flatMap_cons length_take length_drop take_add_one length_replicate take_left' drop_left' length_singleton map_append length_range getElem_range flatMap_append)
set_option linter.unusedVariables false
set_option linter.unusedSimpArgs false
namespace Go.Proofs.YtplgodmmmppmeaaGreat
/- Counts of references:plain. -/
namespace V
open Go Go.Proofs Go.RowKit Crc
abbrev PgF:=Nat->Page×Int
def zO (ps c:List Nat) (n:Nat):Bool:=decide (2<=n)&&(!(decide (n∈ps))&&decide (0<c.getD n 0))
theorem zT {ps c:List Nat} {n:Nat}:zO ps c n=true↔2<=n/\n∉ps/\0<c.getD n 0:=by simp[zO]
abbrev yu (pg:PgF) (n:Nat):List Nat:=(pg n).1.2.1
def xR (ps:List Nat) (pg:PgF) (c:List Nat) (x m:Nat):Nat:=if zO ps c m then (yu pg m).count x else 0
def vi (N:Nat) (ps:List Nat) (pg:PgF) (c:List Nat) (x:Nat):Nat:=((List.range N).map (xR ps pg c x)).sum
structure yb (N:Nat) (ps:List Nat) (pg:PgF) (c R:List Nat):Prop where
 len:c.length=N
 two:2<=N
 head:c.getD 0 0=1/\c.getD 1 0=1
 pgs:∀ p∈ps,2<=p/\p<N/\c.getD p 0=1
 root:∀ n∈R,zO ps c n=true
 good:∀ n,zO ps c n=true->(pg n).2=0/\∀ k∈yu pg n,zO ps c k=true
 rank:∃ r:Nat->Nat,∀ n,zO ps c n=true->∀ k∈yu pg n,r k<r n
 sum:∀ n,2<=n->n∉ps->c.getD n 0=R.count n+vi N ps pg c n
theorem zfy {f g:Nat->Nat} {n:Nat}:∀ {N:Nat},(∀ m,m≠n->g m=f m)->((List.range N).map g).sum+(if n<N then f n else 0)=((List.range N).map f).sum+(if n<N then g n else 0)
 |0,_=>by simp
 |N+1,h=>by
  have ih:=zfy (f:=f) (g:=g) (n:=n) (N:=N) h;simp only [range_succ,map_append,map_cons,List.map_nil,List.sum_append,List.sum_cons,List.sum_nil,Nat.add_zero]
  by_cases hn:n<N
  ·rw[if_pos hn,if_pos hn]at ih;rw[if_pos (by omega),if_pos (by omega),h N (by omega)];omega
  ·rw[if_neg hn,if_neg hn]at ih
   by_cases hN:n=N
   ·subst hN;rw[if_pos (by omega),if_pos (by omega)];omega
   ·rw[if_neg (by omega),if_neg (by omega),h N (by omega)];omega
theorem zbD {x:Nat}:∀ {l:List Nat},x∈l->x<=l.sum
 |a::r,h=>by
  rcases mem_cons.1 h with rfl|h
  ·simp
  ·have:=zbD h;simp only [List.sum_cons];omega
theorem znd {f:Nat->Nat} {N:Nat} (h:((List.range N).map f).sum=0):∀ m,m<N->f m=0:=by
 intro m hm;have:f m<=((List.range N).map f).sum:=zbD (mem_map.2 ⟨m,mem_range.2 hm,rfl⟩);omega
theorem xa (l:List Nat) (i k x:Nat):(l.set i x).getD k 0=if i=k/\k<l.length then x else l.getD k 0:=by
 rw[getD_eq_getElem?_getD,getD_eq_getElem?_getD,List.getElem?_set]
 by_cases hik:i=k
 ·subst hik
  by_cases hk:i<l.length
  ·simp[hk]
  ·simp[hk]
 ·rw[if_neg hik,if_neg (fun h=>hik h.1)]
theorem ziw {l:List Nat} {n:Nat} (h:0<l.getD n 0):n<l.length:=by
 by_cases hn:n<l.length
 ·exact hn
 ·rw[getD_eq_getElem?_getD,List.getElem?_eq_none (by omega)]at h;simp at h
section
variable {N:Nat} {ps:List Nat} {pg pg':PgF} {c R:List Nat}
theorem yb.lt (h:yb N ps pg c R) {n:Nat} (hn:zO ps c n=true):n<N:=by
 have:=ziw (zT.1 hn).2.2;rw[h.len]at this;exact this
theorem yb.perm {R':List Nat} (h:yb N ps pg c R) (hp:R.Perm R'):yb N ps pg c R':=
 ⟨h.len,h.two,h.head,h.pgs,fun n hn=>h.root n (hp.mem_iff.2 hn),h.good,h.rank,fun n h1 h2=>by rw[h.sum n h1 h2,hp.count_eq]⟩
theorem yb.none (h:yb N ps pg c R) {n:Nat} (h2:2<=n) (hp:n∉ps) (h0:c.getD n 0=0):n∉R/\∀ m,zO ps c m=true->n∉yu pg m:=by
 have hs:=h.sum n h2 hp;refine⟨fun hn=>?_,fun m hm hn=>?_⟩
 ·have:=(zT.1 (h.root n hn)).2.2;omega
 ·have:=(zT.1 ((h.good m hm).2 n hn)).2.2;omega
theorem yb.put {ks:List Nat} {n:Nat} (h:yb N ps pg c (ks++R)) (h2:2<=n) (hN:n<N) (hp:n∉ps) (h0:c.getD n 0=0) (hn:(pg' n).2=0) (hk:yu pg' n=ks) (ho:∀ m,m≠n->m<N->pg' m=pg m):
  yb N ps pg' (c.set n 1) (n::R):=by
 obtain⟨hnR,hnk⟩:=h.none h2 hp h0;have hl:=h.len;have hu:∀ m,zO ps (c.set n 1) m=(zO ps c m||decide (m=n)):=by
  intro m;unfold zO;rw[xa]
  by_cases hm:m=n
  ·subst hm;simp[hl,hN,h2,hp]
  ·rw[if_neg (fun e=>hm e.1.symm)];simp[hm]
 have hun:zO ps c n=false:=by
  cases hq:zO ps c n with
  |false=>rfl
  |true=>have:=(zT.1 hq).2.2;omega
 have hne:∀ m,zO ps c m=true->m≠n:=fun m hm e=>by rw[e,hun]at hm;cases hm
 obtain⟨r,hr⟩:=h.rank;refine⟨by simpa using hl,h.two,?_,?_,?_,?_,⟨fun m=>if m=n then (ks.map r).sum+1 else r m,?_⟩,?_⟩
 ·rw[xa,xa,if_neg (by omega),if_neg (by omega)];exact h.head
 ·intro p hpp;obtain⟨g1,g2,g3⟩:=h.pgs p hpp;refine⟨g1,g2,?_⟩;rw[xa,if_neg (fun e:n=p/\p<c.length=>hp (e.1▸hpp))];exact g3
 ·intro m hm;rw[hu];rcases mem_cons.1 hm with rfl|hm
  ·simp
  ·rw[h.root m (List.mem_append_right _ hm)];rfl
 ·intro m hm;rw[hu]at hm
  by_cases hmn:m=n
  ·subst hmn;refine⟨hn,fun k hk'=>?_⟩;rw[hk]at hk';rw[hu,h.root k (mem_append_left _ hk')];rfl
  ·have hm':zO ps c m=true:=by simpa [hmn] using hm
   rw[yu,ho m hmn (h.lt hm')];refine⟨(h.good m hm').1,fun k hk'=>?_⟩;rw[hu,(h.good m hm').2 k hk'];rfl
 ·intro m hm k hk';rw[hu]at hm;dsimp only
  by_cases hmn:m=n
  ·subst hmn;rw[hk]at hk';rw[if_pos rfl,if_neg (hne k (h.root k (mem_append_left _ hk')))];have:r k<=(ks.map r).sum:=zbD (mem_map.2 ⟨k,hk',rfl⟩);omega
  ·have hm':zO ps c m=true:=by simpa [hmn] using hm
   rw[yu,ho m hmn (h.lt hm')]at hk';rw[if_neg hmn,if_neg (hne k ((h.good m hm').2 k hk'))];exact hr m hm' k hk'
 ·intro x h2x hpx;have hg:∀ m,m<N->m≠n->xR ps pg' (c.set n 1) x m=xR ps pg c x m:=by
   intro m hm hmn;unfold xR;rw[hu,yu,yu,ho m hmn hm];simp[hmn]
  have hone:=zfy (f:=xR ps pg c x) (g:=fun m=>if m=n then xR ps pg' (c.set n 1) x n else xR ps pg c x m) (n:=n) (N:=N) (fun m hm=>if_neg hm);rw[if_pos hN,if_pos hN]at hone;have e1:((List.range N).map fun m=>if m=n then xR ps pg' (c.set n 1) x n else xR ps pg c x m)=(List.range N).map (xR ps pg' (c.set n 1) x):=by
   apply map_congr_left;intro m hm;split
   ·rename_i e;rw[e]
   ·rename_i e;exact(hg m (mem_range.1 hm) e).symm
  rw[e1]at hone;have e2:xR ps pg c x n=0:=by unfold xR;rw[hun];rfl
  have e3:xR ps pg' (c.set n 1) x n=ks.count x:=by unfold xR;rw[hu,hk];simp
  simp only [if_true,e2,e3,Nat.add_zero]at hone;have hs:=h.sum x h2x hpx;rw[List.count_append]at hs;show _=_+((List.range N).map (xR ps pg' (c.set n 1) x)).sum;rw[hone];unfold vi at hs;rw[xa,List.count_cons]
  by_cases hx:x=n
  ·subst hx;rw[if_pos ⟨rfl,by omega⟩];simp only [beq_self_eq_true,if_true];omega
  ·rw[if_neg (fun e=>hx e.1.symm),if_neg (by simpa using fun e=>hx e.symm)];omega
theorem yb.setPos {n v:Nat} {R':List Nat} (h:yb N ps pg c R) (hn:zO ps c n=true) (hv:0<v) (hR:∀ m∈R',zO ps c m=true) (hc:∀ x,x≠n->R'.count x=R.count x) (hv':v+R.count n=c.getD n 0+R'.count n):
  yb N ps pg (c.set n v) R':=by
 obtain⟨h2,hp,h0⟩:=zT.1 hn;have hl:=h.len;have hN:=h.lt hn;have hu:∀ m,zO ps (c.set n v) m=zO ps c m:=by
  intro m;unfold zO;rw[xa]
  by_cases hm:m=n
  ·subst hm;rw[if_pos ⟨rfl,by omega⟩];rw[decide_eq_true hv,decide_eq_true h0]
  ·rw[if_neg (fun e=>hm e.1.symm)]
 have hs:∀ x,vi N ps pg (c.set n v) x=vi N ps pg c x:=by
  intro x;unfold vi;congr 1;apply map_congr_left;intro m _;unfold xR;rw[hu]
 refine⟨by simpa using hl,h.two,?_,?_,fun m hm=>by rw[hu];exact hR m hm,fun m hm=>?_,?_,?_⟩
 ·rw[xa,xa,if_neg (by omega),if_neg (by omega)];exact h.head
 ·intro p hpp;obtain⟨g1,g2,g3⟩:=h.pgs p hpp;refine⟨g1,g2,?_⟩;rw[xa,if_neg (fun e:n=p/\p<c.length=>hp (e.1▸hpp))];exact g3
 ·rw[hu]at hm;exact⟨(h.good m hm).1,fun k hk=>by rw[hu];exact(h.good m hm).2 k hk⟩
 ·obtain⟨r,hr⟩:=h.rank;exact⟨r,fun m hm=>hr m (by rw[hu]at hm;exact hm)⟩
 ·intro x h2x hpx;have:=h.sum x h2x hpx;rw[hs,xa]
  by_cases hx:x=n
  ·subst hx;rw[if_pos ⟨rfl,by omega⟩];omega
  ·rw[if_neg (fun e=>hx e.1.symm),hc x hx];omega
theorem yb.share {n:Nat} (h:yb N ps pg c R) (hn:zO ps c n=true):yb N ps pg (c.set n (c.getD n 0+1)) (n::R):=
 h.setPos hn (by omega) (fun m hm=>by rcases mem_cons.1 hm with rfl|hm;exact hn;exact h.root m hm) (fun x hx=>by rw[List.count_cons,if_neg (by simpa using fun e=>hx e.symm)];rfl) (by rw[List.count_cons_self];omega)
theorem yb.dec {n:Nat} (h:yb N ps pg c (n::R)) (h1:c.getD n 0≠1):yb N ps pg (c.set n (c.getD n 0-1)) R:=by
 have hn:=h.root n mem_cons_self;have:=(zT.1 hn).2.2;exact h.setPos hn (by omega) (fun m hm=>h.root m (mem_cons_of_mem _ hm)) (fun x hx=>by rw[List.count_cons,if_neg (by simpa using fun e=>hx e.symm)];rfl) (by rw[List.count_cons_self];omega)
theorem yb.last {n:Nat} (h:yb N ps pg c (n::R)) (h1:c.getD n 0=1):yb N ps pg (c.set n 0) (yu pg n++R):=by
 have hn:=h.root n mem_cons_self;obtain⟨h2,hp,h0⟩:=zT.1 hn;have hl:=h.len;have hN:=h.lt hn;have hsn:=h.sum n h2 hp;rw[h1,List.count_cons_self]at hsn;have hcR:R.count n=0:=by omega
 have hz:∀ m,m<N->xR ps pg c n m=0:=znd (by unfold vi at hsn;omega);have hnR:n∉R:=List.count_eq_zero.1 hcR;have hnk:∀ m,zO ps c m=true->n∉yu pg m:=by
  intro m hm;have:=hz m (h.lt hm);unfold xR at this;rw[if_pos hm]at this;exact List.count_eq_zero.1 this
 have hu:∀ m,zO ps (c.set n 0) m=(zO ps c m&&!(decide (m=n))):=by
  intro m;unfold zO;rw[xa]
  by_cases hm:m=n
  ·subst hm;rw[if_pos ⟨rfl,by omega⟩];simp
  ·rw[if_neg (fun e=>hm e.1.symm)];simp[hm]
 have hu2:∀ {m},zO ps c m=true->m≠n->zO ps (c.set n 0) m=true:=fun hm hmn=>by rw[hu,hm];simp[hmn]
 refine⟨by simpa using hl,h.two,?_,?_,?_,fun m hm=>?_,?_,?_⟩
 ·rw[xa,xa,if_neg (by omega),if_neg (by omega)];exact h.head
 ·intro p hpp;obtain⟨g1,g2,g3⟩:=h.pgs p hpp;refine⟨g1,g2,?_⟩;rw[xa,if_neg (fun e:n=p/\p<c.length=>hp (e.1▸hpp))];exact g3
 ·intro m hm;rcases mem_append.1 hm with hm|hm
  ·exact hu2 ((h.good n hn).2 m hm) (fun e=>hnk n hn (e▸hm))
  ·exact hu2 (h.root m (mem_cons_of_mem _ hm)) (fun e=>hnR (e▸hm))
 ·rw[hu]at hm;have hm':zO ps c m=true:=by simp at hm;exact hm.1
  exact⟨(h.good m hm').1,fun k hk=>hu2 ((h.good m hm').2 k hk) (fun e=>hnk m hm' (e▸hk))⟩
 ·obtain⟨r,hr⟩:=h.rank;exact⟨r,fun m hm=>hr m (by rw[hu]at hm;simp at hm;exact hm.1)⟩
 ·intro x h2x hpx;have hone:=zfy (f:=xR ps pg c x) (g:=xR ps pg (c.set n 0) x) (n:=n) (N:=N) (fun m hm=>by unfold xR;rw[hu];simp[hm]);rw[if_pos hN,if_pos hN]at hone;have e2:xR ps pg c x n=(yu pg n).count x:=by unfold xR;rw[if_pos hn]
  have e3:xR ps pg (c.set n 0) x n=0:=by unfold xR;rw[hu];simp
  rw[e2,e3]at hone;have hs:=h.sum x h2x hpx;unfold vi at hs ⊢;rw[xa,List.count_append]
  by_cases hx:x=n
  ·subst hx;rw[if_pos ⟨rfl,by omega⟩];have:(yu pg x).count x=0:=List.count_eq_zero.2 (hnk x hn);rw[List.count_cons_self]at hs;omega
  ·rw[if_neg (fun e=>hx e.1.symm)];rw[List.count_cons,if_neg (by simpa using fun e=>hx e.symm)]at hs;omega
theorem yb.zaf (h:yb N ps pg c R) (ho:∀ m,zO ps c m=true->pg' m=pg m):yb N ps pg' c R:=by
 have hs:∀ x,vi N ps pg' c x=vi N ps pg c x:=by
  intro x;unfold vi;congr 1;apply map_congr_left;intro m _;unfold xR
  by_cases hm:zO ps c m=true
  ·rw[if_pos hm,if_pos hm,yu,ho m hm]
  ·rw[if_neg hm,if_neg hm]
 refine⟨h.len,h.two,h.head,h.pgs,h.root,fun n hn=>?_,?_,fun n h2 hp=>by rw[hs];exact h.sum n h2 hp⟩
 ·rw[yu,ho n hn];exact h.good n hn
 ·obtain⟨r,hr⟩:=h.rank;exact⟨r,fun n hn k hk=>hr n hn k (by rw[yu,ho n hn]at hk;exact hk)⟩
end
inductive Drp (ask:Nat->Bool) (pg:PgF):List Nat->List Nat->List Nat->Int->Prop
 |nil (c:List Nat):Drp ask pg c [] c 0
 |bad {c st:List Nat} {n:Nat}:c.getD n 0≠1->atE c n≠0->Drp ask pg c (n::st) c (atE c n)
 |dec {c c' st:List Nat} {n:Nat} {e:Int}:c.getD n 0≠1->atE c n=0->Drp ask pg (xv c n) st c' e->Drp ask pg c (n::st) c' e
 |noask {c st:List Nat} {n:Nat}:c.getD n 0=1->ask n=false->Drp ask pg c (n::st) c 2
 |err {c st:List Nat} {n:Nat} {e:Int}:c.getD n 0=1->ask n=true->(pg n).2=e->e≠0->Drp ask pg c (n::st) c e
 |last {c c' st:List Nat} {n:Nat} {e:Int}:c.getD n 0=1->ask n=true->(pg n).2=0->Drp ask pg (xv c n) (yu pg n++st) c' e->Drp ask pg c (n::st) c' e
theorem zfz (l:List Nat):∀ (i x:Nat),i<l.length->(l.set i x).sum+l.getD i 0=l.sum+x:=by
 induction l with
 |nil=>intro i x h;simp at h
 |cons a r ih=>
  intro i x h;cases i with
  |zero=>simp[List.sum_cons];omega
  |succ i=>
   have:=ih i x (by simpa using h);simp only [List.set_cons_succ,List.sum_cons,List.getD_cons_succ];omega
theorem zbE {N:Nat} {ps:List Nat} {pg:PgF} {c R:List Nat} (h:yb N ps pg c R) {n:Nat} (hn:zO ps c n=true):atE c n=0:=by
 obtain⟨h2,hp,h0⟩:=zT.1 hn;have:=h.lt hn;have:=h.len;unfold atE;rw[if_neg (by omega),if_neg (by omega)]
theorem zcF {N:Nat} {ps:List Nat} {pg:PgF} {c R:List Nat} (h:yb N ps pg c R) {n:Nat} (hn:zO ps c n=true):xv c n=c.set n (c.getD n 0-1):=by
 unfold xv;rw[if_pos (zbE h hn)]
theorem yb.drop {N:Nat} {ps:List Nat} {pg:PgF} {ask:Nat->Bool} (hask:∀ n,2<=n->n<N->n∉ps->ask n=true):∀ (z:Nat) {c R:List Nat} (st:List Nat),c.sum<=z->yb N ps pg c (st++R)->∃ c',Drp ask pg c st c' 0/\yb N ps pg c' R/\c'.length=c.length/\∀ n,c'.getD n 0<=c.getD n 0:=by
 intro z
 induction z with
 |zero=>
  intro c R st hz h;have h0:=h.head.1;have hl:=h.len;have h2:=h.two;have:=zfz c 0 0 (by omega);omega
 |succ z ih=>
  intro c R st hz h;cases st with
  |nil=>exact⟨c,.nil c,h,rfl,fun _=>Nat.le_refl _⟩
  |cons n st=>
   have hn:=h.root n (by simp);obtain⟨h2,hp,h0⟩:=zT.1 hn;have hN:=h.lt hn;have hl:=h.len;have hsum:=zfz c n (c.getD n 0-1) (by omega);have hle:∀ v,v<=c.getD n 0->∀ k,(c.set n v).getD k 0<=c.getD k 0:=by
    intro v hv k;rw[xa];split
    ·rename_i e;rw[<- e.1];exact hv
    ·exact Nat.le_refl _
   by_cases h1:c.getD n 0=1
   ·have hw:yb N ps pg (c.set n 0) (yu pg n++st++R):=by
     rw[append_assoc];exact yb.last (R:=st++R) h h1
    have es:xv c n=c.set n 0:=by rw[zcF h hn,h1]
    rw[h1]at hsum;obtain⟨c',g1,g2,g3,g4⟩:=ih _ (by simp only [Nat.sub_self]at hsum;omega) hw;exact⟨c',.last h1 (hask n h2 hN hp) (h.good n hn).1 (by rw[es];exact g1),g2,by rw[g3];simp,fun k=>Nat.le_trans (g4 k) (hle 0 (by omega) k)⟩
   ·have hw:yb N ps pg (c.set n (c.getD n 0-1)) (st++R):=yb.dec h h1;obtain⟨c',g1,g2,g3,g4⟩:=ih _ (by omega) hw;exact⟨c',.dec h1 (zbE h hn) (by rw[zcF h hn];exact g1),g2,by rw[g3];simp,fun k=>Nat.le_trans (g4 k) (hle _ (by omega) k)⟩
end V
/- Contracts of the package space:Share,Count,Drop. -/
namespace V
open Go Go.Proofs Go.RowKit Crc
variable {w w':World} {b db:Nat} {S:Spa} {F Fd:Nat->Prop} {x:SLC} {hb hr nb nr:Nat} {m:MkL}
theorem SpM.nrF (h:SpM w b db S F Fd x hb hr nb nr m):F nr:=(h.own nr).2 (.inr (by simp[yT]))
theorem SpM.zhp (h:SpM w b db S F Fd x hb hr nb nr m) {w0:World} (hg:w0.grownBy w' (some nr)):Only F w0 w':=Only.z8 hg (fun j hj=>.inl (by injection hj with hj;subst hj;exact h.nrF))
def Spa.share (S:Spa) (n:Nat):Spa×Int:=if S.asked n=false then (S,2) else ({ S with now:=zad S.now n },zac S.now n)
theorem zix (h:SpM w b db S F Fd x hb hr nb nr m) {n:Nat} (hn:n<4294967296):
  Calls prog 90 #[.pointer (some ⟨b,0,none⟩),.int .u32 (n:Int)] w (Ret fun v w'=>v=.int .i64 (S.share n).2/\SpM w' b db (S.share n).1 F Fd x hb hr nb nr m/\Only F w w'):=by
 apply zo6;unfold S90 Spa.share;refine zd (by rfl) (zb (vS h hn) ?_);rintro _ w1 ⟨rfl,hw1⟩;refine⟨_,rfl,?_⟩;rw[hw1];refine zg (fun hq=>?_) (fun hq=>?_)
 ·have hq:S.asked n=false:=by simpa using hq
  rw[if_pos hq];exact⟨rfl,h,Only.refl F w⟩
 have hq:S.asked n=true:=by simpa using hq
 rw[if_neg (by rw[hq];simp)];obtain⟨t,hbx⟩:=h.box;refine zp (jb (l:=.ptr) 8 (some ⟨nb,0,none⟩) hbx (by rfl) (by rfl) ?_);obtain⟨q,c⟩:=h.nowC;refine zb (zkV c n hn) ?_;rintro _ w2 ⟨rfl,hc,hg⟩;exact⟨_,rfl,rfl,h.kE hg hc (by unfold zad;split<;>simp),h.zhp hg⟩
theorem zhq {k:IntKind} {w:World} {e:TypeId} {B:Nat} {A:Option Addr} {n c:Nat} {xs:List Nat} {i:Int} {v:Nat} {K:WP} (h:Owni (zw k) e w B A n c xs) (h0:0<=i) (h1:i<(n:Int))
  (hK:∀ w',Owni (zw k) e w' B A n c (xs.set i.toNat v)->w.grownBy w' (orow A)->K w'):
  (zc (0<=i/\i<((n:Nat):Int))<|zh A fun p=>stW (p.add (Int.toNat i*1)) (.int k (v:Int)) K) w:=by
 refine ziX (e:=e) (B:=B) (c:=c) (vs:=(zw k).flat xs) h h0 h1 fun w' ho hg=>hK w' ?_ (by rw[xC]at hg;exact hg);rw[zm8]at ho;exact ho
theorem zk1 {w:World} {B:Nat} {A:Option Addr} {n c:Nat} {xs:List Nat} (h:Owni (zw .u32) 41 w B A n c xs) (hn:n<=1000000):
  Calls prog 89 #[.slice A n c] w (Ret fun v w'=>v=.tuple #[]/\Owni (zw .u32) 41 w' B A n c xs.reverse/\w.grownBy w' (orow A)):=by
 apply zo5;unfold S89;have hl:=h.len;rw[wrap_i64 (by omega) (by omega)];refine zu (fun y w'=>∃ (i:Nat) (ys:List Nat),2*i<=n+1/\y=((i:Int),(n:Int)-1-i,())/\ys.length=n/\(∀ k,k<n->ys.getD k 0=if k<i\/n<=k+i then xs.getD (n-1-k) 0 else xs.getD k 0)/\Owni (zw .u32) 41 w' B A n c ys/\w.grownBy w' (orow A)) (fun y=>(n-y.1).toNat)
  ⟨0,xs,by omega,by simp,hl,fun k hk=>by rw[if_neg (by omega)],h,xL _ _⟩ ?_
 rintro _ w1 ⟨i,ys,hi,rfl,hyl,hys,ho,hg⟩;dsimp only
 by_cases hlt:(i:Int)<(n:Int)-1-i
 ·refine zf (decide_eq_true hlt) ?_;refine zK fun w2 he2 _ _=>?_;have ho:=ho.ext he2;have hg:=xn hg (xZ he2 none) (fun j hj=>by cases hj);refine zY ho.sl (by omega) (by omega) ?_;refine zY ho.sl (by omega) (by omega) ?_;have ej:((n:Int)-1-i).toNat=n-1-i:=by omega
  refine zhq ho (by omega) (by omega) ?_;intro w3 ho3 hg3;refine zhq ho3 (by omega) (by omega) ?_;intro w4 ho4 hg4;rw[ej,Int.toNat_natCast]at ho4;refine⟨⟨i+1,(ys.set i (ys.getD (n-1-i) 0)).set (n-1-i) (ys.getD i 0),by omega,?_,by simp[hyl],fun k hk=>?_,ho4,xn (xn hg hg3 (fun j hj=>.inl hj)) hg4 (fun j hj=>.inl hj)⟩,?_⟩
  ·rw[show wrap .i64 ((i:Int)+1)=((i+1:Nat):Int) from by rw[wrap_i64 (by omega) (by omega)];rfl,show wrap .i64 ((n:Int)-1-i-1)=(n:Int)-1-((i+1:Nat):Int) from by rw[wrap_i64 (by omega) (by omega)];omega]
  ·rw[yp,yp];simp only [length_set,hyl];have h1:=hys i (by omega);have h2:=hys (n-1-i) (by omega);rw[if_neg (by omega)]at h1 h2
   by_cases e1:n-1-i=k
   ·subst e1;rw[if_pos ⟨rfl,hk⟩,if_pos (by omega),h1];congr 1;omega
   ·rw[if_neg (fun e=>e1 e.1)]
    by_cases e2:i=k
    ·subst e2;rw[if_pos ⟨rfl,hk⟩,if_pos (by omega),h2]
    ·rw[if_neg (fun e=>e2 e.1),hys k hk]
     by_cases e3:k<i\/n<=k+i
     ·rw[if_pos e3,if_pos (by omega)]
     ·rw[if_neg e3,if_neg (by omega)]
  ·rw[wrap_i64 (by omega) (by omega)];omega
 ·refine zd (decide_eq_false hlt) ⟨rfl,?_,hg⟩;have e:ys=xs.reverse:=by
   refine qM (by simp[hyl,hl]) (fun k=>?_)
   by_cases hk:k<n
   ·rw[hys k hk,getD_eq_getElem?_getD (l:=xs.reverse),List.getElem?_reverse (by omega),hl,<- getD_eq_getElem?_getD];split
    ·rfl
    ·congr 1;omega
   ·rw[getD_eq_getElem?_getD,getD_eq_getElem?_getD,List.getElem?_eq_none (by omega),List.getElem?_eq_none (by simp;omega)]
  rw[<- e];exact ho
theorem Owni.trunc {w:World} {e:TypeId} {B:Nat} {A:Option Addr} {n c:Nat} {ys:List Nat} {k:Nat} (h:Owni (zw .u32) e w B A n c (ys++[k])):zn A 0 c 1=A/\n=ys.length+1/\Owni (zw .u32) e w B A ys.length c ys:=by
 have hl:=h.len;rw[length_append,length_singleton]at hl;have hle:=h.le;obtain⟨h1,h2⟩:=h;rcases h2 with ⟨_,hn⟩|⟨g,cap,cur,hv,hB,hg,hnc,hcm,hcs,ht⟩
 ·omega
 ·injection hv with hA hn hc
  subst hA hc;refine⟨?_,hl.symm,⟨by rw[(zw .u32).xm],.inr ⟨g,c,cur,rfl,hB,hg,by omega,hcm,hcs,?_⟩⟩⟩
  ·unfold zn;split
   ·rename_i h0;omega
   ·simp[Addr.add]
  ·have e1:cur.toList.take (ys.length*(zw .u32).k)=((zw .u32).flat (ys++[k])).take (ys.length*(zw .u32).k):=by
    rw[<- ht,List.take_take,Nat.min_eq_left (Nat.mul_le_mul_right _ (by omega))]
   have e2:=(zw .u32).xm ys;rw[e1,(zw .u32).zdm,List.take_append_of_le_length (by omega),take_of_length_le (by omega)]
theorem Drp.inv {ask:Nat->Bool} {pg:PgF} {c st c':List Nat} {n:Nat} {e:Int} (h:Drp ask pg c (n::st) c' e):
  (c.getD n 0≠1/\atE c n≠0/\c'=c/\e=atE c n)\/(c.getD n 0≠1/\atE c n=0/\Drp ask pg (xv c n) st c' e)\/(c.getD n 0=1/\ask n=false/\c'=c/\e=2)\/
  (c.getD n 0=1/\ask n=true/\(pg n).2=e/\e≠0/\c'=c)\/(c.getD n 0=1/\ask n=true/\(pg n).2=0/\Drp ask pg (xv c n) (yu pg n++st) c' e):=by
 cases h with
 |bad h1 h2=>exact .inl ⟨h1,h2,rfl,rfl⟩
 |dec h1 h2 h3=>exact .inr (.inl ⟨h1,h2,h3⟩)
 |noask h1 h2=>exact .inr (.inr (.inl ⟨h1,h2,rfl,rfl⟩))
 |err h1 h2 h3 h4=>exact .inr (.inr (.inr (.inl ⟨h1,h2,h3,h4,rfl⟩)))
 |last h1 h2 h3 h4=>exact .inr (.inr (.inr (.inr ⟨h1,h2,h3,h4⟩)))
theorem zeV {N:Nat} {bs:List UInt8}:(qd N bs).1.2.1.length<=1024/\∀ k∈(qd N bs).1.2.1,2<=k/\k<N:=by
 unfold qd;split
 ·rename_i hc;obtain⟨h0,h1,h2,h3,h4⟩:=hc;refine⟨?_,h4⟩;dsimp only;have hdl:(B (yk bs).1.2.2).length<=4096:=by
   have:=zfo (size:=(bs.length:Int)) (f:=xu bs) (by rw[(uE h0).2]);rw[(uE h0).1];omega
  unfold kD;rw[zft];omega
 ·simp[xg]
theorem zhr {c:List Nat} {n:Nat} (h:atE c n=0):(xv c n).sum+1=c.sum:=by
 rcases zcx c n with ⟨_,h2,h3,h4⟩|h2|h2
 ·unfold xv;rw[if_pos h];have:=zfz c n (c.getD n 0-1) h3;omega
 ·omega
 ·omega
theorem zjX {α:Type} (l:List α):l=[]\/∃ (r:List α) (a:α),l=r++[a]:=by
 rcases List.eq_nil_or_concat l with h|⟨r,a,h⟩
 ·exact .inl h
 ·exact .inr ⟨r,a,by rw[h,List.concat_eq_append]⟩
theorem zp5 {l:List Nat} {B:Nat} (h:∀ n∈l,n<=B):l.sum<=l.length*B:=by
 induction l with
 |nil=>simp
 |cons a r ih=>
  have h1:=ih (fun n hn=>h n (mem_cons_of_mem _ hn));have h2:=h a mem_cons_self;rw[List.sum_cons,length_cons,Nat.add_mul];omega
theorem zeW (h:SpM w b db S F Fd x hb hr nb nr m) {n:Nat} (hn:n<4294967296) {c':List Nat} {e:Int} (hD:S.asked n=true->Drp S.asked S.page S.now [n] c' e) (hno:S.asked n=false->c'=S.now/\e=2):
  Calls prog 28 #[.pointer (some ⟨b,0,none⟩),.int .u32 (n:Int)] w (Ret fun v w'=>v=.int .i64 e/\SpM w' b db { S with now:=c' } F Fd x hb hr nb nr m/\Only F w w'):=by
 have hFlt:=h.lt;have hdim:=h.dims;have hN:=hdim.n;have hnrlt:=hFlt nr h.nrF;have hsum0:S.now.sum<=4096*65535:=by
  obtain⟨q,hc⟩:=h.nowC;have:=zp5 (l:=S.now) (B:=65535) (fun a ha=>by have:=hc.fits a ha;omega);have hl:=hc.len;exact Nat.le_trans this (Nat.mul_le_mul_right _ hl.2)
 apply zoh;unfold S28;refine zd (by rfl) (zb (vS h hn) ?_);rintro _ w1 ⟨rfl,hw1⟩;refine⟨_,rfl,?_⟩;rw[hw1];refine zg (fun hq=>?_) (fun hq=>?_)
 ·have hq:S.asked n=false:=by simpa using hq
  obtain⟨rfl,rfl⟩:=hno hq;exact⟨rfl,h,Only.refl F w⟩
 have hq:S.asked n=true:=by simpa using hq
 have hD:=hD hq;refine zs fun r2 w2 hb2 he2 hr2 hz2=>?_;have ho2:Owni (zw .u32) 41 w2 r2 (some ⟨r2,0,none⟩) 1 1 [n]:=kC (by exact hb2) rfl (by omega) (Nat.le_refl _);refine zjb (fun y k w'=>∃ (cc xs:List Nat) (A:Option Addr) (cp:Nat),y=((A,xs.length,cp),())/\k=cc.sum/\Drp S.asked S.page cc xs.reverse c' e/\SpM w' b db { S with now:=cc } F Fd x hb hr nb nr m/\Owni (zw .u32) 41 w' r2 A xs.length cp xs/\(∀ a∈xs,a<4294967296)/\Only F w w'/\xs.length+1100*cc.sum<=1+1100*S.now.sum)
  S.now.sum ⟨S.now,[n],_,1,rfl,rfl,hD,h.ext he2,ho2,by simpa using hn,Only.zG he2,by simp⟩ ?_
 rintro _ k w3 J ⟨cc,xs,A,cp,rfl,rfl,hD,hS,ho,h32,hO,hbound⟩ hJ;dsimp only;rcases zjX xs with rfl|⟨ys,a,rfl⟩
 ·refine zd (decide_eq_false (by simp)) ?_;rw[List.reverse_nil]at hD;cases hD;exact⟨rfl,hS,hO⟩
 have hle:=ho.le;obtain⟨ecut,hyl,hoy⟩:=ho.trunc;rw[ecut];rw[hyl]at ho hle ⊢;rw[hyl]at hbound;refine zf (decide_eq_true (by omega)) ?_;have ew:wrap .i64 (((ys.length+1:Nat):Int)-1)=(ys.length:Int):=by rw[wrap_i64 (by omega) (by omega)];omega
 rw[ew];refine zY ho.sl (by omega) (by omega) ?_;rw[Int.toNat_natCast];have ea:(ys++[a]).getD ys.length 0=a:=by simp
 rw[ea];have ha:=h32 a (by simp);refine zE ⟨by omega,by omega⟩ ?_;obtain⟨t,hbx⟩:=hS.box;refine zp (jb (l:=.ptr) 8 (some ⟨nb,0,none⟩) hbx (by rfl) (by rfl) ?_);refine zb (vg hS a ha) ?_;rintro _ w4 ⟨rfl,hw4⟩;refine⟨_,rfl,?_⟩;rw[hw4];dsimp only;rw[List.reverse_append,List.reverse_singleton,List.singleton_append]at hD;have hr2F:∀ j,orow A=some j->w.heap.size<=j:=fun j hj=>by have:=ho.row j hj;omega
 have hnrA:∀ j,some nr=some j->orow A≠some j:=fun j hj e=>by injection hj with hj;subst hj;have:=hr2F _ e;omega
 have hO':∀ {w5:World},w3.grownBy w5 (some nr)->Only F w w5:=fun hg=>Only.trans hO (h.zhp hg) (fun j hj=>.inl hj);rcases hD.inv with ⟨d1,d2,d3,d4⟩|⟨d1,d2,d3⟩|⟨d1,d2,d3,d4⟩|⟨d1,d2,d3,d4,d5⟩|⟨d1,d2,d3,d4⟩
 ·refine zf (bne_iff_ne.2 (by omega)) ?_;refine zp (jb (l:=.ptr) 8 (some ⟨nb,0,none⟩) hbx (by rfl) (by rfl) ?_);refine zb (zc7 hS ha) ?_;rintro _ w5 ⟨rfl,hS5,hg5⟩;refine⟨((zby cc a:Int),atE cc a,()),rfl,zf (bne_iff_ne.2 d2) ?_⟩;have es:xv cc a=cc:=by unfold xv;rw[if_neg d2]
  dsimp only at hS5;rw[es]at hS5;subst d3 d4;exact⟨rfl,hS5,hO' hg5⟩
 ·refine zf (bne_iff_ne.2 (by omega)) ?_;refine zp (jb (l:=.ptr) 8 (some ⟨nb,0,none⟩) hbx (by rfl) (by rfl) ?_);refine zb (zc7 hS ha) ?_;rintro _ w5 ⟨rfl,hS5,hg5⟩;refine⟨((zby cc a:Int),atE cc a,()),rfl,?_⟩;dsimp only;rw[d2];refine zd (by rfl) ?_;have hsum:=zhr d2;exact hJ _ _ _ (by omega:(xv cc a).sum<cc.sum) ⟨xv cc a,ys,A,cp,rfl,rfl,d3,hS5,hoy.grown hg5 hnrA,fun k hk=>h32 k (mem_append_left _ hk),hO' hg5,by omega⟩
 all_goals
  refine zd (bne_eq_false_iff_eq.2 (by omega)) ?_;refine zb (uu hS ha) ?_;rintro _ w5 ⟨y,rfl,hok,he5⟩;refine⟨(pgT (Spa.get { S with now:=cc } a).1 y,(Spa.get { S with now:=cc } a).2,()),rfl,?_⟩
 ·have eg:Spa.get { S with now:=cc } a=(xg,2):=if_pos d2;rw[eg]at hok ⊢;refine yt (vs:=pgV xg y) (by rfl) (kq _ _) (fun r6 w6 hb6 he6 hr6=>?_) (by rfl);refine zf (by rfl) ?_;subst d3 d4;exact⟨rfl,(hS.ext he5).ext he6,Only.trans (Only.trans hO (Only.zG (F:=F) he5) (fun j hj=>.inl hj)) (Only.zG (F:=F) he6) (fun j hj=>.inl hj)⟩
 ·have eg:Spa.get { S with now:=cc } a=S.page a:=by
   unfold Spa.get;rw[if_neg (by rw[show Spa.asked { S with now:=cc } a=S.asked a from rfl,d2];simp),if_neg (by dsimp only;omega)];rfl
  rw[eg]at hok ⊢;refine yt (vs:=pgV (S.page a).1 y) (by rfl) (kq _ _) (fun r6 w6 hb6 he6 hr6=>?_) (by rfl);refine zf (bne_iff_ne.2 (by dsimp only;rw[d3];exact d4)) ?_;subst d5;refine⟨by rw[<- d3],(hS.ext he5).ext he6,Only.trans (Only.trans hO (Only.zG (F:=F) he5) (fun j hj=>.inl hj)) (Only.zG (F:=F) he6) (fun j hj=>.inl hj)⟩
 ·have eg:Spa.get { S with now:=cc } a=S.page a:=by
   unfold Spa.get;rw[if_neg (by rw[show Spa.asked { S with now:=cc } a=S.asked a from rfl,d2];simp),if_neg (by dsimp only;omega)];rfl
  rw[eg]at hok ⊢;refine yt (vs:=pgV (S.page a).1 y) (by rfl) (kq _ _) (fun r6 w6 hb6 he6 hr6=>?_) (by rfl);dsimp only;rw[d3];refine zd (by rfl) ?_;have he56:=he5.trans he6;have hS6:=hS.ext he56;have hok6:=hok.ext he6;have hoy6:=hoy.ext he56;have o6:Only F w w6:=Only.trans hO (Only.zG (F:=F) he56) (fun j hj=>.inl hj);obtain⟨t,hbx⟩:=hS6.box;refine zp (jb (l:=.ptr) 8 (some ⟨nb,0,none⟩) hbx (by rfl) (by rfl) ?_);refine zb (zc7 hS6 ha) ?_;rintro _ w7 ⟨rfl,hS7,hg7⟩;have datE:atE cc a=0:=by
   obtain⟨a1,a2,a3⟩:=v8.1 d2;have hl:=hS.ok.now;have hl':cc.length=S.N:=hl;unfold atE;rw[if_neg (by omega),if_neg (by omega)]
  refine⟨((zby cc a:Int),atE cc a,()),rfl,?_⟩;dsimp only;rw[datE];refine zd (by rfl) ?_;have h3lt:nr<w3.heap.size:=Nat.lt_of_lt_of_le hnrlt hO.2.2.2.1;have hb7:=hb6.grown hg7 (by simp;have:=he5.size;omega);have hkrow:∀ j,orow y.1=some j->w3.heap.size<=j:=fun j hj=>hok.row j hj;have hok7:=hok6.grown hg7 (fun j hj e=>by injection hj with hj;subst hj;have:=hkrow _ e;omega);have hoy7:=hoy6.grown hg7 hnrA;have o7:Only F w w7:=Only.trans o6 (h.zhp hg7) (fun j hj=>.inl hj);refine zk (l:=.slc) 1 y hb7 (by rfl) ?_;have hkl:=(zeV (N:=S.N) (bs:=B (S.dev.read a).1));have hkl1:(S.page a).1.2.1.length<=1024:=hkl.1;have hyn:=hok7.len;refine zb (zk1 hok7 (by omega)) ?_;rintro _ w8 ⟨rfl,hok8,hg8⟩;refine⟨(),rfl,?_⟩;have hyr6:∀ j,orow y.1=some j->j≠r6:=fun j hj e=>by have:=hok.yg j hj;omega
  have hb8:=hb7.grown hg8 (fun e=>hyr6 r6 e.symm rfl);have hAlt:∀ j,orow A=some j->j<w3.heap.size:=fun j hj=>hoy.yg j hj;have hoy8:=hoy7.grown hg8 (fun j hj e=>by have:=hkrow j hj;have:=hAlt j e;omega);have o8':Only (fun j=>orow y.1=some j) w7 w8:=Only.z8 hg8 (fun j hj=>.inl hj);have h37:w.heap.size<=w3.heap.size:=hO.2.2.2.1;have hS8:=hS7.only o8' (fun j hj e=>by have:=hkrow j e;have:=hFlt j hj;omega);have o8:Only F w w8:=Only.trans o7 o8' (fun j hj=>.inr (by have:=hkrow j hj;omega));refine zk (l:=.slc) 1 y hb8 (by rfl) ?_;have hrl:(S.page a).1.2.1.reverse.length=y.2.1:=by rw[List.length_reverse];exact hyn
  refine xw (E:=zw .u32) jV hoy8 (by have:=hb8.lt;have:=he5.size;omega) hok8.sl (by omega) (by omega) ?_;intro A' c'' w9 ho9 hg9 _;have hx9:∀ j,orow A=some j->¬F j:=fun j hj hf=>by have:=hr2F j hj;have:=hFlt j hf;omega
  have o9':Only (fun j=>orow A=some j) w8 w9:=Only.z8 hg9.grown (fun j hj=>.inl hj);have hS9:=hS8.only o9' (fun j hj e=>hx9 j e hj);have o9:Only F w w9:=Only.trans o8 o9' (fun j hj=>.inr (hr2F j hj));have hsum:=zhr datE;rw[show ys.length+y.2.1=(ys++(S.page a).1.2.1.reverse).length by rw[length_append,hrl]]at ho9 ⊢;refine hJ _ _ _ (by omega:(xv cc a).sum<cc.sum) ⟨xv cc a,ys++(S.page a).1.2.1.reverse,A',c'',rfl,rfl,?_,hS9,ho9,fun k hk=>?_,o9,?_⟩
  ·rw[List.reverse_append,List.reverse_reverse];exact d4
  ·rcases mem_append.1 hk with hk|hk
   ·exact h32 k (mem_append_left _ hk)
   ·have:=hkl.2 k (List.mem_reverse.1 hk);omega
  ·rw[length_append,hrl];omega
end V
/- Contracts of counts.Load,and of the reference's New,Pages,Load. -/
namespace V
open Go Go.Proofs Go.RowKit
theorem zjY {size:Int} {n:Nat} (h:zZ size n=true):spages size n=((yo n (zM size):Nat):Int):=by
 unfold spages;rw[if_pos h,Int.toNat_natCast]
end V
/- Contracts of the package space:commit,Format. -/
namespace V
open Go Go.Proofs Go.RowKit Crc
def wrL (d:Dev):List (Nat×Fra)->Dev×Int
 |[]=>(d,0)
 |kf::r=>if (ym d kf.1 kf.2).2≠0 then ym d kf.1 kf.2 else wrL (ym d kf.1 kf.2).1 r
def xA (gen:Nat) (ps:List Nat) (l:List ByteArray):List (Nat×Fra):=(ps.zip l).map fun p=>(p.1,((2:UInt8),gen,p.2))
def yS (d:Dev) (c:List Nat) (s:Sup) (slot:Int):Dev×Int:=
 if (wrL d (xA s.gen s.pages (zW c (zM d.size)))).2≠0 then wrL d (xA s.gen s.pages (zW c (zM d.size)))
 else if (wrL d (xA s.gen s.pages (zW c (zM d.size)))).1.flush.2≠0 then (wrL d (xA s.gen s.pages (zW c (zM d.size)))).1.flush
 else if (xI s).2≠0 then ((wrL d (xA s.gen s.pages (zW c (zM d.size)))).1.flush.1,(xI s).2)
 else if ((wrL d (xA s.gen s.pages (zW c (zM d.size)))).1.flush.1.write slot (mkB (xI s).1)).2≠0 then (wrL d (xA s.gen s.pages (zW c (zM d.size)))).1.flush.1.write slot (mkB (xI s).1)
 else ((wrL d (xA s.gen s.pages (zW c (zM d.size)))).1.flush.1.write slot (mkB (xI s).1)).1.flush
theorem Step.pre {w w1 w2:World} {db:Nat} {Fd F1:Nat->Prop} {d:Dev} (hO:Only Fd w w1) (hF:∀ k,F1 k->Fd k\/w.heap.size<=k) (h:Step w1 db F1 d w2):Step w db Fd d w2:=by
 obtain⟨F2,g1,g2,g3⟩:=h;refine⟨F2,g1,fun k hk=>?_,Only.trans hO g3 hF⟩;rcases g2 k hk with e|e
 ·exact hF k e
 ·exact .inr (Nat.le_trans hO.2.2.2.1 e)
theorem jW (d:Dev) (k:Int) (s:ByteArray):(d.write k s).1.size=d.size/\(d.write k s).1.blocks=d.blocks/\(d.write k s).1.pen.length<=d.pen.length+1:=by
 unfold Dev.write;split
 ·exact⟨rfl,rfl,by simp⟩
 ·split
  ·exact⟨rfl,rfl,by simp⟩
  ·exact⟨rfl,rfl,by simp⟩
theorem uv (d:Dev) (k:Int) (f:Fra):(ym d k f).1.size=d.size/\(ym d k f).1.blocks=d.blocks/\(ym d k f).1.pen.length<=d.pen.length+1:=by
 unfold ym;split
 ·exact⟨rfl,rfl,by simp⟩
 ·exact jW _ _ _
theorem ua (d:Dev):d.flush.1.size=d.size/\d.flush.1.blocks=d.blocks/\d.flush.1.pen.length<=d.pen.length:=by
 unfold Dev.flush;split
 ·exact⟨rfl,rfl,Nat.le_refl _⟩
 ·exact⟨rfl,rfl,by simp⟩
theorem zc8:∀ (l:List (Nat×Fra)) (d:Dev),(wrL d l).1.size=d.size/\(wrL d l).1.blocks=d.blocks/\(wrL d l).1.pen.length<=d.pen.length+l.length
 |[],d=>⟨rfl,rfl,by simp[wrL]⟩
 |kf::r,d=>by
  obtain⟨h1,h2,h3⟩:=uv d kf.1 kf.2;unfold wrL;split
  ·exact⟨h1,h2,by simp only [length_cons];omega⟩
  ·obtain⟨g1,g2,g3⟩:=zc8 r (ym d kf.1 kf.2).1;exact⟨g1.trans h1,g2.trans h2,by simp only [length_cons];omega⟩
theorem zb1 (l:List Nat) (per:Nat):(zW l per).length=yo l.length per:=by simp[zW]
theorem zhs {gen:Nat} {ps:List Nat} {l:List ByteArray} (h:ps.length=l.length) {i:Nat} (hi:i<l.length):(xA gen ps l)[i]?=some (ps.getD i 0,((2:UInt8),gen,l.getD i ByteArray.empty)):=by
 unfold xA;rw[List.getElem?_map,List.getElem?_zip_eq_some.2 (show ps[i]?=some (ps.getD i 0,l.getD i ByteArray.empty).1/\l[i]?=some (ps.getD i 0,l.getD i ByteArray.empty).2 from⟨?_,?_⟩)]
 ·rfl
 ·show ps[i]?=some (ps.getD i 0);rw[getD_eq_getElem?_getD,List.getElem?_eq_getElem (by omega)];rfl
 ·show l[i]?=some (l.getD i ByteArray.empty);rw[getD_eq_getElem?_getD,List.getElem?_eq_getElem (by omega)];rfl
theorem ziy {gen:Nat} {ps:List Nat} {l:List ByteArray} (h:ps.length=l.length):(xA gen ps l).length=l.length:=by
 unfold xA;rw[length_map,List.length_zip,h,Nat.min_self]
theorem zht {w:World} {db:Nat} {d:Dev} {Fd:Nat->Prop} (h:xp w db d Fd) {cb cr:Nat} {q:List Value} {c:List Nat} (hc:Cnt w cb cr d.size q c) {s:Sup} {x:SLC} (hf:s.Fits) (hp:Pg w x s.pages)
  (hx:∀ a,x.1=some a->¬Fd a.block) (hlen:s.pages.length=yo c.length (zM d.size)) (hpen:d.pen.length<=900000) (slot:Int):
  Calls prog 95 #[.pointer (some ⟨db,0,none⟩),.pointer (some ⟨cb,0,none⟩),.agg (sV s x).toArray,.int .i64 slot] w (Ret fun v w'=>v=.int .i64 (yS d c s slot).2/\Step w db Fd (yS d c s slot).1 w'):=by
 have hgeo:=h.ok.geo;obtain⟨h8,_⟩:=zd2 hgeo;obtain⟨hper1,hper2,_⟩:=kj h8;have hcl:=hc.len;have hFlt:=h.lt;have hPl:=zb1 c (zM d.size);have hnp:yo c.length (zM d.size)<=4096:=by
  unfold yo;rw[Nat.div_le_iff_le_mul_add_pred (by omega)];have:4096*56<=4096*zM d.size:=Nat.mul_le_mul_left _ hper1;have:zM d.size*4096=4096*zM d.size:=Nat.mul_comm _ _;omega
 apply zo7;unfold S95 yS;refine zs fun r1 w1 hb1 he1 hr1 hz1=>?_;have hb1:Blk w1 r1 (sV s x) 79:=hb1;refine zb (zio (hc.ext he1) h8) ?_;rintro _ w2 ⟨y,rfl,ho2,he2⟩;refine⟨y,rfl,?_⟩;have hb1:=hb1.ext he2;have he:=he1.trans he2;have hr1lt:=hb1.lt;have hyl:=ho2.len;have hpl:=hp.len;have hp2:=hp.ext he;generalize hL:xA s.gen s.pages (zW c (zM d.size))=L at *;have hLl:L.length=y.2.1:=by rw[<- hL,ziy (by omega)];exact hyl
 have hy1:∀ j,orow y.1=some j->w1.heap.size<=j/\j<w2.heap.size:=fun j hj=>⟨ho2.row j hj,ho2.yg j hj⟩;refine zu (fun y' w'=>∃ (i:Nat) (di:Dev) (Fi:Nat->Prop),i<=y.2.1/\y'=((i:Int),())/\xp w' db di Fi/\(∀ k,Fi k->Fd k\/w2.heap.size<=k)/\Only Fd w2 w'/\wrL d L=wrL di (L.drop i)/\di.size=d.size/\di.pen.length<=d.pen.length+i) (fun y'=>(y.2.1-y'.1).toNat)
  ⟨0,d,Fd,by omega,rfl,h.ext he,fun k hk=>.inl hk,Only.refl _ _,rfl,rfl,by omega⟩ ?_
 rintro _ w3 ⟨i,di,Fi,hi,rfl,hDi,hFi,hOi,hwr,hdz,hdp⟩;dsimp only;have hnFi:∀ j,w.heap.size<=j->j<w2.heap.size->¬Fi j:=fun j h1 h2 hf'=>by
  rcases hFi j hf' with e|e
  ·have:=hFlt j e;omega
  ·omega
 have hnFd:∀ j,w.heap.size<=j->¬Fd j:=fun j h1 hf'=>by have:=hFlt j hf';omega
 have hb3:=hb1.only hOi (hnFd r1 (by omega));have hz:=he1.size;have ho3:=ho2.only hOi (fun j hj=>hnFd j (by have:=hy1 j hj;omega));have hp3:Pg w3 x s.pages:=⟨hp2.sl.only hOi hx,hp2.nc⟩;have oi:Only Fd w w3:=Only.trans (Only.zG he) hOi (fun j hj=>.inl hj);have hFi':∀ k,Fi k->Fd k\/w.heap.size<=k:=fun k hk=>by
  rcases hFi k hk with e|e
  ·exact .inl e
  ·exact .inr (Nat.le_trans he.size e)
 by_cases hlt:i<y.2.1
 ·refine zf (decide_eq_true (by omega)) ?_;refine ziZ ho3.sl (by omega) (by omega) ?_;rw[Int.toNat_natCast];refine zK fun w4 he4 _ _=>?_;refine zk (l:=.slc) 4 x (hb3.ext he4) (by rfl) ?_;refine zY (hp3.sl.ext he4) (by omega) (by omega) ?_;rw[Int.toNat_natCast];refine zC (s.gen:Int) (hb3.ext he4) (by rfl) ?_;have hpi:=hf.at_ i;refine zb (zcE (hDi.ext he4) (s.pages.getD i 0) hpi ((2:UInt8),s.gen,(zW c (zM d.size)).getD i ByteArray.empty) hf.gen (by omega)) ?_;rintro _ w5 ⟨rfl,hst⟩;refine⟨_,rfl,?_⟩;have eL:L.drop i=(s.pages.getD i 0,((2:UInt8),s.gen,(zW c (zM d.size)).getD i ByteArray.empty))::L.drop (i+1):=by
   have:=zhs (gen:=s.gen) (ps:=s.pages) (l:=zW c (zM d.size)) (by omega) (i:=i) (by omega);rw[hL]at this;obtain⟨h1,h2⟩:=List.getElem?_eq_some_iff.1 this;rw[drop_eq_getElem_cons h1,h2]
  rw[eL]at hwr;have hst':Step w3 db Fi _ w5:=Step.pre (Only.zG he4) (fun k hk=>.inl hk) hst;have hdim:=uv di (s.pages.getD i 0) ((2:UInt8),s.gen,(zW c (zM d.size)).getD i ByteArray.empty);refine zg (fun hq=>?_) (fun hq=>?_)
  ·have hq:=bne_iff_ne.1 hq;have e1:wrL d L=ym di (s.pages.getD i 0) ((2:UInt8),s.gen,(zW c (zM d.size)).getD i ByteArray.empty):=by
    rw[hwr,wrL,if_pos hq]
   rw[e1,if_pos hq];exact⟨rfl,Step.pre oi hFi' hst'⟩
  ·have hq:=bne_eq_false_iff_eq.1 hq;obtain⟨F5,g1,g2,g3⟩:=hst';refine⟨⟨i+1,_,F5,by omega,by rw[wrap_i64 (by omega) (by omega)];rfl,g1,fun k hk=>?_,Only.trans hOi g3 hFi,by rw[hwr,wrL,if_neg (fun hh=>hh hq)],hdim.1.trans hdz,by omega⟩,by rw[wrap_i64 (by omega) (by omega)];omega⟩;rcases g2 k hk with e|e
   ·exact hFi k e
   ·exact .inr (Nat.le_trans hOi.2.2.2.1 e)
 obtain rfl:i=y.2.1:=by omega
 refine zd (decide_eq_false (by omega)) ?_;rw[drop_of_length_le (by omega),wrL]at hwr;rw[hwr,if_neg (fun hh=>hh rfl)];dsimp only;refine zb (zdt hDi) ?_;rintro _ w4 ⟨rfl,hst⟩;refine⟨_,rfl,?_⟩;refine zg (fun hq=>?_) (fun hq=>?_)
 ·have hq:=bne_iff_ne.1 hq;rw[if_pos hq];exact⟨rfl,Step.pre oi hFi' hst⟩
 have hq:=bne_eq_false_iff_eq.1 hq;rw[if_neg (fun hh=>hh hq)];obtain⟨F4,g1,g2,g3⟩:=hst;have hF4:∀ k,F4 k->Fd k\/w2.heap.size<=k:=fun k hk=>by
  rcases g2 k hk with e|e
  ·exact hFi k e
  ·exact .inr (Nat.le_trans hOi.2.2.2.1 e)
 have hF4':∀ k,F4 k->Fd k\/w.heap.size<=k:=fun k hk=>by
  rcases hF4 k hk with e|e
  ·exact .inl e
  ·exact .inr (Nat.le_trans he.size e)
 have o4:Only Fd w w4:=Only.trans oi g3 hFi';have o24:Only Fd w2 w4:=Only.trans hOi g3 hFi;have hb4:=hb1.only o24 (hnFd r1 (by omega));have hp4:Pg w4 x s.pages:=⟨hp2.sl.only o24 hx,hp2.nc⟩;have hfd:=ua di;refine zR (ls:=sLs) (sT s x) hb4 rfl ?_;refine zb (zjN hf hp4) ?_;rintro _ w5 ⟨rfl,he5⟩;refine⟨(⟨(xI s).1.toArray⟩,(xI s).2,()),rfl,?_⟩;have o5:Only Fd w w5:=Only.trans o4 (Only.zG (F:=Fd) he5) (fun j hj=>.inl hj);refine zg (fun hq=>?_) (fun hq=>?_)
 ·have hq:=bne_iff_ne.1 hq;rw[if_pos hq];exact⟨rfl,Step.pre o5 hF4' ⟨F4,g1.ext he5,fun k hk=>.inl hk,Only.refl _ _⟩⟩
 have hq:=bne_eq_false_iff_eq.1 hq;rw[if_neg (fun hh=>hh hq)];refine zb (zaF (g1.ext he5) slot (mkB (xI s).1) (by omega)) ?_;rintro _ w6 ⟨rfl,hst⟩;refine⟨_,rfl,?_⟩;refine zg (fun hq=>?_) (fun hq=>?_)
 ·have hq:=bne_iff_ne.1 hq;rw[if_pos hq];exact⟨rfl,Step.pre o5 hF4' hst⟩
 have hq:=bne_eq_false_iff_eq.1 hq;rw[if_neg (fun hh=>hh hq)];obtain⟨F6,k1,k2,k3⟩:=hst;have hF6':∀ k,F6 k->Fd k\/w.heap.size<=k:=fun k hk=>by
  rcases k2 k hk with e|e
  ·exact hF4' k e
  ·exact .inr (Nat.le_trans o5.2.2.2.1 e)
 refine zb (zdt k1) ?_;rintro _ w7 ⟨rfl,hst⟩;exact⟨_,rfl,rfl,Step.pre (Only.trans o5 k3 hF4') hF6' hst⟩
end V
/- Contracts of the package space:Format. -/
namespace V
open Go Go.Proofs Go.RowKit Crc
def zJ (size:Int) (N:Nat):Nat:=yo N (zM size)
def xJ (np:Nat):List Nat:=(List.range np).map (·+2)
def yj (N np:Nat):List Nat:=List.replicate (2+np) 1++List.replicate (N-2-np) 0
def xl (size:Int) (N:Nat):Sup:=⟨1,size,(N:Int),0,xJ (zJ size N)⟩
def yC (d:Dev):Dev×Int:=
 if chk (xl d.size d.blocks.toNat)≠0 then (d,chk (xl d.size d.blocks.toNat))
 else if (d.write 1 (yH d.size.toNat)).2≠0 then d.write 1 (yH d.size.toNat)
 else yS (d.write 1 (yH d.size.toNat)).1 (yj d.blocks.toNat (zJ d.size d.blocks.toNat)) (xl d.size d.blocks.toNat) 0
def qz (d:Dev):Spa:=⟨(yC d).1,xl d.size d.blocks.toNat,0,yj d.blocks.toNat (zJ d.size d.blocks.toNat),yj d.blocks.toNat (zJ d.size d.blocks.toNat),none⟩
theorem za7 {size:Int} {N:Nat} (h:zZ size N=true):zJ size N+2<=N/\N<=4096/\1<=zJ size N:=by
 obtain⟨h8,n,hn,h1,h2⟩:=zd2 h;obtain rfl:N=n:=by omega
 obtain⟨hp1,hp2,_⟩:=kj h8;have hx:yo N (zM size)<=(N+55) / 56:=by
  unfold yo;rw[Nat.div_le_iff_le_mul_add_pred (by omega)];have h3:N+55<56*((N+55) / 56+1):=Nat.lt_mul_div_succ _ (by omega);have h4:56*((N+55) / 56)<=zM size*((N+55) / 56):=Nat.mul_le_mul_right _ hp1;omega
 have h0:0<yo N (zM size):=by
  have:=(uW (n:=N) (k:=zM size) (i:=0) (by omega)).2 (by omega);exact this
 unfold zJ;omega
theorem jd {N np:Nat} (h:np+2<=N):(yj N np).length=N:=by simp[yj];omega
theorem kO {N np k:Nat} (h:np+2<=N):(yj N np).getD k 0=if k<np+2 then 1 else 0:=by
 unfold yj;rw[getD_eq_getElem?_getD]
 by_cases hk:k<np+2
 ·rw[if_pos hk,List.getElem?_append_left (by simp;omega),List.getElem?_replicate,if_pos (by omega)];rfl
 ·rw[if_neg hk,List.getElem?_append_right (by simp;omega),List.getElem?_replicate];split<;>rfl
theorem zk2 {N:Nat} (h:2<=N):yj N 0=zcz N:=by
 unfold yj zcz;rfl
theorem zk3 {N i:Nat} (h:i+3<=N):takeN (yj N i) []=i+2/\yW (yj N i) []=0/\yX (yj N i) []=yj N (i+1):=by
 have hl:=jd (N:=N) (np:=i) (by omega);have ht:zF (yj N i) []=i+2:=by
  unfold zF;rw[hl];refine zeU (by omega) (ko.2 ⟨?_,by simp⟩) (fun j hj=>?_)
  ·rw[kO (by omega),if_neg (by omega)]
  ·cases hq:qQ (yj N i) [] j with
   |false=>rfl
   |true=>
    have:=(ko.1 hq).1;rw[kO (by omega),if_pos (by omega)]at this;cases this
 refine⟨?_,?_,?_⟩
 ·unfold takeN;rw[ht,if_pos (by omega)]
 ·unfold yW;rw[ht,if_pos (by omega)]
 ·unfold yX;rw[ht,if_pos (by omega)];refine qM (by rw[length_set,hl,jd (by omega)]) (fun k=>?_);rw[yp,kO (by omega),kO (by omega),hl]
  by_cases hk:i+2=k
  ·subst hk;rw[if_pos ⟨rfl,by omega⟩,if_pos (by omega)]
  ·rw[if_neg (fun e=>hk e.1)]
   by_cases hk2:k<i+2
   ·rw[if_pos hk2,if_pos (by omega)]
   ·rw[if_neg hk2,if_neg (by omega)]
theorem zk4 (i:Nat):xJ (i+1)=xJ i++[i+2]:=by simp[xJ,range_succ]
theorem kF (i:Nat):(xJ i).length=i:=by simp[xJ]
theorem zcG {size:Int} {N:Nat} (h:zZ size N=true):(xl size N).Fits:=by
 have hd:=zbw h;have:=za7 h;refine⟨by show 1<_;omega,by show _<=size/\size<_;omega,by show _<=(N:Int)/\(N:Int)<_;omega,by show 0<_;omega,fun p hp=>?_⟩;have hp:p∈xJ (zJ size N):=hp;unfold xJ at hp;obtain⟨i,hi,rfl⟩:=mem_map.1 hp;have:=mem_range.1 hi;omega
theorem zaL (d:Dev) (c:List Nat) (s:Sup) (slot:Int):(yS d c s slot).1.size=d.size/\(yS d c s slot).1.blocks=d.blocks:=by
 have h1:=zc8 (xA s.gen s.pages (zW c (zM d.size))) d;have h2:=ua (wrL d (xA s.gen s.pages (zW c (zM d.size)))).1;have h3:=jW (wrL d (xA s.gen s.pages (zW c (zM d.size)))).1.flush.1 slot (mkB (xI s).1);have h4:=ua ((wrL d (xA s.gen s.pages (zW c (zM d.size)))).1.flush.1.write slot (mkB (xI s).1)).1;unfold yS;split
 ·exact⟨h1.1,h1.2.1⟩
 split
 ·exact⟨h2.1.trans h1.1,h2.2.1.trans h1.2.1⟩
 split
 ·exact⟨h2.1.trans h1.1,h2.2.1.trans h1.2.1⟩
 split
 ·exact⟨h3.1.trans (h2.1.trans h1.1),h3.2.1.trans (h2.2.1.trans h1.2.1)⟩
 ·exact⟨h4.1.trans (h3.1.trans (h2.1.trans h1.1)),h4.2.1.trans (h3.2.1.trans (h2.2.1.trans h1.2.1))⟩
theorem zhu {w:World} {db:Nat} {d:Dev} {Fd:Nat->Prop} (h:xp w db d Fd) (hpen:d.pen.length<=800000):
  Calls prog 69 #[.pointer (some ⟨db,0,none⟩)] w (Ret fun v w'=>((yC d).2≠0/\v=.tuple #[.pointer none,.int .i64 (yC d).2]/\Step w db Fd (yC d).1 w')\/
   ((yC d).2=0/\∃ b F,v=.tuple #[.pointer (some ⟨b,0,none⟩),.int .i64 0]/\ye w' b db (qz d) F/\w.heap.size<=b/\(∀ k,F k->Fd k\/w.heap.size<=k)/\Only Fd w w')):=by
 have hgeo:=h.ok.geo;obtain⟨h8,N,hN,hN8,hNm⟩:=zd2 hgeo;have hNt:d.blocks.toNat=N:=by omega
 have hg':zZ d.size (N:Int)=true:=by rw[<- hN];exact hgeo
 obtain⟨hnp1,hnp2,hnp3⟩:=za7 hg';have hdim:=zbw hgeo;have hFlt:=h.lt;have hff:=zcG hg';apply zoM;unfold S69 yC;rw[hNt];refine zd (by rfl) ?_;refine zb (vY h) ?_;rintro _ w1 ⟨rfl,he1⟩;refine⟨(d.size,d.blocks,()),rfl,?_⟩;refine zb (zkW w1 d.size d.blocks) ?_;rintro _ w2 ⟨y,rfl,hc2,he2⟩;rw[if_pos hgeo]at hc2;obtain⟨cb,cr,rfl,hc2,hcb,hcr⟩:=hc2;refine⟨(some ⟨cb,0,none⟩,(if zZ d.size d.blocks then 0 else 2),()),rfl,?_⟩;rw[if_pos hgeo];dsimp only;refine zd (by rfl) ?_;rw[hNt,<- zk2 (by omega)]at hc2;have he:=he1.trans he2;refine zb (vY (h.ext he)) ?_;rintro _ w3 ⟨rfl,he3⟩;refine⟨(d.size,d.blocks,()),rfl,?_⟩;have he3':=he.trans he3;refine zp0 (s:=⟨1,d.size,d.blocks,0,[]⟩) (x:=(none,0,0)) (by rfl) (fun r4 w4 hb4 he4 hr4=>?_);have he4':=he3'.trans he4;refine zb (vY (h.ext he4')) ?_;rintro _ w5 ⟨rfl,he5⟩;refine⟨(d.size,d.blocks,()),rfl,?_⟩;refine zb (zhn w5 d.size d.blocks) ?_;rintro _ w6 ⟨rfl,he6⟩;rw[hN,zjY hg'];refine⟨_,rfl,?_⟩;have he46:=he5.trans he6;have he6':=he4'.trans he46;have hb6:=hb4.ext he46;have hc6:=((hc2.ext he3).ext he4).ext he46;have hr4lt:r4<w6.heap.size:=hb6.lt;have hcblt:cb<w3.heap.size:=(hc2.ext he3).head.lt;have hcrlt:cr<w3.heap.size:=(hc2.ext he3).row.lt;have hs1:=he1.size;have hs3:=he3.size;have hs2:=he2.size;rw[hN]at hb6;show zB _ _ _ w6;have hnpe:zJ d.size N=yo N (zM d.size):=rfl;rw[<- hnpe];refine zu (fun y w'=>∃ (i:Nat) (A:Option Addr) (c:Nat),i<=zJ d.size N/\y=((i:Int),())/\Ext w w'/\w6.heap.size<=w'.heap.size/\Cnt w' cb cr d.size [] (yj N i)/\Blk w' r4 (sV ⟨1,d.size,(N:Int),0,[]⟩ (A,i,c)) 79/\Owni (zw .u32) 41 w' w6.heap.size A i c (xJ i)) (fun y=>(zJ d.size N-y.1).toNat)
  ⟨0,none,0,by omega,rfl,he6',Nat.le_refl _,hc6,hb6,Owni.nil _ _ _⟩ ?_
 rintro _ w7 ⟨i,A,c,hi,rfl,he7,hz7,hc7,hb7,ho7⟩;dsimp only
 by_cases hlt:i<zJ d.size N
 ·refine zf (decide_eq_true (by omega)) ?_;obtain⟨t1,t2,t3⟩:=zk3 (N:=N) (i:=i) (by omega);refine zb (zeR hc7 (.inl ⟨rfl,rfl⟩)) ?_;rintro _ w8 ⟨rfl,hc8,hg8⟩;rw[t3]at hc8;refine⟨(((takeN (yj N i) []:Nat):Int),yW (yj N i) [],()),rfl,?_⟩;rw[t1,t2];refine zd (by rfl) ?_;have hb8:=hb7.grown hg8 (by simp;omega);have ho8:=ho7.grown hg8 (fun j hj e=>by injection hj with hj;subst hj;have:=ho7.row _ e;omega);refine zk (l:=.slc) 4 (A,i,c) hb8 (by rfl) ?_;dsimp only;have hle:=ho8.le;refine yG (E:=zw .u32) (ys:=[i+2]) (by rfl) rfl jV ho8 (by have:=hg8.size;omega) (by omega) (by omega) ?_;intro A' c' w9 ho9 hg9;have hx9:∀ j,orow A=some j->w6.heap.size<=j:=fun j hj=>ho8.row j hj;have hb9:=hb8.grown hg9.grown (fun e=>by have:=hx9 r4 e.symm;omega);have hc9:Cnt w9 cb cr d.size [] (yj N (i+1)):=⟨hc8.head.grown hg9.grown (fun e=>by have:=hx9 cb e.symm;have:=he4.size;have:=he46.size;omega),hc8.row.grown hg9.grown (fun e=>by have:=hx9 cr e.symm;have:=he4.size;have:=he46.size;omega),hc8.ne,hc8.len,hc8.fits⟩;have he9:Ext w w9:=(he7.grown hg8 (fun j hj=>by injection hj with hj;omega)).grown hg9.grown (fun j hj=>by have:=hx9 j hj;have:=he6'.size;omega);rw[zx];refine zU hb9 (by show 0+4<5;omega) ?_;have hg10:=yP w9 r4 (0+4) (.slice A' (i+1) c');have hb10:=hb9.set (0+4) (.slice A' (i+1) c');refine⟨⟨i+1,A',c',by omega,by rw[wrap_i64 (by omega) (by omega)];rfl,he9.grown hg10 (fun j hj=>by injection hj with hj;omega),?_,hc9.kept hg10 (by omega) (by omega),hb10,?_⟩,by rw[wrap_i64 (by omega) (by omega)];omega⟩
  ·exact Nat.le_trans (Nat.le_trans (Nat.le_trans hz7 hg8.size) hg9.grown.size) hg10.size
  ·rw[zk4];exact ho9.grown hg10 (fun j hj e=>by injection hj with hj;have:=ho9.row _ e;omega)
 obtain rfl:i=zJ d.size N:=by omega
 refine zd (decide_eq_false (by omega)) ?_;have hb7:Blk w7 r4 (sV (xl d.size N) (A,zJ d.size N,c)) 79:=hb7;have hpg7:Pg w7 (A,zJ d.size N,c) (xl d.size N).pages:=⟨ho7.sl,ho7.le.1⟩;have stay:∀ {w':World},Ext w w'->Step w db Fd d w':=fun e=>⟨Fd,h.ext e,fun k hk=>.inl hk,Only.zG e⟩;refine zR (ls:=sLs) (sT (xl d.size N) (A,zJ d.size N,c)) hb7 rfl ?_;refine zb (zdv hff hpg7) ?_;rintro _ w8 ⟨rfl,he8⟩;refine⟨_,rfl,?_⟩;have he8':=he7.trans he8;refine zg (fun hq=>?_) (fun hq=>?_)
 ·have hq:=bne_iff_ne.1 hq;rw[if_pos hq];exact .inl ⟨hq,rfl,stay he8'⟩
 have hq0:=bne_eq_false_iff_eq.1 hq;rw[if_neg (fun hh=>hh hq0)];refine zb (vY (h.ext he8')) ?_;rintro _ w9 ⟨rfl,he9⟩;refine⟨(d.size,d.blocks,()),rfl,?_⟩;dsimp only;obtain⟨z,hz⟩:∃ z:Nat,d.size=(z:Int):=⟨d.size.toNat,by omega⟩;rw[hz];refine uQ (kl:=.i64) (kc:=.i64) (B:=w9.heap.size) (z:=.int .u8 0) (bytes:=1) xE (by rfl) (Nat.le_refl _) (by omega) (by omega) ?_;intro w10 ho10 hg10;have he10:Ext w9 w10:=(Ext.refl w9).grown hg10 (fun j hj=>by cases hj);have hrep:(List.replicate z (Value.int .u8 0))=bV (List.replicate z 0):=by simp[bV]
 rw[hrep]at ho10;refine qa (e:=5) (by kernel_rfl) (by kernel_rfl) (by kernel_rfl) ho10.sl ?_;have hzb:(⟨(List.replicate z (0:UInt8)).toArray⟩:ByteArray)=yH d.size.toNat:=by rw[hz];rfl
 rw[hzb];have he810:=he9.trans he10;have he10':=he8'.trans he810;refine zb (zaF (h.ext he10') 1 (yH d.size.toNat) (by omega)) ?_;rintro _ w11 ⟨rfl,hst⟩;refine⟨_,rfl,?_⟩;rw[<- hz];refine zg (fun hq=>?_) (fun hq=>?_)
 ·have hq:=bne_iff_ne.1 hq;rw[if_pos hq];exact .inl ⟨hq,rfl,Step.pre (Only.zG he10') (fun k hk=>.inl hk) hst⟩
 have hq1:=bne_eq_false_iff_eq.1 hq;rw[if_neg (fun hh=>hh hq1)];obtain⟨F11,k1,k2,k3⟩:=hst;have hwd:=jW d 1 (yH d.size.toNat);have hFd:∀ j,w.heap.size<=j->¬Fd j:=fun j hj hf=>by have:=hFlt j hf;omega
 have he78:Ext w7 w10:=he8.trans he810;have he4s:=he4.size;have he46s:=he46.size;have hw6:=he6'.size;have hb11:=(hb7.ext he78).only k3 (hFd r4 (by omega));have hc11:=(hc7.ext he78).only k3 (hFd cb (by omega)) (hFd cr (by omega));have hArow:∀ a,A=some a->w6.heap.size<=a.block:=fun a ha=>ho7.row _ (by rw[ha];rfl);have hArow2:∀ a,A=some a->a.block<w7.heap.size:=fun a ha=>ho7.yg _ (by rw[ha];rfl);have hp11:Pg w11 (A,zJ d.size N,c) (xl d.size N).pages:=⟨(hpg7.sl.ext he78).only k3 (fun a ha=>hFd _ (by have:=hArow a ha;omega)),hpg7.nc⟩;have h710:w7.heap.size<=w10.heap.size:=he78.size;have o11:Only Fd w w11:=Only.trans (Only.zG he10') k3 (fun j hj=>.inl hj);have hF11w:∀ k,F11 k->Fd k\/w.heap.size<=k:=fun k hk=>by
  rcases k2 k hk with e|e
  ·exact .inl e
  ·exact .inr (Nat.le_trans he10'.size e)
 have hF11:∀ j,w.heap.size<=j->j<w10.heap.size->¬F11 j:=fun j h1 h2 hf=>by
  rcases k2 j hf with e|e
  ·exact hFd j h1 e
  ·omega
 refine zR (ls:=sLs) (sT (xl d.size N) (A,zJ d.size N,c)) hb11 rfl ?_;have hfl:=jd (N:=N) (np:=zJ d.size N) hnp1;refine zb (zht k1 (c:=yj N (zJ d.size N)) (by rw[hwd.1];exact hc11) hff hp11 (fun a ha=>hF11 _ (by have:=hArow a ha;omega) (by have:=hArow2 a ha;omega)) (by rw[hwd.1,hfl];exact kF _) (by omega) 0) ?_;rintro _ w12 ⟨rfl,hst⟩;refine⟨_,rfl,?_⟩;refine zg (fun hq=>?_) (fun hq=>?_)
 ·have hq:=bne_iff_ne.1 hq;exact .inl ⟨hq,rfl,Step.pre o11 hF11w hst⟩
 have hq2:=bne_eq_false_iff_eq.1 hq;obtain⟨F12,m1,m2,m3⟩:=hst;have hF12:∀ j,w.heap.size<=j->j<w10.heap.size->¬F12 j:=fun j h1 h2 hf=>by
  rcases m2 j hf with e|e
  ·exact hF11 j h1 h2 e
  ·have:=k3.2.2.2.1;omega
 have hF12w:∀ k,F12 k->Fd k\/w.heap.size<=k:=fun k hk=>by
  rcases m2 k hk with e|e
  ·exact hF11w k e
  ·exact .inr (Nat.le_trans o11.2.2.2.1 e)
 have h4r:r4<w10.heap.size:=by omega
 have hb12:=hb11.only m3 (hF11 r4 (by omega) (by omega));have hc12:=hc11.only m3 (hF11 cb (by omega) (by omega)) (hF11 cr (by omega) (by omega));have hp12:Pg w12 (A,zJ d.size N,c) (xl d.size N).pages:=⟨hp11.sl.only m3 (fun a ha=>hF11 _ (by have:=hArow a ha;omega) (by have:=hArow2 a ha;omega)),hp11.nc⟩;have o12:Only Fd w w12:=Only.trans o11 m3 hF11w;refine zK fun w13 he13 hs13 _=>?_;refine zR (ls:=sLs) (sT (xl d.size N) (A,zJ d.size N,c)) (hb12.ext he13) rfl ?_;refine zb (zfu (hc12.ext he13)) ?_;rintro _ w14 ⟨⟨b2,r2,q2,rfl,hc14,hb2,hr2⟩,he14⟩;refine⟨some ⟨b2,0,none⟩,rfl,?_⟩;have he1314:=he13.trans he14;have hb14:=hb12.ext he1314;refine⟨fun l hl p hp=>?_,?_⟩
 ·simp only [mem_singleton]at hl;subst hl;simp only [mem_cons,not_mem_nil,or_false]at hp;rcases hp with rfl|rfl|rfl|rfl|rfl
  ·exact(hb14.cell 0).trans rfl
  ·exact(hb14.cell 1).trans rfl
  ·exact(hb14.cell 2).trans rfl
  ·exact(hb14.cell 3).trans rfl
  ·exact(hb14.cell 4).trans rfl
 refine zs fun r23 w15 hb15 he15 hr15 hz15=>?_;have hx15:=he1314.trans he15;have o15:Only Fd w w15:=Only.trans o12 (Only.zG (F:=Fd) hx15) (fun j hj=>.inl hj);have hcD:=hc14.head.lt;have hcD2:=hc14.row.lt;have hm1lt:=m1.lt;have h1012:w10.heap.size<=w12.heap.size:=Nat.le_trans k3.2.2.2.1 m3.2.2.2.1;have hs14:=he14.size;have hne:=hc2.ne;have hne2:=hc14.ne;have es:(yS (d.write 1 (yH d.size.toNat)).1 (yj N (zJ d.size N)) (xl d.size N) 0).1.size=d.size/\(yS (d.write 1 (yH d.size.toNat)).1 (yj N (zJ d.size N)) (xl d.size N) 0).1.blocks=d.blocks:=by
  have:=zaL (d.write 1 (yH d.size.toNat)).1 (yj N (zJ d.size N)) (xl d.size N) 0;exact⟨this.1.trans hwd.1,this.2.trans hwd.2.1⟩
 have eF:qz d=⟨(yS (d.write 1 (yH d.size.toNat)).1 (yj N (zJ d.size N)) (xl d.size N) 0).1,xl d.size N,0,yj N (zJ d.size N),yj N (zJ d.size N),none⟩:=by
  unfold qz yC;rw[hNt,if_neg (fun hh=>hh hq0),if_neg (fun hh=>hh hq1)]
 refine .inr ⟨hq2,r23,fun k=>F12 k\/k∈yT r23 cb cr b2 r2 (A,zJ d.size N,c) none,rfl,?_,by omega,?_,o15⟩
 ·rw[eF];have hA2:∀ k,k∈zaG (A,zJ d.size N,c)->w6.heap.size<=k/\k<w7.heap.size:=by
   intro k hk;unfold zaG at hk;cases A with
   |none=>simp at hk
   |some a=>
    simp only [Option.map_some,Option.toList_some,mem_singleton]at hk;subst hk;exact⟨hArow a rfl,hArow2 a rfl⟩
  have hrn:(zaG (A,zJ d.size N,c)).Nodup:=by
   unfold zaG;cases A<;>simp
  refine⟨F12,(A,zJ d.size N,c),cb,cr,b2,r2,none,⟨⟨_,by exact hb15⟩,m1.ext hx15,hp12.ext hx15,⟨[],hc12.ext hx15⟩,⟨q2,hc14.ext he15⟩,trivial,fun _=>Iff.rfl,?_,?_,?_,⟨es.1.symm,?_,hff,?_,?_,fun l hl=>by cases hl⟩⟩⟩
  ·simp only [yT,zcA,append_nil,nodup_cons,mem_cons,not_or];refine⟨⟨by omega,by omega,by omega,by omega,fun hk=>by have:=hA2 _ hk;omega⟩,⟨hne,by omega,by omega,fun hk=>by have:=hA2 _ hk;omega⟩,⟨by omega,by omega,fun hk=>by have:=hA2 _ hk;omega⟩,⟨hne2,fun hk=>by have:=hA2 _ hk;omega⟩,fun hk=>by have:=hA2 _ hk;omega,hrn⟩
  ·intro k hk hf;have hkl:=hm1lt k hf;simp only [yT,zcA,append_nil,mem_cons]at hk;rcases hk with rfl|rfl|rfl|rfl|rfl|hk
   ·omega
   ·exact hF12 _ (by omega) (by omega) hf
   ·exact hF12 _ (by omega) (by omega) hf
   ·omega
   ·omega
   ·have:=hA2 k hk;exact hF12 _ (by omega) (by omega) hf
  ·intro k hk;have:=hA2 k hk;have:=hx15.size;omega
  ·show(N:Int)=_;rw[es.2,hN]
  ·show(yj N (zJ d.size N)).length=((N:Int)).toNat;rw[hfl];omega
  ·show(yj N (zJ d.size N)).length=((N:Int)).toNat;rw[hfl];omega
 ·rintro k (hk|hk)
  ·exact hF12w k hk
  ·right;simp only [yT,zcA,append_nil,mem_cons]at hk;rcases hk with rfl|rfl|rfl|rfl|rfl|hk
   ·omega
   ·omega
   ·omega
   ·omega
   ·omega
   ·unfold zaG at hk;cases A with
    |none=>simp at hk
    |some a=>
     simp only [Option.map_some,Option.toList_some,mem_singleton]at hk;subst hk;have:=hArow a rfl;omega
end V
/- Ranges over functions that make new blocks,and change their own,between what they yield. -/
namespace V
open Go
theorem Only.yA {F:Nat->Prop} {w:World} {a:Nat} {o:Obj} (h:F a):Only F w (yA w a o):=
 ⟨rfl,rfl,rfl,by rw[xD];exact Nat.le_refl _,fun k _ hk=>zQ (fun e=>hk (by rw[<- e];exact h))⟩
theorem Only.mono {F G:Nat->Prop} {w w':World} (h:Only F w w') (hF:∀ k,F k->G k):Only G w w':=⟨h.1,h.2.1,h.2.2.1,h.2.2.2.1,fun k hk hg=>h.2.2.2.2 k hk (fun e=>hg (hF k e))⟩
def zjZ (P:Program) (v:Value) (L:List (List Value)) (R:WP) (Q:Nat->Prop) (R0 E0:WP) (Bp:World->Nat->Prop):Prop:=
 ∃ f cap,v=.func (.func f) #[] cap/\enterable P f=true/\∀ (l:Nat) (J:(Nat->Prop)->Nat->WP) (E:(Nat->Prop)->WP) (w:World),J Q 0 w->(∀ k,Q k->k<w.heap.size)->R0 w->(∀ V i w',J V i w'->R w')->
  (∀ (V V':Nat->Prop) i w' w'',J V i w'->Only V w' w''->(∀ k,V' k->V k\/w'.heap.size<=k)->R w''->J V' i w'')->(∀ (V V':Nat->Prop) w' w'',E V w'->Only V w' w''->(∀ k,V' k->V k\/w'.heap.size<=k)->E V' w'')->
  (∀ (V:Nat->Prop) i w' (h:i<L.length),J V i w'->(∀ k,V k->k<w'.heap.size)->(∀ k,V k->Bp w' k)->jI P l L[i] w' fun v w''=>w'.heap.size<=w''.heap.size/\(∀ k,V k->w''.heap[k]?=w'.heap[k]?)/\
   ((v=.bool true/\R w''/\J V (i+1) w'')\/(v=.bool false/\E V w'')))->
  Calls P f (.func (.yield l) #[] #[]::cap.toList).toArray w (Ret fun _ w'=>∃ V:Nat->Prop,(J V L.length w'/\(∀ k,V k->Q k\/w.heap.size<=k)/\E0 w')\/E V w')
def zqw (w:World) (k:Nat):Prop:=∀ o,w.heap[k]?=some o->∀ c t fz,o≠.cells c t fz
theorem zhv {P:Program} {v:Value} {T:Type} {vals:T->List Value} {Body:T->(WP->WP)->WP->(Code->WP)->WP} {done:Nat->Option Code->WP} {w:World} {L:List (List Value)} {R:WP} {Q:Nat->Prop} {R0 E0:WP} {Bp:World->Nat->Prop} (tv:Nat->T) (htv:∀ i (hi:i<L.length),vals (tv i)=L[i])
  (I:(Nat->Prop)->Nat->WP) (D:(Nat->Prop)->Code->WP)
  (hit:zjZ P v L R Q R0 E0 Bp) (hQ:∀ k,Q k->k<w.heap.size)
  (hRst:∀ w' w'',yY w.heap.size (w.heap.size+1) w' w''->R w'->R w'')
  (hEst:∀ w' w'',yY w.heap.size (w.heap.size+1) w' w''->E0 w'->E0 w'')
  (hR:∀ V i w',I V i w'->R w')
  (hI:∀ (V V':Nat->Prop) i w' w'',I V i w'->Only (fun k=>V k\/k=w.heap.size\/k=w.heap.size+1) w' w''->(∀ k,V' k->V k\/w'.heap.size<=k)->R w''->I V' i w'')
  (hD:∀ (V V':Nat->Prop) c w' w'',D V c w'->Only (fun k=>V k\/k=w.heap.size\/k=w.heap.size+1) w' w''->(∀ k,V' k->V k\/w'.heap.size<=k)->D V' c w'')
  (h0:∀ o,I Q 0 ((w.alloc (.deferred (some []))).alloc o)) (h00:∀ o,R0 ((w.alloc (.deferred (some []))).alloc o))
  (hbody:∀ (V:Nat->Prop) (i:Nat) (hi:i<L.length) (w':World) (G:WP->WP) (N:WP) (jump:Code->WP),I V i w'->w.heap.size+2<=w'.heap.size->(∀ k,V k->k<w'.heap.size/\k≠w.heap.size/\k≠w.heap.size+1)->(∀ k,V k->Bp w' k)->
   (∀ (K:WP) w1,I V i w1->w'.heap.size<=w1.heap.size->(∀ k,k=w.heap.size\/k=w.heap.size+1\/V k->w1.heap[k]?=w'.heap[k]?)->(∀ w2,I V i w2->w1.heap.size=w2.heap.size->(∀ k:Nat,k≠w.heap.size->k≠w.heap.size+1->w2.heap[k]?=w1.heap[k]?)->(∀ k,k=w.heap.size\/k=w.heap.size+1->zqw w2 k)->
    (∀ w'',R w''->I V (i+1) w''->w2.heap.size<=w''.heap.size->(∀ k,k=w.heap.size\/k=w.heap.size+1\/V k->w''.heap[k]?=w2.heap[k]?)->N w'')->
    (∀ c w'',D V c w''->w2.heap.size<=w''.heap.size->(∀ k,k=w.heap.size\/k=w.heap.size+1\/V k->w''.heap[k]?=w2.heap[k]?)->jump c w'')->K w2)->G K w1)->
   Body (tv i) G N jump w')
  (hdone:∀ V w',I V L.length w'->E0 w'->w.heap.size+2<=w'.heap.size->w'.heap[w.heap.size]?=some (.deferred (some []))->done w.heap.size none w')
  (hjump:∀ V c w',D V c w'->w.heap.size+2<=w'.heap.size->w'.heap[w.heap.size]?=some (.deferred (some []))->done w.heap.size (some c) w'):
  jE P v T vals Body done w:=by
 obtain⟨f,cap,rfl,hen,hcalls⟩:=hit;refine⟨f,cap,rfl,hen,fun rec hrec hY=>?_⟩;have hlt:∀ {w':World} {o:Obj},w'.heap[w.heap.size+1]?=some o->w.heap.size+1<w'.heap.size:=fun h=>(Array.getElem?_eq_some_iff.1 h).1;have hs0:((w.alloc (.deferred (some []))).alloc (rec .ready none)).heap.size=w.heap.size+2:=by
  show((w.heap.push _).push _).size=_;simp
 have hIs:∀ {V:Nat->Prop} {i:Nat} {w':World} {o:Obj},I V i w'->I V i (yA w' (w.heap.size+1) o):=fun h=>hI _ _ _ _ _ h (Only.yA (.inr (.inr rfl))) (fun k hk=>.inl hk) (hRst _ _ (ya (.inr rfl)) (hR _ _ _ h));refine Calls.mono (hcalls (w.heap.size+1) (fun V i w'=>I V i w'/\w'.heap[w.heap.size+1]?=some (rec .ready none)/\w'.heap[w.heap.size]?=some (.deferred (some []))/\∀ k,V k->k≠w.heap.size/\k≠w.heap.size+1)
  (fun V w'=>∃ c,D V c w'/\w'.heap[w.heap.size+1]?=some (rec .done (some c))/\w'.heap[w.heap.size]?=some (.deferred (some []))/\∀ k,V k->k≠w.heap.size/\k≠w.heap.size+1) _ ⟨h0 _,?_,?_,fun k hk=>by have:=hQ k hk;omega⟩ (fun k hk=>by have:=hQ k hk;omega) (h00 _) (fun V i w' h=>hR V i w' h.1) ?_ ?_ ?_) ?_
 ·show((w.heap.push _).push _)[w.heap.size+1]?=_;rw[Array.getElem?_push];simp
 ·show((w.heap.push _).push _)[w.heap.size]?=_;rw[Array.getElem?_push,Array.getElem?_push];simp
 ·rintro V V' i w' w'' ⟨h1,h2,h3,h4⟩ hO hV hr;have:=hlt h2;exact⟨hI V V' i w' w'' h1 (hO.mono (fun k hk=>.inl hk)) hV hr,(hO.2.2.2.2 _ (by omega) (fun e=>(h4 _ e).2 rfl)).trans h2,(hO.2.2.2.2 _ (by omega) (fun e=>(h4 _ e).1 rfl)).trans h3,fun k hk=>by rcases hV k hk with e|e;exact h4 k e;omega⟩
 ·rintro V V' w' w'' ⟨c,h1,h2,h3,h4⟩ hO hV;have:=hlt h2;exact⟨c,hD V V' c w' w'' h1 (hO.mono (fun k hk=>.inl hk)) hV,(hO.2.2.2.2 _ (by omega) (fun e=>(h4 _ e).2 rfl)).trans h2,(hO.2.2.2.2 _ (by omega) (fun e=>(h4 _ e).1 rfl)).trans h3,fun k hk=>by rcases hV k hk with e|e;exact h4 k e;omega⟩
 ·rintro V i w' hi ⟨hIi,hl,hd,hVa⟩ hVs hVb
  let Qv:Bool->WP:=fun b w''=>w'.heap.size<=w''.heap.size/\(∀ k,V k->w''.heap[k]?=w'.heap[k]?)/\
   ((b=true/\R w''/\I V (i+1) w''/\w''.heap[w.heap.size+1]?=some (rec .ready none)/\w''.heap[w.heap.size]?=some (.deferred (some [])))
   \/ (b=false/\∃ c,D V c w''/\w''.heap[w.heap.size+1]?=some (rec .done (some c))/\w''.heap[w.heap.size]?=some (.deferred (some []))))
  have hb:=hbody V i hi w' (fun K w1=>w1.heap[w.heap.size+1]?=some (rec .ready none)/\K (yA w1 (w.heap.size+1) (rec .busy none)))
   (fun w2=>w2.heap[w.heap.size+1]?=some (rec .busy none)/\Qv true (yA w2 (w.heap.size+1) (rec .ready none)))
   (fun c w2=>w2.heap[w.heap.size+1]?=some (rec .busy none)/\Qv false (yA w2 (w.heap.size+1) (rec .done (some c)))) hIi (by have:=hlt hl;omega)
   (fun k hk=>⟨hVs k hk,hVa k hk⟩) hVb
   (fun K w1 hI1 hs1 hk1 hG=>by
    have hl1:=hk1 (w.heap.size+1) (.inr (.inl rfl))
    rw[hl]at hl1
    have hd1:=hk1 w.heap.size (.inl rfl)
    rw[hd]at hd1
    refine⟨hl1,hG _ (hIs hI1) (by rw[xD]) (fun k h1 h2=>zQ (fun e=>h2 e.symm)) (fun k hk o ho c t fz e=>?_) ?_ ?_⟩
    ·rcases hk with rfl|rfl
     ·rw[zQ (by omega),hd1]at ho
      injection ho with ho
      rw[<- ho]at e
      cases e
     ·rw[xU (hlt hl1)]at ho
      injection ho with ho
      rw[<- ho]at e
      exact hrec _ _ _ _ _ e
    ·intro w'' hR3 hI3 hs hk
     have h1:=hk (w.heap.size+1) (.inr (.inl rfl))
     rw[xU (hlt hl1)]at h1
     have h2:=hk w.heap.size (.inl rfl)
     rw[zQ (by omega),hd1]at h2
     refine⟨h1,by rw[xD]at hs ⊢;omega,fun k hV=>?_,.inl ⟨rfl,hRst _ _ (ya (.inr rfl)) hR3,hIs hI3,xU (hlt h1),?_⟩⟩
     ·have:=hVa k hV
      rw[zQ (by omega),hk k (.inr (.inr hV)),zQ (by omega),hk1 k (.inr (.inr hV))]
     ·rw[zQ (by omega)];exact h2
    ·intro c w'' hDc hs hk
     have h1:=hk (w.heap.size+1) (.inr (.inl rfl))
     rw[xU (hlt hl1)]at h1
     have h2:=hk w.heap.size (.inl rfl)
     rw[zQ (by omega),hd1]at h2
     refine⟨h1,by rw[xD]at hs ⊢;omega,fun k hV=>?_,.inr ⟨rfl,c,hD V V c _ _ hDc (Only.yA (.inr (.inr rfl))) (fun k hk=>.inl hk),xU (hlt h1),?_⟩⟩
     ·have:=hVa k hV
      rw[zQ (by omega),hk k (.inr (.inr hV)),zQ (by omega),hk1 k (.inr (.inr hV))]
     ·rw[zQ (by omega)];exact h2)
  have:=hY (tv i) w' Qv hl hb;rw[htv i hi]at this;obtain⟨fn,tmps,asg,bd,h1,h2⟩:=this;refine⟨fn,tmps,asg,bd,h1,RoundIn.mono h2 ?_⟩;rintro(v|c|_) w2 he
  ·obtain⟨b,rfl,q1,q2,⟨rfl,hh1,hh2,hh3,hh4⟩|⟨rfl,c,hh1,hh2,hh3⟩⟩:=he
   ·exact⟨q1,q2,.inl ⟨rfl,hh1,hh2,hh3,hh4,hVa⟩⟩
   ·exact⟨q1,q2,.inr ⟨rfl,c,hh1,hh2,hh3,hVa⟩⟩
  ·exact he
  ·exact he
 ·rintro(v|c|_) w3 he
  ·obtain⟨V,⟨⟨hI3,hl,hd,_⟩,_,hE⟩|⟨c,hD3,hl,hd,_⟩⟩:=he
   ·refine⟨.ready,none,by simp,hl,hdone V _ (hIs hI3) (hEst _ _ (ya (.inr rfl)) hE) (by rw[xD];have:=hlt hl;omega) ?_⟩;rw[zQ (by omega)];exact hd
   ·refine⟨.done,some c,by simp,hl,hjump V c _ (hD V V c _ _ hD3 (Only.yA (.inr (.inr rfl))) (fun k hk=>.inl hk)) (by rw[xD];have:=hlt hl;omega) ?_⟩;rw[zQ (by omega)];exact hd
  ·exact he
  ·exact he
end V
/- Contracts of the package space:refs. -/
namespace V
open Go Go.Proofs Go.RowKit Crc
theorem Sli.congr {α:Type} {E:Enc α} {w w':World} {A:Option Addr} {n:Nat} {xs:List α} (h:Sli E w A n xs) (hs:∀ a,A=some a->w'.heap[a.block]?=w.heap[a.block]?):Sli E w' A n xs:=by
 refine⟨h.1,h.2.1,fun hn=>?_⟩;obtain⟨a,e1,e2,e3⟩:=h.2.2 hn;refine⟨a,e1,e2,fun j v hj=>?_⟩;have hc:=e3 j v hj;have hab:(a.add j).block=a.block:=by unfold Addr.add;split<;>rfl
 unfold World.cell? at hc ⊢;rw[show w'.heap[(a.add j).block]?=w.heap[(a.add j).block]? by rw[hab];exact hs a e1];exact hc
section
variable {b db:Nat} {S:Spa} {F Fd:Nat->Prop} {x:SLC} {hb hr nb nr:Nat} {m:MkL}
end
end V
/- Contracts of the package space:Walk,Audit. -/
namespace V
open Go Go.Proofs Go.RowKit Crc
variable {w w':World} {b db:Nat} {S:Spa} {F Fd:Nat->Prop} {x:SLC} {hb hr nb nr:Nat} {m:MkL}
end V
/- Contracts of the package space:Audit. -/
namespace V
open Go Go.Proofs Go.RowKit Crc
variable {w w':World} {b db:Nat} {S:Spa} {F Fd:Nat->Prop} {x:SLC} {hb hr nb nr:Nat} {m:MkL}
end V
/- Spaces that are well:what Put,Get,Drop,Audit come to. -/
namespace V
open Go Go.Proofs Go.RowKit Crc
structure Good (S:Spa) (R:List Nat):Prop where
 ok:S.Ok
 dev:S.dev.Ok
 fuse:S.dev.fuse=-1
 gen:S.sup.gen<1000000000000
 well:yb S.N S.sup.pages S.page S.now R
theorem Good.dims {S:Spa} {R:List Nat} (h:Good S R):zae S:=by
 have hg:=h.dev.geo;rw[<- h.ok.size,<- h.ok.blocks]at hg;obtain⟨g1,g2,g3,g4,g5⟩:=qn hg;have:S.sup.blocks=(S.N:Int):=by unfold Spa.N;omega
 exact⟨hg,g1,⟨g2,g3⟩,this,by omega⟩
theorem Good.h01 {S:Spa} {R:List Nat} (h:Good S R):S.now.getD 0 0≠0/\S.now.getD 1 0≠0:=by
 have:=h.well.head;omega
theorem Good.perm {S:Spa} {R R':List Nat} (h:Good S R) (hp:R.Perm R'):Good S R':=⟨h.ok,h.dev,h.fuse,h.gen,h.well.perm hp⟩
theorem qq {S:Spa} {R:List Nat} (h:Good S R) {n:Nat} (hn:zO S.sup.pages S.now n=true):S.asked n=true/\S.now.getD n 0≠0/\n<S.N:=by
 obtain⟨h1,h2,h3⟩:=zT.1 hn;have:=h.well.lt hn;exact⟨v8.2 ⟨h1,this,h2⟩,by omega,this⟩
theorem Good.get {S:Spa} {R:List Nat} (h:Good S R) {n:Nat} (hn:zO S.sup.pages S.now n=true):S.get n=S.page n/\(S.page n).2=0:=by
 obtain⟨h1,h2,h3⟩:=qq h hn;refine⟨?_,(h.well.good n hn).1⟩;unfold Spa.get;rw[if_neg (by rw[h1];simp),if_neg h2]
theorem qe {d:Dev} (h:d.Ok) {k j:Int} {s:ByteArray} (hk:0<=k/\k<d.blocks) (hs:(s.size:Int)=d.size) (hf:d.fuse≠0) (hj:0<=j/\j<d.blocks):
  (d.write k s).2=0/\((d.write k s).1.read j).1=if j=k then s else (d.read j).1:=by
 unfold Dev.write;rw[if_neg (by rintro(e|e);exact e hk;exact e hs),if_neg hf];refine⟨rfl,?_⟩;unfold Dev.read;dsimp only;rw[if_neg (show ¬ ¬(0<=j/\j<d.burnt.blocks) from fun e=>e hj),if_neg (show ¬ ¬(0<=j/\j<d.blocks) from fun e=>e hj)];dsimp only;rw[List.foldl_append];show((List.foldl Go.Proofs.YtplgodmmmppmeaaGreat.V.put d.dur d.pen).set k.toNat s).getD j.toNat ByteArray.empty=_;rw[getD_set];have hl:=zab d.pen d.dur;have hlen:=h.len
 by_cases e:j=k
 ·subst e;rw[if_pos ⟨rfl,by rw[hl];omega⟩,if_pos rfl]
 ·rw[if_neg (fun e'=>e (by omega)),if_neg e]
theorem vG {d:Dev} (h:d.Ok) {k:Int} {s:ByteArray} (hk:0<=k/\k<d.blocks) (hs:(s.size:Int)=d.size) (hf:d.fuse=-1):(d.write k s).1.Ok/\(d.write k s).1.fuse=-1/\(d.write k s).1.pen.length=d.pen.length+1:=by
 unfold Dev.write;rw[if_neg (by rintro(e|e);exact e hk;exact e hs),if_neg (by omega)];have hb:=h.burnt;refine⟨⟨h.geo,h.len,h.each,fun p hp=>?_,hb.fuse⟩,?_,by simp⟩
 ·rcases mem_append.1 hp with hp|hp
  ·exact h.pend p hp
  ·rw[mem_singleton.1 hp];exact⟨hk.1,hk.2,hs⟩
 ·show max (-1) (d.fuse-1)=-1;rw[hf];decide
theorem zf2 (S:Spa):∀ n,(∀ j,j<n->¬((decide (2<=j)&&S.yx j)=true))->jC S n=[]
 |0,_=>rfl
 |n+1,h=>by
  rw[qR,if_neg (h n (by omega)),zf2 S n (fun j hj=>h j (by omega))]
theorem ub {S:Spa} {n:Nat}:n∈S.yc↔n<S.N/\2<=n/\S.yx n=true:=by
 unfold Spa.yc;rw[List.mem_filter,mem_range,Bool.and_eq_true,decide_eq_true_iff]
theorem zj0 {S:Spa} {R:List Nat} (h:Good S R) (hf:0<S.z7):S.zF<S.N/\2<=S.zF/\S.yx S.zF=true/\(∀ j,j<S.zF->S.yx j=false)/\S.zF∉S.sup.pages:=by
 have hnow:=h.ok.now;obtain⟨n,hn⟩:∃ n,n∈S.yc:=by
  unfold Spa.z7 at hf;cases hq:S.yc with
  |nil=>rw[hq]at hf;simp at hf
  |cons a r=>exact⟨a,mem_cons_self⟩
 obtain⟨h1,h2,h3⟩:=ub.1 hn;have hlt:S.zF<(List.range S.now.length).length:=List.findIdx_lt_length_of_exists ⟨n,mem_range.2 (by omega),h3⟩;rw[length_range]at hlt;have hfr:S.yx S.zF=true:=by
  have:=List.findIdx_getElem (p:=S.yx) (xs:=List.range S.now.length) (w:=by rw[length_range];exact hlt);rw[getElem_range]at this;exact this
 obtain⟨f1,f2,f3⟩:=zV.1 hfr;have hhd:=h.well.head;refine⟨by omega,?_,hfr,fun j hj=>?_,fun hp=>?_⟩
 ·rcases Nat.lt_or_ge S.zF 2 with hh|hh
  ·have:S.zF=0\/S.zF=1:=by omega
   rcases this with e|e<;>rw[e]at f1<;>omega
  ·exact hh
 ·have:=List.not_of_lt_findIdx (p:=S.yx) (xs:=List.range S.now.length) (i:=j) hj;rw[getElem_range]at this
  simpa using this
 ·have:=(h.well.pgs _ hp).2.2;omega
structure vT (S S':Spa) (p:Page) (n:Nat):Prop where
 two:2<=n
 lt:n<S.N
 pgs:n∉S.sup.pages
 free:S.yx n=true
 now:S'.now=S.now.set n 1
 sup:S'.sup=S.sup
 held:S'.held=S.held
 mark:S'.mark=S.mark
 slot:S'.slot=S.slot
 page:S'.page n=(p,0)
 other:∀ k,k≠n->k<S.N->S'.page k=S.page k
 pen:S'.dev.pen.length=S.dev.pen.length+1
 yc:S.yc=n::S'.yc
 read:∀ k:Int,0<=k->k<S.N->k≠n->(S'.dev.read k).1=(S.dev.read k).1
 dim:S'.dev.size=S.dev.size/\S'.dev.blocks=S.dev.blocks
theorem zj1 {S S':Spa} {n:Nat} (hn:n<S.N) (h2:2<=n) (hf:S.yx n=true) (hno:∀ j,j<n->S.yx j=false) (hN:S'.N=S.N) (hf':∀ j,j<S.N->S'.yx j=if j=n then false else S.yx j):S.yc=n::S'.yc:=by
 have key:∀ k,k<=S.N->jC S k=if n<k then n::jC S' k else jC S' k:=by
  intro k
  induction k with
  |zero=>intro _;rw[if_neg (by omega)];rfl
  |succ k ih=>
   intro hk;have ih:=ih (by omega);rw[qR,qR,hf' k (by omega)]
   by_cases hkn:k=n
   ·subst hkn;have hA:(decide (2<=k)&&S.yx k)=true:=by rw[hf,decide_eq_true h2];rfl
    have e1:jC S k=[]:=zf2 S k (fun j hj hh=>by rw[hno j hj]at hh;simp at hh);rw[if_neg (by omega)]at ih;rw[if_pos hA,if_pos (Nat.lt_succ_self k),if_pos rfl,Bool.and_false,if_neg (by simp),<- ih,e1];rfl
   ·rw[if_neg hkn]
    by_cases hlt:n<k
    ·rw[if_pos hlt]at ih;rw[if_pos (by omega:n<k+1),ih];split<;>simp
    ·rw[if_neg hlt]at ih;rw[if_neg (by omega:¬n<k+1),ih]
 have h1:=key S.N (Nat.le_refl _);rw[if_pos hn]at h1;have e2:jC S' S.N=S'.yc:=by unfold jC Spa.yc;rw[hN]
 rw[e2]at h1;exact h1
theorem zd7 {S:Spa} {R:List Nat} {p:Page} (h:Good S (p.2.1++R)) (ht:3<=p.1.toNat) (hk:(p.2.1.length:Int)<=S.room 0 / 4) (hd:(p.2.2.size:Int)<=S.room p.2.1.length) (hfree:S.sup.pages.length<S.z7):
  (S.put p).2.2=0/\vT S (S.put p).1 p (S.put p).2.1/\Good (S.put p).1 ((S.put p).2.1::R):=by
 have hdim:=h.dims;have hN:=hdim.n;have hsz:=hdim.size;have hroom:=hdim.room;have hr0:S.room 0=S.sup.size-18:=by unfold Spa.room;rw[hroom,if_neg (by omega)];omega
 have hrk:S.room p.2.1.length=S.sup.size-18-4*p.2.1.length:=by unfold Spa.room;rw[hroom,if_neg (by omega)];omega
 obtain⟨t1,t2,t3,t4,t5⟩:=zj0 h (by omega);obtain⟨f1,f2,f3⟩:=zV.1 t3;have hnow:=h.ok.now;have eN:S.takeN=S.zF:=by unfold Spa.takeN;rw[if_pos (by omega)]
 have eE:S.yW=0:=by unfold Spa.yW;rw[if_pos (by omega)]
 have eL:S.yX=S.now.set S.zF 1:=by unfold Spa.yX;rw[if_pos (by omega)]
 have hku:∀ k∈p.2.1,zO S.sup.pages S.now k=true:=fun k hk=>h.well.root k (mem_append_left _ hk);have hE0:S.jU p=0:=by
  unfold Spa.jU;rw[if_neg,if_neg,if_neg,if_neg]
  ·omega
  ·rintro(e|e)<;>omega
  ·rintro⟨k,hk,e⟩;exact(qq h (hku k hk)).2.1 e
  ·rintro(e|e|⟨k,hk,e⟩)
   ·omega
   ·omega
   ·rw[(qq h (hku k hk)).1]at e;cases e
 have hpl:(pgB p).length=2+(4*p.2.1.length+p.2.2.size):=by simp[pgB,zy,xx,zP]
 have hdz:=h.ok.size;have hdb:=h.ok.blocks;have hbl:=hdim.blocks;obtain⟨z,hz⟩:∃ z:Nat,S.sup.size=(z:Int):=⟨S.sup.size.toNat,by omega⟩;have hfit:(pgB p).length+16<=z:=by omega
 have hBp:(B (mkB (pgB p))).length=(pgB p).length:=by rw[yV]
 have hputR:xy S.dev.size (S.frame p)=(yB z (S.frame p),0):=by
  unfold xy;rw[<- hdz,if_neg (by rw[hroom];omega)];rw[if_neg (by show ¬(((B (mkB (pgB p))).length:Int)>_);rw[hBp,hroom];omega),hz];rfl
 have hbl2:(yB z (S.frame p)).length=z:=kB (by show(B (mkB (pgB p))).length+16<=z;rw[hBp];exact hfit);have hws:(((mkB (yB z (S.frame p))).size:Nat):Int)=S.dev.size:=by rw[xb,hbl2,<- hz,hdz]
 have hwf:ym S.dev S.zF (S.frame p)=S.dev.write S.zF (mkB (yB z (S.frame p))):=by
  unfold ym;rw[hputR,if_neg (by simp)]
 have hk2:0<=(S.zF:Int)/\(S.zF:Int)<S.dev.blocks:=by omega
 have hfz:=h.fuse;obtain⟨q1,q2,q3⟩:=vG h.dev hk2 hws hfz;have hwe:(S.dev.write S.zF (mkB (yB z (S.frame p)))).2=0:=(qe h.dev hk2 hws (by omega) hk2).1;have eput:S.put p=({ S with now:=S.now.set S.zF 1,dev:=(S.dev.write S.zF (mkB (yB z (S.frame p)))).1 },S.zF,0):=by
  unfold Spa.put;rw[if_neg (by rw[hE0];simp),if_neg (by rw[eE];simp),eN,eL,hwf,if_neg (by rw[hwe];simp)]
 rw[eput];dsimp only;have hpg:∀ k,k<S.N->Spa.page { S with now:=S.now.set S.zF 1,dev:=(S.dev.write S.zF (mkB (yB z (S.frame p)))).1 } k=if k=S.zF then (p,0) else S.page k:=by
  intro k hkN;unfold Spa.page;dsimp only;have hrw:=(qe h.dev hk2 hws (by omega) (j:=(k:Int)) (by omega)).2;show qd S.N (B ((S.dev.write S.zF (mkB (yB z (S.frame p)))).1.read k).1)=_;rw[hrw]
  by_cases e:k=S.zF
  ·subst e;rw[if_pos rfl,if_pos rfl,yV];have hg:=h.gen;refine zjL (by rw[<- hz];exact hroom) (by omega) (by omega) hfit (by omega) ht (fun n hn=>?_) hN.2;obtain⟨a1,a2,a3⟩:=zT.1 (hku n hn);exact⟨a1,h.well.lt (hku n hn)⟩
  ·rw[if_neg (by omega),if_neg e]
 have hdim2:=jW S.dev S.zF (mkB (yB z (S.frame p)));have hwell:yb S.N S.sup.pages (Spa.page { S with now:=S.now.set S.zF 1,dev:=(S.dev.write S.zF (mkB (yB z (S.frame p)))).1 }) (S.now.set S.zF 1) (S.zF::R):=by
  refine yb.put (ks:=p.2.1) h.well t2 t1 t5 f1 ?_ ?_ (fun k hk hkN=>?_)
  ·rw[hpg _ t1,if_pos rfl]
  ·unfold yu;rw[hpg _ t1,if_pos rfl]
  ·rw[hpg k hkN,if_neg hk]
 refine⟨rfl,⟨t2,t1,t5,t3,rfl,rfl,rfl,rfl,rfl,by rw[hpg _ t1,if_pos rfl],fun k hk hkN=>by rw[hpg k hkN,if_neg hk],q3,?_,fun k h0 hkN hne=>by
  show((S.dev.write S.zF (mkB (yB z (S.frame p)))).1.read k).1=_
  rw[(qe h.dev hk2 hws (by omega) (j:=k) (by omega)).2,if_neg hne],⟨hdim2.1,hdim2.2.1⟩⟩,⟨⟨?_,?_,h.ok.fits,h.ok.held,?_,h.ok.mark⟩,q1,q2,h.gen,hwell⟩⟩
 ·refine zj1 t1 t2 t3 t4 rfl (fun j hj=>?_);rw[Bool.eq_iff_iff,zV];dsimp only;rw[yp]
  by_cases e:j=S.zF
  ·subst e;rw[if_pos ⟨rfl,by omega⟩,if_pos rfl];simp
  ·rw[if_neg (fun e'=>e e'.1.symm),if_neg e,zV]
 ·exact hdz.trans hdim2.1.symm
 ·exact hdb.trans hdim2.2.1.symm
 ·show(S.now.set S.zF 1).length=_;rw[length_set];exact hnow
end V
/- Spaces that are well:Share,Drop,Audit. -/
namespace V
open Go Go.Proofs Go.RowKit Crc
theorem Good.kE {S:Spa} {R R':List Nat} {c:List Nat} (h:Good S R) (hl:c.length=S.now.length) (hw:yb S.N S.sup.pages S.page c R'):Good { S with now:=c } R':=
 ⟨⟨h.ok.size,h.ok.blocks,h.ok.fits,h.ok.held,hl.trans h.ok.now,h.ok.mark⟩,h.dev,h.fuse,h.gen,hw⟩
theorem zj2 {S:Spa} {R:List Nat} {n:Nat} (h:Good S R) (hn:zO S.sup.pages S.now n=true) (h6:S.now.getD n 0<65535):(S.share n).2=0/\Good (S.share n).1 (n::R)/\(S.share n).1={ S with now:=S.now.set n (S.now.getD n 0+1) }:=by
 obtain⟨h1,h2,h3⟩:=qq h hn;have ha:=zbE h.well hn;have e1:zac S.now n=0:=by unfold zac;rw[if_pos ha,if_neg (by omega)]
 have e2:zad S.now n=S.now.set n (S.now.getD n 0+1):=by unfold zad;rw[if_pos e1]
 unfold Spa.share;rw[if_neg (by rw[h1];simp),e1,e2];exact⟨rfl,h.kE (by simp) (h.well.share hn),rfl⟩
theorem zk5 {S:Spa} {R:List Nat} {n:Nat} (h:Good S (n::R)):∃ c',Drp S.asked S.page S.now [n] c' 0/\Good { S with now:=c' } R/\c'.length=S.now.length/\∀ k,c'.getD k 0<=S.now.getD k 0:=by
 obtain⟨c',h1,h2,h3,h4⟩:=yb.drop (N:=S.N) (ps:=S.sup.pages) (pg:=S.page) (ask:=S.asked) (fun n a1 a2 a3=>v8.2 ⟨a1,a2,a3⟩) S.now.sum [n] (Nat.le_refl _) (R:=R) h.well;exact⟨c',h1,h.kE h3 h2,h3,h4⟩
theorem zf3 {f g:Nat->Nat} {N:Nat} (h:∀ m,m<N->f m=g m):((List.range N).map f).sum=((List.range N).map g).sum:=by
 congr 1;exact map_congr_left (fun m hm=>h m (mem_range.1 hm))
theorem zcH:∀ N:Nat,((List.range N).map fun _=>0).sum=0
 |0=>rfl
 |N+1=>by
  rw[range_succ,map_append,List.sum_append,zcH N];rfl
end V
/- Spaces that are well:commit,Format. -/
namespace V
open Go Go.Proofs Go.RowKit Crc
structure vj (d:Dev):Prop where
 ok:d.Ok
 fuse:d.fuse=-1
theorem Dev.Ok.facts {d:Dev} (h:d.Ok):∃ z N:Nat,d.size=(z:Int)/\d.blocks=(N:Int)/\zH d.size=(z:Int)-16/\128<=z/\z<=4096/\8<=N/\N<=4096/\zH d.size=((2*zM d.size:Nat):Int):=by
 obtain⟨g1,g2,g3,g4,g5⟩:=qn h.geo;obtain⟨h8,_⟩:=zd2 h.geo;have h4:=zd1 h8;exact⟨d.size.toNat,d.blocks.toNat,by omega,by omega,by omega,by omega,by omega,by omega,by omega,h4⟩
theorem zdz {d:Dev} (h:vj d) {k:Nat} {f:Fra} (hk:(k:Int)<d.blocks) (hf:((B f.2.2).length:Int)<=zH d.size):
  (ym d k f).2=0/\vj (ym d k f).1/\(∀ j:Int,0<=j/\j<d.blocks->((ym d k f).1.read j).1=if j=k then mkB (yB d.size.toNat f) else (d.read j).1):=by
 obtain⟨z,N,e1,e2,e3,e4,e5,e6,e7,e8⟩:=h.ok.facts;have hputR:xy d.size f=(yB z f,0):=by
  unfold xy;rw[if_neg (by omega),if_neg (by omega),e1];rfl
 have hl:(yB z f).length=z:=kB (by omega);have hws:(((mkB (yB z f)).size:Nat):Int)=d.size:=by rw[xb,hl,e1]
 have hwf:ym d k f=d.write k (mkB (yB z f)):=by
  unfold ym;rw[hputR,if_neg (by simp)]
 have hk2:0<=(k:Int)/\(k:Int)<d.blocks:=by omega
 obtain⟨q1,q2,q3⟩:=vG h.ok hk2 hws h.fuse;rw[hwf];have hez:d.size.toNat=z:=by omega
 rw[hez];exact⟨(qe h.ok hk2 hws (by rw[h.fuse];decide) hk2).1,⟨q1,q2⟩,fun j hj=>(qe h.ok hk2 hws (by rw[h.fuse];decide) hj).2⟩
theorem uw {d:Dev} (h:vj d):d.flush.2=0/\vj d.flush.1/\d.flush.1.pen=[]/\∀ j:Int,(d.flush.1.read j).1=(d.read j).1:=by
 have hok:=h.ok;have hb:=hok.burnt;have hf:max (-1) (d.fuse-1)=-1:=by rw[h.fuse];decide
 unfold Dev.flush;rw[if_neg (by rw[h.fuse];decide)];refine⟨rfl,⟨⟨hok.geo,?_,zcr _ _ hok.each (fun p hp=>(hok.pend p hp).2.2),(fun p hp=>by cases hp),hb.fuse⟩,hf⟩,rfl,fun j=>rfl⟩;show(((d.pen.foldl Go.Proofs.YtplgodmmmppmeaaGreat.V.put d.dur).length:Nat):Int)=d.blocks;rw[zab];exact hok.len
theorem zbF:∀ (l:List (Nat×Fra)) (d:Dev),vj d->(∀ p∈l,(p.1:Int)<d.blocks/\((B p.2.2.2).length:Int)<=zH d.size)->
  (wrL d l).2=0/\vj (wrL d l).1/\(∀ j:Int,0<=j/\j<d.blocks->(∀ p∈l,(p.1:Int)≠j)->((wrL d l).1.read j).1=(d.read j).1)
 |[],d,h,_=>⟨rfl,h,fun _ _ _=>rfl⟩
 |kf::r,d,h,hl=>by
  obtain⟨h1,h2⟩:=hl kf mem_cons_self;obtain⟨g1,g2,g3⟩:=zdz h h1 h2;obtain⟨d1,d2,d3⟩:=uv d kf.1 kf.2;obtain⟨k1,k2,k3⟩:=zbF r (ym d kf.1 kf.2).1 g2 (fun p hp=>by rw[d1,d2];exact hl p (mem_cons_of_mem _ hp));unfold wrL;rw[if_neg (fun hh=>hh g1)];refine⟨k1,k2,fun j hj hno=>?_⟩;rw[k3 j (by rw[d2];exact hj) (fun p hp=>hno p (mem_cons_of_mem _ hp)),g3 j hj,if_neg (fun e=>hno kf mem_cons_self e.symm)]
theorem zf4 (l:List Nat) (per i:Nat):(zc5 l per i).length<=2*per:=by
 unfold zc5;have:∀ l:List Nat,(l.flatMap (le 2)).length=2*l.length:=by
  intro l
  induction l with
  |nil=>rfl
  |cons a t ih=>rw[flatMap_cons,length_append,ih,zy,length_cons];omega
 rw[this,length_take];omega
theorem ziz {d:Dev} (h:vj d) {c:List Nat} {s:Sup} {slot:Int} (hchk:chk s=0) (hsz:s.size=d.size) (hps:∀ p∈s.pages,2<=p/\(p:Int)<d.blocks) (hslot:slot=0\/slot=1):
  (yS d c s slot).2=0/\vj (yS d c s slot).1/\(yS d c s slot).1.pen=[]/\(∀ j:Int,2<=j/\j<d.blocks->(∀ p∈s.pages,(p:Int)≠j)->((yS d c s slot).1.read j).1=(d.read j).1):=by
 obtain⟨z,N,e1,e2,e3,e4,e5,e6,e7,e8⟩:=h.ok.facts;have hL:∀ p∈xA s.gen s.pages (zW c (zM d.size)),p.1∈s.pages/\((B p.2.2.2).length:Int)<=zH d.size:=by
  intro p hp;unfold xA at hp;obtain⟨q,hq,rfl⟩:=mem_map.1 hp;have h1:=(List.of_mem_zip hq).1;have h2:=(List.of_mem_zip hq).2;refine⟨h1,?_⟩;unfold zW at h2;obtain⟨i,_,hi⟩:=mem_map.1 h2;show((B q.2).length:Int)<=_;rw[<- hi,qo];have:=zf4 c (zM d.size) i;omega
 obtain⟨w1,w2,w3⟩:=zbF (xA s.gen s.pages (zW c (zM d.size))) d h (fun p hp=>⟨(hps _ (hL p hp).1).2,(hL p hp).2⟩);obtain⟨dm1,dm2,dm3⟩:=zc8 (xA s.gen s.pages (zW c (zM d.size))) d;obtain⟨f1,f2,f3,f4⟩:=uw w2;have fd:=ua (wrL d (xA s.gen s.pages (zW c (zM d.size)))).1;unfold yS;generalize (wrL d (xA s.gen s.pages (zW c (zM d.size))))=r at *;have hp0:(xI s).2=0:=by rw[kT hchk]
 have hpl:=(zdu hchk).1;have hs2:((((mkB (xI s).1).size:Nat)):Int)=r.1.flush.1.size:=by rw[xb,hpl,fd.1,dm1,hsz]
 have hsl:0<=slot/\slot<r.1.flush.1.blocks:=by rw[fd.2.1,dm2];omega
 obtain⟨q1,q2,q3⟩:=vG f2.ok hsl hs2 f2.fuse;have hrw:=fun(j:Int) (hj:0<=j/\j<r.1.flush.1.blocks)=>qe f2.ok hsl hs2 (by rw[f2.fuse];decide) (j:=j) hj;have hw0:=(hrw slot hsl).1;have hwd:=jW r.1.flush.1 slot (mkB (xI s).1);obtain⟨y1,y2,y3,y4⟩:=uw (d:=(r.1.flush.1.write slot (mkB (xI s).1)).1) ⟨q1,q2⟩;rw[if_neg (fun hh=>hh w1),if_neg (fun hh=>hh f1),if_neg (fun hh=>hh hp0),if_neg (fun hh=>hh hw0)];refine⟨y1,y2,y3,fun j hj hno=>?_⟩;rw[y4 j,(hrw j (by rw[fd.2.1,dm2];omega)).2,if_neg (by omega),f4 j,w3 j (by omega) (fun p hp=>hno p.1 (hL p hp).1)]
theorem zcI {size:Int} {N:Nat} (h:zZ size N=true):kS size N=((zJ size N:Nat):Int):=by
 obtain⟨h8,n,hn,h1,h2⟩:=zd2 h;obtain⟨hp1,hp2,_⟩:=kj h8;unfold kS zJ yo;rw[if_pos h,zd1 h8];rw[show(2:Int)*(N:Int)+((2*zM size:Nat):Int)-1=((2*N+2*zM size-1:Nat):Int) by omega,<- Int.natCast_ediv];congr 1;rw[<- Nat.div_div_eq_div_mul];congr 1;omega
theorem zpo {size:Int} {N:Nat} (h:zZ size N=true):chk (xl size N)=if 14+4*((zJ size N:Nat):Int)>zH size then 3 else 0:=by
 have hn:=za7 h;have hl:(xl size N).pages.length=zJ size N:=kF _;have hget:∀ j,j<zJ size N->(xl size N).pages.getD j 0=j+2:=fun j hj=>by
  show(xJ (zJ size N)).getD j 0=_;unfold xJ;simp[getD_eq_getElem?_getD,hj]
 rw[zhh]
 ·rw[hl];rfl
 ·exact⟨h,(show(1:Nat)≠0 by decide),.inl rfl,by rw[hl];exact(zcI h).symm⟩
 ·intro j hj;rw[hl]at hj;refine⟨?_,?_,?_⟩
  ·rw[hget j hj];unfold vZ;rw[decide_eq_true];exact⟨by omega,by show((j+2:Nat):Int)<(N:Int);omega⟩
  ·rw[hget j hj];show j+2≠0;omega
  ·rw[hget j hj];intro hm;have hm:j+2∈(xJ (zJ size N)).take j:=hm;unfold xJ at hm;rw[<- List.map_take,List.take_range]at hm;obtain⟨i,hi,e⟩:=mem_map.1 hm;have:=mem_range.1 hi;omega
theorem ziA {d:Dev} (h:vj d) (hchk:chk (xl d.size d.blocks.toNat)=0):(yC d).2=0/\Good (qz d) []/\(qz d).dev.pen=[]:=by
 obtain⟨z,N,e1,e2,e3,e4,e5,e6,e7,e8⟩:=h.ok.facts;have hN:d.blocks.toNat=N:=by omega
 have hg:zZ d.size (N:Int)=true:=by rw[<- e2];exact h.ok.geo
 obtain⟨n1,n2,n3⟩:=za7 hg;rw[hN]at hchk;have hz:(((yH d.size.toNat).size:Nat):Int)=d.size:=by rw[zbv];omega
 have h1:0<=(1:Int)/\(1:Int)<d.blocks:=by omega
 obtain⟨q1,q2,q3⟩:=vG h.ok h1 hz h.fuse;have hw0:=(qe h.ok h1 hz (by rw[h.fuse];decide) h1).1;have hwd:=jW d 1 (yH d.size.toNat);have hpages:∀ p∈xJ (zJ d.size N),2<=p/\p<N:=fun p hp=>by
  unfold xJ at hp;obtain⟨i,hi,rfl⟩:=mem_map.1 hp;have:=mem_range.1 hi;omega
 obtain⟨c1,c2,c3,c4⟩:=ziz (d:=(d.write 1 (yH d.size.toNat)).1) ⟨q1,q2⟩ (c:=yj N (zJ d.size N)) (s:=xl d.size N) (slot:=0) hchk hwd.1.symm (fun p hp=>by have:=hpages p hp;rw[hwd.2.1];omega) (.inl rfl);have eD:yC d=yS (d.write 1 (yH d.size.toNat)).1 (yj N (zJ d.size N)) (xl d.size N) 0:=by
  unfold yC;rw[hN,if_neg (fun hh=>hh hchk),if_neg (fun hh=>hh hw0)]
 have dm:=zaL (d.write 1 (yH d.size.toNat)).1 (yj N (zJ d.size N)) (xl d.size N) 0;have eS:qz d=⟨(yC d).1,xl d.size N,0,yj N (zJ d.size N),yj N (zJ d.size N),none⟩:=by unfold qz;rw[hN]
 rw[eS,eD];refine⟨c1,⟨⟨(dm.1.trans hwd.1).symm,?_,zcG hg,?_,?_,fun l hl=>by cases hl⟩,c2.ok,c2.fuse,by show 1<_;decide,?_⟩,c3⟩
 ·show(N:Int)=_;rw[dm.2,hwd.2.1,e2]
 ·show(yj N (zJ d.size N)).length=((N:Int)).toNat;rw[jd n1];omega
 ·show(yj N (zJ d.size N)).length=((N:Int)).toNat;rw[jd n1];omega
 ·show yb ((N:Int)).toNat (xJ (zJ d.size N)) _ (yj N (zJ d.size N)) [];have hget:=fun k=>kO (N:=N) (np:=zJ d.size N) (k:=k) n1;have hnone:∀ k,zO (xJ (zJ d.size N)) (yj N (zJ d.size N)) k=false:=fun k=>by
   cases hq:zO (xJ (zJ d.size N)) (yj N (zJ d.size N)) k with
   |false=>rfl
   |true=>
    obtain⟨a1,a2,a3⟩:=zT.1 hq;rw[hget k]at a3;split at a3
    ·exfalso
     apply a2;unfold xJ;exact mem_map.2 ⟨k-2,mem_range.2 (by omega),by omega⟩
    ·omega
  refine⟨by rw[jd n1];omega,by omega,⟨by rw[hget,if_pos (by omega)],by rw[hget,if_pos (by omega)]⟩,fun p hp=>?_,by simp,(fun n hn=>by rw[hnone]at hn;cases hn),⟨fun _=>0,(fun n hn=>by rw[hnone]at hn;cases hn)⟩,fun n h2 hp=>?_⟩
  ·have:=hpages p hp;refine⟨this.1,by omega,?_⟩;unfold xJ at hp;obtain⟨i,hi,rfl⟩:=mem_map.1 hp;have:=mem_range.1 hi;rw[hget,if_pos (by omega)]
  ·have hz0:vi ((N:Int)).toNat (xJ (zJ d.size N)) (Spa.page ⟨(yS (d.write 1 (yH d.size.toNat)).1 (yj N (zJ d.size N)) (xl d.size N) 0).1,xl d.size N,0,yj N (zJ d.size N),yj N (zJ d.size N),none⟩) (yj N (zJ d.size N)) n=0:=by
    unfold vi;rw[zf3 (g:=fun _=>0) (fun m _=>by unfold xR;rw[hnone];rfl)];exact zcH _
   have e0:(yj N (zJ d.size N)).getD n 0=0:=by
    rw[hget,if_neg];intro hlt;apply hp;show n∈xJ (zJ d.size N);unfold xJ;exact mem_map.2 ⟨n-2,mem_range.2 (by omega),by omega⟩
   rw[e0,List.count_nil,Nat.zero_add];exact hz0.symm
end V
/- Spaces:several blocks taken,and what Commit comes to:plain. -/
namespace V
open Go Go.Proofs Go.RowKit Crc
theorem zne (S:Spa):S.yc.Nodup:=List.Nodup.sublist List.filter_sublist List.nodup_range
namespace Spa
end Spa
namespace Spa
end Spa
structure zqn (S:Spa):Prop where
 at_:∀ p∈S.sup.pages,2<=p/\p<S.N/\S.now.getD p 0=1
 nodup:S.sup.pages.Nodup
 len:S.sup.pages.length=yo S.N (zM S.sup.size)
end V
/- Contracts of the package space:Commit. -/
namespace V
open Go Go.Proofs Go.RowKit Crc
def zj3:List Value->Nat->List Value->List Value
 |cs,_,[]=>cs
 |cs,k,v::r=>zj3 (cs.set k v) (k+1) r
theorem zdA {w:World} {b:Nat} {cs:List Value} {t:TypeId} (h:Blk w b cs t) {o:Nat}:∀ (vs:List Value) (i:Nat),o+i+vs.length<=cs.length->(∀ v∈vs,v.oneCell'=true)->Storable w ⟨b,o,none⟩ i vs
 |[],_,_,_=>trivial
 |v::r,i,hl,ho=>by
  simp only [length_cons]at hl;refine⟨ho v mem_cons_self,?_,?_,zdA h r (i+1) (by omega) (fun u hu=>ho u (mem_cons_of_mem _ hu))⟩
  ·rw[zx,h.cell];exact⟨_,List.getElem?_eq_getElem (by omega)⟩
  ·rw[zx];exact h.frozen _
theorem zdB {b o:Nat} {t:TypeId}:∀ (vs:List Value) (i:Nat) (w:World) (cs:List Value),Blk w b cs t->Blk (setCells w ⟨b,o,none⟩ i vs) b (zj3 cs (o+i) vs) t/\Only (fun k=>k=b) w (setCells w ⟨b,o,none⟩ i vs)
 |[],i,w,cs,h=>⟨h,Only.refl _ _⟩
 |v::r,i,w,cs,h=>by
  simp only [setCells,zx];have h2:=h.set (o+i) v;have o2:Only (fun k=>k=b) w (w.setCell ⟨b,o+i,none⟩ v):=Only.z8 (yP w b (o+i) v) (fun j hj=>.inl (by injection hj with hj;exact hj.symm));obtain⟨g1,g2⟩:=zdB (o:=o) r (i+1) _ _ h2;exact⟨g1,Only.trans o2 g2 (fun j hj=>.inl hj)⟩
theorem zpp {w:World} {b n:Nat} (o:Nat) {a:Addr} {cs vs:List Value} {t:TypeId} {us:Array Value} {K:WP} (h:Blk w b cs t) (ha:a=⟨b,o,none⟩) (hl:o+vs.length<=cs.length) (hv:∀ v∈vs,v.oneCell'=true) (hu:us.size=n)
  (hK:∀ w',Blk w' b (zj3 cs o vs) t->Only (fun k=>k=b) w w'->K w'):(zc (us.size=n)<|zt a vs K) w:=by
 subst ha;obtain⟨g1,g2⟩:=zdB (o:=o) vs 0 w cs h;exact⟨hu,zdA h vs 0 (by omega) hv,hK _ g1 g2⟩
theorem stE {w:World} {b o:Nat} {a:Addr} {cs:List Value} {t:TypeId} {v:Value} {K:WP} (h:Blk w b cs t) (ha:a=⟨b,o,none⟩) (ho:o<cs.length) (hK:∀ w',Blk w' b (cs.set o v) t->Only (fun k=>k=b) w w'->K w'):stW a v K w:=by
 subst ha;exact zU h ho (hK _ (h.set o v) (Only.z8 (yP w b o v) (fun j hj=>.inl (by injection hj with hj;exact hj.symm))))
variable {w w':World} {b db:Nat} {S:Spa} {F Fd:Nat->Prop} {x:SLC} {hb hr nb nr:Nat} {m:MkL}
end V
/- Contracts of the package space:Open,Root. -/
namespace V
open Go Go.Proofs Go.RowKit Crc
end V
/- Spaces that are well,with what was committed and marked:plain. -/
namespace V
open Go Go.Proofs Go.RowKit Crc
theorem zeX {S S':Spa} (hN:S'.N=S.N) (h:∀ n,S.yx n=true->S'.yx n=true):S.z7<=S'.z7:=by
 unfold Spa.z7 Spa.yc;rw[<- List.countP_eq_length_filter,<- List.countP_eq_length_filter,hN];refine List.countP_mono_left (fun n _ hn=>?_);rw[Bool.and_eq_true]at hn ⊢;exact⟨hn.1,h n hn.2⟩
theorem zat:∀ {a b:List Nat},a.Nodup->(∀ x∈a,x∈b)->a.length<=b.length
 |[],b,_,_=>Nat.zero_le _
 |x::r,b,hn,h=>by
  obtain⟨hx,hr⟩:=nodup_cons.1 hn;have hb:=h x mem_cons_self;have:=zat (a:=r) (b:=b.erase x) hr (fun y hy=>by
   have hyx:y≠x:=fun e=>hx (e▸hy)
   exact(List.mem_erase_of_ne hyx).2 (h y (mem_cons_of_mem _ hy)))
  rw[List.length_erase_of_mem hb]at this;have:=List.length_pos_of_mem hb;rw[length_cons];omega
theorem zf5:∀ (l:List (Nat×Fra)) (d:Dev),vj d->(∀ p∈l,(p.1:Int)<d.blocks/\((B p.2.2.2).length:Int)<=zH d.size)->(l.map (·.1)).Nodup->
  ∀ p∈l,((wrL d l).1.read (p.1:Int)).1=mkB (yB d.size.toNat p.2)
 |[],d,_,_,_,p,hp=>by cases hp
 |kf::r,d,h,hl,hnd,p,hp=>by
  obtain⟨h1,h2⟩:=hl kf mem_cons_self;obtain⟨g1,g2,g3⟩:=zdz h h1 h2;obtain⟨d1,d2,d3⟩:=uv d kf.1 kf.2;have hr:=fun p hp=>hl p (mem_cons_of_mem kf hp);have hr':∀ p∈r,(p.1:Int)<(ym d kf.1 kf.2).1.blocks/\((B p.2.2.2).length:Int)<=zH (ym d kf.1 kf.2).1.size:=fun p hp=>by rw[d1,d2];exact hr p hp
  obtain⟨k1,k2,k3⟩:=zbF r _ g2 hr';rw[map_cons,nodup_cons]at hnd;unfold wrL;rw[if_neg (fun hh=>hh g1)];rcases mem_cons.1 hp with rfl|hp
  ·rw[k3 (p.1:Int) (by rw[d2];exact⟨by omega,h1⟩) (fun q hq e=>hnd.1 (mem_map.2 ⟨q,hq,by omega⟩)),g3 _ ⟨by omega,h1⟩,if_pos rfl]
  ·have:=zf5 r _ g2 hr' hnd.2 p hp;rw[this,d1]
theorem znf {gen:Nat} {ps:List Nat} {l:List ByteArray} (h:ps.length=l.length):(xA gen ps l).map (·.1)=ps:=by
 unfold xA;rw[map_map];have:(fun p:Nat×ByteArray=>p.1)=Prod.fst:=rfl;show(ps.zip l).map Prod.fst=ps;rw[List.map_fst_zip (by omega)]
theorem zhw {d:Dev} (h:vj d) {c:List Nat} {s:Sup} {slot:Int} (hchk:chk s=0) (hsz:s.size=d.size) (hps:∀ p∈s.pages,2<=p/\(p:Int)<d.blocks) (hnd:s.pages.Nodup) (hslot:slot=0\/slot=1)
  (hlen:s.pages.length=yo c.length (zM d.size)):
  ((yS d c s slot).1.read slot).1=mkB (xI s).1/\(∀ j:Int,0<=j->j<d.blocks->j≠slot->(∀ p∈s.pages,(p:Int)≠j)->((yS d c s slot).1.read j).1=(d.read j).1)/\
   ∀ i,i<s.pages.length->((yS d c s slot).1.read ((s.pages.getD i 0:Nat):Int)).1=mkB (yB d.size.toNat ((2:UInt8),s.gen,(zW c (zM d.size)).getD i ByteArray.empty)):=by
 obtain⟨z,N,e1,e2,e3,e4,e5,e6,e7,e8⟩:=h.ok.facts;have hPl:=zb1 c (zM d.size);have hL:∀ p∈xA s.gen s.pages (zW c (zM d.size)),p.1∈s.pages/\((B p.2.2.2).length:Int)<=zH d.size:=by
  intro p hp;unfold xA at hp;obtain⟨q,hq,rfl⟩:=mem_map.1 hp;have h1:=(List.of_mem_zip hq).1;have h2:=(List.of_mem_zip hq).2;refine⟨h1,?_⟩;unfold zW at h2;obtain⟨i,_,hi⟩:=mem_map.1 h2;show((B q.2).length:Int)<=_;rw[<- hi,qo];have:=zf4 c (zM d.size) i;omega
 have hL':∀ p∈xA s.gen s.pages (zW c (zM d.size)),(p.1:Int)<d.blocks/\((B p.2.2.2).length:Int)<=zH d.size:=fun p hp=>⟨(hps _ (hL p hp).1).2,(hL p hp).2⟩;obtain⟨w1,w2,w3⟩:=zbF _ d h hL';have w4:=zf5 _ d h hL' (by rw[znf (by omega)];exact hnd);obtain⟨dm1,dm2,dm3⟩:=zc8 (xA s.gen s.pages (zW c (zM d.size))) d;have hget:=fun i (hi:i<s.pages.length)=>zhs (gen:=s.gen) (ps:=s.pages) (l:=zW c (zM d.size)) (by omega) (i:=i) (by omega);obtain⟨f1,f2,f3,f4⟩:=uw w2;have fd:=ua (wrL d (xA s.gen s.pages (zW c (zM d.size)))).1;unfold yS;generalize (xA s.gen s.pages (zW c (zM d.size)))=L at *;generalize hr:(wrL d L)=r at *;have hp0:(xI s).2=0:=by rw[kT hchk]
 have hpl:=(zdu hchk).1;have hs2:((((mkB (xI s).1).size:Nat)):Int)=r.1.flush.1.size:=by rw[xb,hpl,fd.1,dm1,hsz]
 have hsl:0<=slot/\slot<r.1.flush.1.blocks:=by rw[fd.2.1,dm2];omega
 obtain⟨q1,q2,q3⟩:=vG f2.ok hsl hs2 f2.fuse;have hrw:=fun(j:Int) (hj:0<=j/\j<r.1.flush.1.blocks)=>qe f2.ok hsl hs2 (by rw[f2.fuse];decide) (j:=j) hj;have hw0:=(hrw slot hsl).1;obtain⟨y1,y2,y3,y4⟩:=uw (d:=(r.1.flush.1.write slot (mkB (xI s).1)).1) ⟨q1,q2⟩;rw[if_neg (fun hh=>hh w1),if_neg (fun hh=>hh f1),if_neg (fun hh=>hh hp0),if_neg (fun hh=>hh hw0)];refine⟨?_,fun j hj hjb hjs hno=>?_,fun i hi=>?_⟩
 ·rw[y4,(hrw slot hsl).2,if_pos rfl]
 ·rw[y4 j,(hrw j (by rw[fd.2.1,dm2];omega)).2,if_neg hjs,f4 j,w3 j ⟨hj,hjb⟩ (fun p hp=>hno p.1 (hL p hp).1)]
 ·have hg:=hget i hi;have hm:=mem_of_getElem? hg;have h2:=hps _ (hL _ hm).1;dsimp only at h2;rw[y4,(hrw _ (by rw[fd.2.1,dm2];omega)).2,if_neg (by omega),f4,w4 _ hm]
structure zhx (S:Spa):Prop where
 slot:S.slot=0\/S.slot=1
 chk:chk S.sup=0
 cur:kN (B (S.dev.read S.slot).1)=(S.sup,0)
 old:(kN (B (S.dev.read (other S.slot)).1)).2≠0\/(kN (B (S.dev.read (other S.slot)).1)).1.gen<S.sup.gen
 pgs:∀ i,i<S.sup.pages.length->(S.dev.read ((S.sup.pages.getD i 0:Nat):Int)).1=mkB (yB S.dev.size.toNat ((2:UInt8),S.sup.gen,(zW S.held (zM S.dev.size)).getD i ByteArray.empty))
 fit:∀ c∈S.held,c<65536
def MW (N:Nat) (ps:List Nat) (pg:PgF):Option (List Nat)->Option (List Nat)->Prop
 |none,none=>True
 |some l,some m=>yb N ps pg l m
 |_,_=>False
structure Great (S:Spa) (R H:List Nat) (M:Option (List Nat)):Prop where
 good:Good S R
 heldOK:zhx S
 hwell:yb S.N S.sup.pages S.page S.held H
 mwell:MW S.N S.sup.pages S.page S.mark M
 room:S.sup.pages.length<=S.z7
theorem MW.zaf {N:Nat} {ps:List Nat} {pg pg':PgF} {l m:Option (List Nat)} (h:MW N ps pg l m) (ho:∀ n,cnt l n≠0->2<=n->n<N->pg' n=pg n):MW N ps pg' l m:=by
 cases l with
 |none=>cases m with
  |none=>trivial
  |some _=>exact h.elim
 |some l=>cases m with
  |none=>exact h.elim
  |some m=>
   have h:yb N ps pg l m:=h;refine yb.zaf h (fun n hn=>ho n ?_ ?_ (h.lt hn))
   ·have:=(zT.1 hn).2.2;show l.getD n 0≠0;omega
   ·exact(zT.1 hn).1
theorem zhx.znH {S:Spa} {R:List Nat} (h:zhx S) (hg:Good S R):zqn S:=by
 obtain⟨⟨c1,c2,c3,c4⟩,c5,c6⟩:=za3 h.chk;have hN:S.sup.blocks=(S.N:Int):=hg.dims.blocks;have h4:=zcI (size:=S.sup.size) (N:=S.N) (by rw[<- hN];exact c1);rw[hN,h4]at c4;refine⟨hg.well.pgs,?_,by unfold zJ at c4;omega⟩;rw[List.nodup_iff_pairwise_ne,List.pairwise_iff_getElem];intro i j hi hj hij e;apply(c5 j hj).2.2;rw[getD_eq_getElem?_getD,List.getElem?_eq_getElem hj,Option.getD_some,<- e];exact List.mem_take_iff_getElem.2 ⟨i,by omega,rfl⟩
theorem zk6 {S:Spa} {R H:List Nat} {M:Option (List Nat)} {p:Page} (h:Great S (p.2.1++R) H M) (ht:3<=p.1.toNat) (hk:(p.2.1.length:Int)<=S.room 0 / 4) (hd:(p.2.2.size:Int)<=S.room p.2.1.length) (hfree:S.sup.pages.length<S.z7):
  (S.put p).2.2=0/\vT S (S.put p).1 p (S.put p).2.1/\Great (S.put p).1 ((S.put p).2.1::R) H M:=by
 obtain⟨h1,h2,h3⟩:=zd7 h.good ht hk hd hfree;refine⟨h1,h2,?_⟩;generalize (S.put p).1=S' at *;generalize (S.put p).2.1=n at *;have hN:S'.N=S.N:=by unfold Spa.N;rw[h2.sup]
 obtain⟨f1,f2,f3⟩:=zV.1 h2.free;have hb:=h.good.dims.blocks;have hn:=h.good.dims.n;have ho:=h.heldOK;have hslot:∀ j:Int,j=0\/j=1->(S'.dev.read j).1=(S.dev.read j).1:=fun j hj=>h2.read j (by omega) (by omega) (by have:=h2.two;omega);refine⟨h3,⟨?_,?_,?_,?_,?_,?_⟩,?_,?_,?_⟩
 ·rw[h2.slot];exact ho.slot
 ·rw[h2.sup];exact ho.chk
 ·rw[h2.slot,h2.sup,hslot _ ho.slot];exact ho.cur
 ·rw[h2.slot,h2.sup,hslot _ (by unfold other;split<;>simp)];exact ho.old
 ·intro i hi;rw[h2.sup]at hi ⊢;rw[h2.held,h2.dim.1,h2.read _ (by omega) ?_ ?_]
  ·exact ho.pgs i hi
  ·have:=(h.good.well.pgs (S.sup.pages.getD i 0) (by rw[getD_eq_getElem?_getD,List.getElem?_eq_getElem hi];exact getElem_mem _)).2.1;omega
  ·intro e;have e:S.sup.pages.getD i 0=n:=by omega
   apply h2.pgs;rw[<- e,getD_eq_getElem?_getD,List.getElem?_eq_getElem hi];exact getElem_mem _
 ·rw[h2.held];exact ho.fit
 ·rw[hN,h2.sup,h2.held];exact yb.zaf h.hwell (fun m hm=>h2.other m (fun e=>by subst e;have:=(zT.1 hm).2.2;omega) (h.hwell.lt hm))
 ·rw[hN,h2.sup,h2.mark];exact h.mwell.zaf (fun m hm _ hmN=>h2.other m (fun e=>by subst e;exact hm f3) hmN)
 ·have:=h2.yc;have hh:=h.room;rw[h2.sup];unfold Spa.z7 at hfree ⊢;rw[this]at hfree;simp only [length_cons]at hfree;omega
theorem Great.kE {S:Spa} {R R' H:List Nat} {M:Option (List Nat)} {c:List Nat} (h:Great S R H M) (hg:Good { S with now:=c } R') (hr:S.sup.pages.length<=({ S with now:=c }:Spa).z7):Great { S with now:=c } R' H M:=
 ⟨hg,⟨h.heldOK.slot,h.heldOK.chk,h.heldOK.cur,h.heldOK.old,h.heldOK.pgs,h.heldOK.fit⟩,h.hwell,h.mwell,hr⟩
theorem Great.perm {S:Spa} {R R' H:List Nat} {M:Option (List Nat)} (h:Great S R H M) (hp:R.Perm R'):Great S R' H M:=⟨h.good.perm hp,h.heldOK,h.hwell,h.mwell,h.room⟩
end V
/- Spaces that are well:Commit,Format,Mark,Back,Done,Share,Drop:plain. -/
namespace V
open Go Go.Proofs Go.RowKit Crc
theorem zng {size:Int} {N:Nat} (h:zZ size N=true):2*zJ size N+2<=N:=by
 obtain⟨h8,n,hn,h1,h2⟩:=zd2 h;obtain rfl:N=n:=by omega
 obtain⟨hp1,hp2,_⟩:=kj h8;have hx:yo N (zM size)<=(N+55) / 56:=by
  unfold yo;rw[Nat.div_le_iff_le_mul_add_pred (by omega)];have h3:N+55<56*((N+55) / 56+1):=Nat.lt_mul_div_succ _ (by omega);have h4:56*((N+55) / 56)<=zM size*((N+55) / 56):=Nat.mul_le_mul_right _ hp1;omega
 unfold zJ;omega
theorem zk7 (n:Nat):(kN (B (yH n))).2≠0:=by
 intro h;obtain⟨h1,h2⟩:=zpg h;have hc:=zi9 (s:=(kN (B (yH n))).1) (by rw[h1]);rw[kT hc]at h1;injection h1 with h1 _
 have h3:(B (yH n)).getD 0 0=0:=by
  unfold yH;have:∀ k:Nat,(List.replicate k (0:UInt8)).getD 0 0=0:=fun k=>by cases k<;>rfl
  first
   |(rw[qo];exact this _)
   |(rw[yV];exact this _)
 rw[<- h1]at h3;have h4:(yB (kN (B (yH n))).1.size.toNat (vD (kN (B (yH n))).1)).getD 0 0=1:=by
  unfold yB xW kH;rfl
 rw[h4]at h3;cases h3
theorem zag {d:Dev} (h:vj d) (hchk:chk (xl d.size d.blocks.toNat)=0):(yC d).2=0/\Great (qz d) [] [] none/\(qz d).dev.pen=[]:=by
 obtain⟨g1,g2,g3⟩:=ziA h hchk;refine⟨g1,?_,g3⟩;obtain⟨z,N,e1,e2,e3,e4,e5,e6,e7,e8⟩:=h.ok.facts;have hN:d.blocks.toNat=N:=by omega
 have hg:zZ d.size (N:Int)=true:=by rw[<- e2];exact h.ok.geo
 obtain⟨n1,n2,n3⟩:=za7 hg;have n4:=zng hg;rw[hN]at hchk;have hz:(((yH d.size.toNat).size:Nat):Int)=d.size:=by rw[zbv];omega
 have h1:0<=(1:Int)/\(1:Int)<d.blocks:=by omega
 obtain⟨q1,q2,q3⟩:=vG h.ok h1 hz h.fuse;have hw0:=(qe h.ok h1 hz (by rw[h.fuse];decide) h1).1;have hw1:=(qe h.ok h1 hz (by rw[h.fuse];decide) h1).2;have hwd:=jW d 1 (yH d.size.toNat);have hpm:∀ p,p∈xJ (zJ d.size N)↔2<=p/\p<2+zJ d.size N:=fun p=>by
  unfold xJ;constructor
  ·intro hp;obtain⟨i,hi,rfl⟩:=mem_map.1 hp;have:=mem_range.1 hi;omega
  ·intro hp;exact mem_map.2 ⟨p-2,mem_range.2 (by omega),by omega⟩
 have hnd:(xJ (zJ d.size N)).Nodup:=by
  unfold xJ;rw[List.nodup_iff_pairwise_ne,List.pairwise_map];exact List.Pairwise.imp (fun hab e=>by omega) List.pairwise_lt_range
 have hfl:=jd (N:=N) (np:=zJ d.size N) n1;obtain⟨r1,r2,r3⟩:=zhw (d:=(d.write 1 (yH d.size.toNat)).1) ⟨q1,q2⟩ (c:=yj N (zJ d.size N)) (s:=xl d.size N) (slot:=0) hchk hwd.1.symm (fun p hp=>by have:=(hpm p).1 hp;rw[hwd.2.1];omega) hnd (.inl rfl) (by rw[hwd.1,hfl];exact kF _);have eD:yC d=yS (d.write 1 (yH d.size.toNat)).1 (yj N (zJ d.size N)) (xl d.size N) 0:=by
  unfold yC;rw[hN,if_neg (fun hh=>hh hchk),if_neg (fun hh=>hh hw0)]
 have dm:=zaL (d.write 1 (yH d.size.toNat)).1 (yj N (zJ d.size N)) (xl d.size N) 0;have eS:qz d=⟨(yC d).1,xl d.size N,0,yj N (zJ d.size N),yj N (zJ d.size N),none⟩:=by unfold qz;rw[hN]
 rw[eS]at g2 ⊢;refine⟨g2,⟨.inl rfl,hchk,?_,.inl ?_,?_,?_⟩,g2.well,trivial,?_⟩
 ·show kN (B ((yC d).1.read 0).1)=_;rw[eD,r1,yV];exact zm6 (zcG hg) (by rw[kT hchk])
 ·show(kN (B ((yC d).1.read 1).1)).2≠0;rw[eD,r2 1 (by omega) (by rw[hwd.2.1];omega) (by omega) (fun p hp=>by have:=(hpm p).1 hp;omega),hw1,if_pos rfl];exact zk7 _
 ·intro i hi;show((yC d).1.read (((xJ (zJ d.size N)).getD i 0:Nat):Int)).1=mkB (yB (yC d).1.size.toNat ((2:UInt8),1,(zW (yj N (zJ d.size N)) (zM (yC d).1.size)).getD i ByteArray.empty));rw[eD,dm.1];exact r3 i hi
 ·intro c hc;have hc:c∈yj N (zJ d.size N):=hc;unfold yj at hc;rw[mem_append,List.mem_replicate,List.mem_replicate]at hc;omega
 ·show(xJ (zJ d.size N)).length<=List.length _;rw[kF];have:=zat (a:=(List.range (zJ d.size N)).map (·+(2+zJ d.size N))) (b:=Spa.yc ⟨(yC d).1,xl d.size N,0,yj N (zJ d.size N),yj N (zJ d.size N),none⟩) ?_ ?_
  ·rw[length_map,length_range]at this;exact this
  ·rw[List.nodup_iff_pairwise_ne,List.pairwise_map];exact List.Pairwise.imp (fun hab e=>by omega) List.pairwise_lt_range
  ·intro k hk;obtain⟨i,hi,rfl⟩:=mem_map.1 hk;have:=mem_range.1 hi;refine ub.2 ⟨by show i+(2+zJ d.size N)<((N:Int)).toNat;omega,by omega,zV.2 ⟨?_,?_,rfl⟩⟩
   ·show(yj N (zJ d.size N)).getD _ 0=0;rw[kO n1,if_neg (by omega)]
   ·show(yj N (zJ d.size N)).getD _ 0=0;rw[kO n1,if_neg (by omega)]
theorem Great.less {S:Spa} {R R' H:List Nat} {M:Option (List Nat)} {c:List Nat} (h:Great S R H M) (hg:Good { S with now:=c } R') (hle:∀ k,c.getD k 0<=S.now.getD k 0):Great { S with now:=c } R' H M:=by
 refine h.kE hg (Nat.le_trans h.room (zeX rfl fun n hn=>?_));obtain⟨f1,f2,f3⟩:=zV.1 hn;exact zV.2 ⟨by have:=hle n;show c.getD n 0=0;omega,f2,f3⟩
theorem Great.more {S:Spa} {R R' H:List Nat} {M:Option (List Nat)} {n:Nat} (h:Great S R H M) (hu:zO S.sup.pages S.now n=true) (hg:Good { S with now:=S.now.set n (S.now.getD n 0+1) } R'):Great { S with now:=S.now.set n (S.now.getD n 0+1) } R' H M:=by
 refine h.kE hg (Nat.le_trans h.room (zeX rfl fun k hk=>?_));obtain⟨f1,f2,f3⟩:=zV.1 hk;refine zV.2 ⟨?_,f2,f3⟩;show(S.now.set n (S.now.getD n 0+1)).getD k 0=0;have:=(zT.1 hu).2.2;rw[yp,if_neg (fun e=>by rw[e.1]at this;omega)];exact f1
end V
/- Blobs:plain. -/
namespace V
open Go Go.Proofs Go.RowKit Crc
structure Kept (S S':Spa):Prop where
 sup:S'.sup=S.sup
 held:S'.held=S.held
 mark:S'.mark=S.mark
 slot:S'.slot=S.slot
 dim:S'.dev.size=S.dev.size/\S'.dev.blocks=S.dev.blocks
 read:∀ k:Int,0<=k->k<S.N->(k.toNat<2\/S.yx k.toNat=false)->(S'.dev.read k).1=(S.dev.read k).1
structure Puts (S Si:Spa) (R ks:List Nat) (ps:List Page):Prop where
 good:Good Si (ks++R)
 sup:Si.sup=S.sup
 held:Si.held=S.held
 mark:Si.mark=S.mark
 slot:Si.slot=S.slot
 len:ps.length=ks.length
 free:S.yc=ks++Si.yc
 page:∀ j,j<ks.length->Si.page (ks.getD j 0)=(ps.getD j xg,0)
 other:∀ k,k<S.N->k∉ks->Si.page k=S.page k
 now:∀ k,Si.now.getD k 0=if k∈ks then 1 else S.now.getD k 0
 nlen:Si.now.length=S.now.length
 pen:Si.dev.pen.length=S.dev.pen.length+ks.length
 read:∀ k:Int,0<=k->k<S.N->k.toNat∉ks->(Si.dev.read k).1=(S.dev.read k).1
 dim:Si.dev.size=S.dev.size/\Si.dev.blocks=S.dev.blocks
theorem Puts.N {S Si:Spa} {R ks:List Nat} {ps:List Page} (h:Puts S Si R ks ps):Si.N=S.N:=by unfold Spa.N;rw[h.sup]
theorem Puts.nil {S:Spa} {R:List Nat} (h:Good S R):Puts S S R [] []:=⟨h,rfl,rfl,rfl,rfl,rfl,rfl,fun j hj=>absurd hj (Nat.not_lt_zero j),fun _ _ _=>rfl,fun _=>by simp,rfl,rfl,fun _ _ _ _=>rfl,rfl,rfl⟩
theorem Puts.mem {S Si:Spa} {R ks:List Nat} {ps:List Page} (h:Puts S Si R ks ps) {k:Nat} (hk:k∈ks):2<=k/\k<S.N/\S.yx k=true/\k∉S.sup.pages:=by
 have hm:k∈S.yc:=by rw[h.free];exact mem_append_left _ hk
 obtain⟨h1,h2,h3⟩:=ub.1 hm;refine⟨h2,h1,h3,fun hp=>?_⟩;have hpg:=(h.good.well.pgs k (by rw[h.sup];exact hp)).2.2;have hu:=h.good.well.root k (mem_append_left _ hk);have:=(zT.1 hu).2.1;rw[h.sup]at this;exact this hp
theorem Puts.kept {S Si:Spa} {R ks:List Nat} {ps:List Page} (h:Puts S Si R ks ps):Kept S Si:=
 ⟨h.sup,h.held,h.mark,h.slot,h.dim,fun k h0 hk hf=>h.read k h0 hk (fun hm=>by
  obtain⟨a1,a2,a3,a4⟩:=h.mem hm
  rcases hf with hf|hf
  ·omega
  ·rw[hf]at a3;cases a3)⟩
theorem Puts.step {S Si:Spa} {R ks:List Nat} {ps:List Page} (h:Puts S Si R ks ps) {t:UInt8} {d:ByteArray} (ht:3<=t.toNat) (hd:(d.size:Int)<=Si.room 0) (hfree:Si.sup.pages.length<Si.z7):
  (Si.put (t,[],d)).2.2=0/\Puts S (Si.put (t,[],d)).1 R (ks++[(Si.put (t,[],d)).2.1]) (ps++[(t,[],d)]):=by
 have hdim:=h.good.dims;have hsz:=hdim.size;have hr0:Si.room 0=Si.sup.size-18:=by unfold Spa.room;rw[hdim.room,if_neg (by omega)];omega
 obtain⟨h1,h2,h3⟩:=zd7 (p:=(t,[],d)) (R:=ks++R) h.good ht (by show(0:Int)<=_;omega) hd hfree;refine⟨h1,?_⟩;generalize (Si.put (t,[],d)).2.1=n at *;generalize (Si.put (t,[],d)).1=S' at *;have hnk:n∉ks:=fun hk=>by
  have hf:=(zV.1 h2.free).1;rw[h.now n,if_pos hk]at hf;cases hf
 refine⟨h3.perm ?_,h2.sup.trans h.sup,h2.held.trans h.held,h2.mark.trans h.mark,h2.slot.trans h.slot,by simp[h.len],?_,fun j hj=>?_,fun k hk hks=>?_,fun k=>?_,?_,?_,fun k h0 hk hks=>?_,h2.dim.1.trans h.dim.1,h2.dim.2.trans h.dim.2⟩
 ·rw[append_assoc];exact List.perm_middle.symm
 ·rw[h.free,h2.yc,append_assoc,List.singleton_append]
 ·rw[length_append,length_singleton]at hj
  by_cases hjl:j<ks.length
  ·rw[show(ks++[n]).getD j 0=ks.getD j 0 by rw[getD_eq_getElem?_getD,List.getElem?_append_left hjl,<- getD_eq_getElem?_getD],show(ps++[((t,[],d):Page)]:List Page).getD j xg=ps.getD j xg by rw[getD_eq_getElem?_getD,List.getElem?_append_left (by rw[h.len];exact hjl),<- getD_eq_getElem?_getD]];have hmem:ks.getD j 0∈ks:=by rw[getD_eq_getElem?_getD,List.getElem?_eq_getElem hjl];exact getElem_mem hjl
   rw[h2.other _ (fun e=>hnk (e▸hmem)) (by rw[h.N];exact(h.mem hmem).2.1),h.page j hjl]
  ·obtain rfl:j=ks.length:=by omega
   rw[show(ks++[n]).getD ks.length 0=n by simp,show(ps++[((t,[],d):Page)]:List Page).getD ks.length xg=(t,[],d) by rw[<- h.len];simp];exact h2.page
 ·simp only [mem_append,mem_singleton,not_or]at hks;rw[h2.other k hks.2 (by rw[h.N];exact hk),h.other k hk hks.1]
 ·rw[h2.now,yp,h.now k];have hnl:n<Si.now.length:=by have:=h2.lt;rw[h.good.ok.now];exact this
  by_cases hkn:n=k
  ·subst hkn;rw[if_pos ⟨rfl,hnl⟩,if_pos (by simp)]
  ·rw[if_neg (fun e=>hkn e.1)]
   by_cases hk:k∈ks
   ·rw[if_pos hk,if_pos (mem_append_left _ hk)]
   ·rw[if_neg hk,if_neg (fun e=>by rcases mem_append.1 e with e|e;exact hk e;exact hkn (mem_singleton.1 e).symm)]
 ·rw[h2.now,length_set];exact h.nlen
 ·rw[h2.pen,h.pen,length_append,length_singleton];omega
 ·simp only [mem_append,mem_singleton,not_or]at hks;rw[h2.read k h0 (by rw[h.N];exact hk) (by omega),h.read k h0 hk hks.1]
theorem zhy {S:Spa} {R:List Nat} {p:Page} (h:Good S (p.2.1++R)) (ht:3<=p.1.toNat) (hk:(p.2.1.length:Int)<=S.room 0 / 4) (hd:(p.2.2.size:Int)<=S.room p.2.1.length) (hfree:S.z7<=S.sup.pages.length):S.put p=(S,0,9):=by
 have hdim:=h.dims;have hsz:=hdim.size;have hr0:S.room 0=S.sup.size-18:=by unfold Spa.room;rw[hdim.room,if_neg (by omega)];omega
 have hku:∀ k∈p.2.1,zO S.sup.pages S.now k=true:=fun k hk=>h.well.root k (mem_append_left _ hk);have hE0:S.jU p=9:=by
  unfold Spa.jU;rw[if_neg,if_neg,if_neg,if_pos hfree]
  ·rintro(e|e)<;>omega
  ·rintro⟨k,hk,e⟩;exact(qq h (hku k hk)).2.1 e
  ·rintro(e|e|⟨k,hk,e⟩)
   ·omega
   ·omega
   ·rw[(qq h (hku k hk)).1]at e;cases e
 unfold Spa.put;rw[if_pos (by rw[hE0];simp),hE0]
inductive Drps (ask:Nat->Bool) (pg:PgF):List Nat->List Nat->List Nat->Prop
 |nil (c:List Nat):Drps ask pg c [] c
 |cons {c c1 c' ks:List Nat} {k:Nat} {e:Int}:(ask k=true->Drp ask pg c [k] c1 e)->(ask k=false->c1=c/\e=2)->Drps ask pg c1 ks c'->Drps ask pg c (k::ks) c'
theorem zdC {ask:Nat->Bool} {pg:PgF}:∀ (ks c:List Nat),ks.Nodup->(∀ k∈ks,ask k=true/\2<=k/\k<c.length/\c.getD k 0=1/\(pg k).2=0/\yu pg k=[])->∃ c',Drps ask pg c ks c'/\c'.length=c.length/\∀ k,c'.getD k 0=if k∈ks then 0 else c.getD k 0
 |[],c,_,_=>⟨c,.nil c,rfl,fun k=>by simp⟩
 |a::t,c,hnd,h=>by
  obtain⟨h1,h2,h3,h4,h5,h6⟩:=h a mem_cons_self;obtain⟨hat,hnd⟩:=nodup_cons.1 hnd;have ea:atE c a=0:=by unfold atE;rw[if_neg (by omega),if_neg (by omega)]
  have es:xv c a=c.set a 0:=by unfold xv;rw[if_pos ea,h4]
  obtain⟨c',g1,g2,g3⟩:=zdC t (c.set a 0) hnd (fun k hk=>by
   obtain⟨k1,k2,k3,k4,k5,k6⟩:=h k (mem_cons_of_mem _ hk)
   refine⟨k1,k2,by rw[length_set];exact k3,?_,k5,k6⟩
   rw[yp,if_neg (show ¬(a=k/\k<c.length) from fun e=>hat (e.1▸hk))]
   exact k4)
  refine⟨c',.cons (c1:=c.set a 0) (e:=0) (fun _=>.last h4 h1 h5 (by rw[h6,es];exact .nil _)) (fun e=>by rw[h1]at e;cases e) g1,by rw[g2,length_set],fun k=>?_⟩;rw[g3 k,yp]
  by_cases hk:k∈t
  ·rw[if_pos hk,if_pos (mem_cons_of_mem _ hk)]
  ·rw[if_neg hk]
   by_cases hak:a=k
   ·subst hak;rw[if_pos ⟨rfl,h3⟩,if_pos mem_cons_self]
   ·rw[if_neg (fun e=>hak e.1),if_neg (fun e=>by rcases mem_cons.1 e with e|e;exact hak e.symm;exact hk e)]
theorem ziB (S:Spa):S.yc.Nodup:=by
 unfold Spa.yc;exact List.Pairwise.filter _ List.nodup_range
theorem Puts.undo {S Si:Spa} {R ks:List Nat} {ps:List Page} (h:Puts S Si R ks ps) (h0:Good S R) (hp:∀ j,j<ks.length->(ps.getD j xg).2.1=[]):
  ∃ c',Drps Si.asked Si.page Si.now ks c'/\c'=S.now/\Good { Si with now:=c' } R:=by
 have hnd:ks.Nodup:=by
  have:=ziB S;rw[h.free]at this;exact(List.nodup_append.1 this).1
 have hkl:∀ k∈ks,∃ j,j<ks.length/\ks.getD j 0=k:=fun k hk=>by
  obtain⟨j,hj,e⟩:=mem_iff_getElem.1 hk;exact⟨j,hj,by rw[getD_eq_getElem?_getD,List.getElem?_eq_getElem hj];exact e⟩
 obtain⟨c',g1,g2,g3⟩:=zdC (ask:=Si.asked) (pg:=Si.page) ks Si.now hnd (fun k hk=>by
  obtain⟨m1,m2,m3,m4⟩:=h.mem hk
  obtain⟨j,hj,e⟩:=hkl k hk
  have hpj:=h.page j hj
  rw[e]at hpj
  refine⟨v8.2 ⟨m1,by rw[h.N];exact m2,by rw[h.sup];exact m4⟩,m1,by rw[h.good.ok.now,h.N];exact m2,by rw[h.now k,if_pos hk],by rw[hpj],by unfold yu;rw[hpj];exact hp j hj⟩)
 have ec:c'=S.now:=by
  refine qM (by rw[g2,h.nlen]) (fun k=>?_);rw[g3 k,h.now k]
  by_cases hk:k∈ks
  ·rw[if_pos hk];have:=(zV.1 (h.mem hk).2.2.1).1;omega
  ·rw[if_neg hk,if_neg hk]
 refine⟨c',g1,ec,?_⟩;rw[ec];refine h.good.kE (by rw[h.nlen]) ?_;rw[h.N,h.sup];refine h0.well.zaf (fun m hm=>?_);refine h.other m (h0.well.lt hm) (fun hk=>?_);have:=(zV.1 (h.mem hk).2.2.1).1;have:=(zT.1 hm).2.2;omega
def nparts (r len:Nat):Nat:=(len+r-1) / r
def part (r:Nat) (b:ByteArray) (i:Nat):ByteArray:=b.extract (i*r) (min b.size ((i+1)*r))
def vU (r:Nat) (b:ByteArray) (n:Nat):List Page:=(List.range n).map fun i=>((7:UInt8),[],part r b i)
theorem zj4 (r:Nat) (b:ByteArray) (n:Nat):vU r b (n+1)=vU r b n++[((7:UInt8),[],part r b n)]:=by simp[vU,range_succ]
theorem zcJ {r len i:Nat} (hr:1<=r):i<nparts r len↔i*r<len:=uW hr
theorem zcK {r:Nat} {b:ByteArray} {i:Nat} (hr:1<=r) (h:i<nparts r b.size):(part r b i).size=min r (b.size-i*r)/\1<=(part r b i).size:=by
 have:=(zcJ hr).1 h;unfold part;rw[ByteArray.size_extract];have e:(i+1)*r=i*r+r:=by rw[Nat.add_mul,Nat.one_mul]
 rw[e];omega
theorem zeY {r:Nat} (hr:1<=r) (b:ByteArray):∀ n,n<=nparts r b.size->((List.range n).flatMap fun i=>B (part r b i))=(B b).take (n*r)
 |0,_=>by simp
 |n+1,h=>by
  have ih:=zeY hr b n (by omega);rw[range_succ,flatMap_append,ih];have hlt:=(zcJ (r:=r) (len:=b.size) (i:=n) hr).1 (by omega);have e:(n+1)*r=n*r+r:=by rw[Nat.add_mul,Nat.one_mul]
  simp only [flatMap_cons,List.flatMap_nil,append_nil];unfold part;rw[xT,e,List.take_add];congr 1;have hl:(B b).length=b.size:=(zP b).symm;rcases Nat.le_total b.size (n*r+r) with hh|hh
  ·rw[Nat.min_eq_left hh,take_of_length_le (by rw[length_drop];omega),take_of_length_le (by rw[length_drop];omega)]
  ·rw[Nat.min_eq_right hh,show n*r+r-n*r=r by omega]
def Spa.r0 (S:Spa):Nat:=(S.room 0).toNat
def qU (r:Nat):Nat:=min 65536 ((r-4) / 4*r)
structure Blob (S:Spa) (n:Nat) (b:ByteArray) (ks:List Nat):Prop where
 idx:S.get n=(((6:UInt8),ks,mkB (le 4 b.size)),0)
 len:ks.length=nparts S.r0 b.size
 data:∀ i,i<ks.length->S.get (ks.getD i 0)=(((7:UInt8),[],part S.r0 b i),0)
 most:b.size<=qU S.r0
end V
/- Spaces that are well,and blobs;what may have changed is told by Kept:plain. -/
namespace V
open Go Go.Proofs Go.RowKit Crc
end V
/- Trees of at most two levels:plain. -/
namespace V
open Go Go.Proofs Go.RowKit Crc
structure Mk (S S':Spa) (ks:List Nat):Prop where
 sup:S'.sup=S.sup
 held:S'.held=S.held
 mark:S'.mark=S.mark
 slot:S'.slot=S.slot
 dim:S'.dev.size=S.dev.size/\S'.dev.blocks=S.dev.blocks
 yc:S.yc=ks++S'.yc
 now:∀ k,S'.now.getD k 0=if k∈ks then 1 else S.now.getD k 0
 other:∀ k,k<S.N->k∉ks->S'.page k=S.page k
 read:∀ k:Int,0<=k->k<S.N->k.toNat∉ks->(S'.dev.read k).1=(S.dev.read k).1
 pen:S'.dev.pen.length=S.dev.pen.length+ks.length
theorem Mk.refl (S:Spa):Mk S S []:=⟨rfl,rfl,rfl,rfl,⟨rfl,rfl⟩,rfl,fun k=>by simp,fun _ _ _=>rfl,fun _ _ _ _=>rfl,rfl⟩
theorem Mk.N {S S':Spa} {ks:List Nat} (h:Mk S S' ks):S'.N=S.N:=by unfold Spa.N;rw[h.sup]
theorem Mk.trans {S S1 S2:Spa} {ks ls:List Nat} (h:Mk S S1 ks) (g:Mk S1 S2 ls):Mk S S2 (ks++ls):=by
 have hN:=h.N;refine⟨g.sup.trans h.sup,g.held.trans h.held,g.mark.trans h.mark,g.slot.trans h.slot,⟨g.dim.1.trans h.dim.1,g.dim.2.trans h.dim.2⟩,by rw[h.yc,g.yc,append_assoc],fun k=>?_,fun k hk hn=>?_,fun k h0 hk hn=>?_,by rw[g.pen,h.pen,length_append,Nat.add_assoc]⟩
 ·rw[g.now,h.now]
  by_cases e1:k∈ls
  ·rw[if_pos e1,if_pos (List.mem_append_right _ e1)]
  ·rw[if_neg e1]
   by_cases e2:k∈ks
   ·rw[if_pos e2,if_pos (mem_append_left _ e2)]
   ·rw[if_neg e2,if_neg (fun e=>by rcases mem_append.1 e with e|e;exact e2 e;exact e1 e)]
 ·rw[mem_append,not_or]at hn;rw[g.other k (by omega) hn.2,h.other k hk hn.1]
 ·rw[mem_append,not_or]at hn;rw[g.read k h0 (by omega) hn.2,h.read k h0 hk hn.1]
theorem vT.mk_ {S S':Spa} {p:Page} {n:Nat} (h:vT S S' p n) (hl:S.now.length=S.N):Mk S S' [n]:=by
 refine⟨h.sup,h.held,h.mark,h.slot,h.dim,h.yc,fun k=>?_,fun k hk hn=>h.other k (fun e=>hn (by simp[e])) hk,fun k h0 hk hn=>h.read k h0 hk (fun e=>hn (by simp[e])),h.pen⟩;have:=h.lt;rw[h.now,yp,hl]
 by_cases e:k=n
 ·subst e;rw[if_pos ⟨rfl,this⟩,if_pos (mem_singleton.2 rfl)]
 ·rw[if_neg (fun e'=>e e'.1.symm),if_neg (fun e'=>e (mem_singleton.1 e'))]
theorem Puts.mk_ {S Si:Spa} {R ks:List Nat} {ps:List Page} (h:Puts S Si R ks ps):Mk S Si ks:=
 ⟨h.sup,h.held,h.mark,h.slot,h.dim,h.free,h.now,h.other,h.read,h.pen⟩
theorem Mk.free {S S':Spa} {ks:List Nat} (h:Mk S S' ks):S.z7=S'.z7+ks.length:=by
 unfold Spa.z7;rw[h.yc,length_append];omega
theorem Mk.mem {S S':Spa} {ks:List Nat} (h:Mk S S' ks) {k:Nat} (hk:k∈ks):k<S.N/\2<=k/\S.yx k=true:=ub.1 (by rw[h.yc];exact mem_append_left _ hk)
theorem Mk.used {S S':Spa} {ks R:List Nat} (h:Mk S S' ks) (hg:Good S R) {k:Nat} (hu:zO S.sup.pages S.now k=true):S'.page k=S.page k/\S'.now.getD k 0=S.now.getD k 0/\k∉ks:=by
 have hn:k∉ks:=fun hk=>by
  have:=(zV.1 (h.mem hk).2.2).1;have:=(zT.1 hu).2.2;omega
 exact⟨h.other k (hg.well.lt hu) hn,by rw[h.now,if_neg hn],hn⟩
theorem Mk.room {S S':Spa} {ks:List Nat} (h:Mk S S' ks) (k:Int):S'.room k=S.room k:=by unfold Spa.room;rw[h.sup]
theorem Mk.r0 {S S':Spa} {ks:List Nat} (h:Mk S S' ks):S'.r0=S.r0:=by unfold Spa.r0;rw[h.room]
abbrev Nd:=UInt8×List Nat×List Nat×List Nat
def k8B (l:List Nat):List UInt8:=l.flatMap (le 8)
theorem ux:∀ l:List Nat,(k8B l).length=8*l.length
 |[]=>rfl
 |x::r=>by
  have:=ux r;unfold k8B at this ⊢;rw[flatMap_cons,length_append,zy,this,length_cons];omega
def xS:List Nat->Bool
 |[]=>true
 |[_]=>true
 |x::y::r=>decide (x<y)&&xS (y::r)
inductive je:Page->Nd->Prop
 |refs (ks kids:List Nat):ks.length=kids.length->1<=ks.length->xS ks=true->(∀ k∈ks,k<18446744073709551616)->je ((5:UInt8),kids,mkB (k8B ks)) ((5:UInt8),ks,[],kids)
 |inner (ks kids:List Nat):ks.length=kids.length->2<=ks.length->xS ks=true->(∀ k∈ks,k<18446744073709551616)->je ((3:UInt8),kids,mkB (k8B ks)) ((3:UInt8),ks,[],kids)
 |leaf (k v:Nat):k<18446744073709551616->v<18446744073709551616->je ((4:UInt8),[],mkB (k8B [k,v])) ((4:UInt8),[k],[v],[])
theorem qV:∀ {l:List Nat},xS l=true↔∀ i,i+1<l.length->l.getD i 0<l.getD (i+1) 0
 |[]=>by simp[xS]
 |[_]=>by simp[xS]
 |x::y::r=>by
  have ih:=qV (l:=y::r);simp only [xS,Bool.and_eq_true,decide_eq_true_iff];constructor
  ·rintro⟨h1,h2⟩ i hi;cases i with
   |zero=>exact h1
   |succ i=>exact ih.1 h2 i (by simpa using hi)
  ·intro h;exact⟨h 0 (by simp),ih.2 fun i hi=>h (i+1) (by simpa using hi)⟩
theorem zcL {l:List Nat} (h:xS l=true):∀ (d i:Nat),i+d+1<l.length->l.getD i 0<l.getD (i+d+1) 0
 |0,i,hi=>qV.1 h i hi
 |d+1,i,hi=>Nat.lt_trans (zcL h d i (by omega)) (qV.1 h (i+d+1) (by omega))
theorem ziC {l:List Nat} (h:xS l=true) (n:Nat):xS (l.take n)=true:=by
 rw[qV]at h ⊢;intro i hi;rw[length_take]at hi;have e:∀ j,j<n->(l.take n).getD j 0=l.getD j 0:=fun j hj=>by rw[getD_eq_getElem?_getD,List.getElem?_take,if_pos hj,<- getD_eq_getElem?_getD]
 rw[e i (by omega),e (i+1) (by omega)];exact h i (by omega)
theorem ziD {l:List Nat} (h:xS l=true) (n:Nat):xS (l.drop n)=true:=by
 rw[qV]at h ⊢;intro i hi;rw[length_drop]at hi;have e:∀ j,(l.drop n).getD j 0=l.getD (n+j) 0:=fun j=>by rw[getD_eq_getElem?_getD,List.getElem?_drop,<- getD_eq_getElem?_getD]
 rw[e i,e (i+1)];exact h (n+i) (by omega)
def jH (S:Spa) (n:Nat) (ks vs:List Nat):Prop:=S.page n=(((5:UInt8),vs,mkB (k8B ks)),0)/\ks.length=vs.length/\1<=ks.length/\xS ks=true/\∀ k∈ks,k<18446744073709551616
inductive vk (S:Spa) (n:Nat) (ks vs:List Nat):Prop
 |one:jH S n ks vs->vk S n ks vs
 |two (m a b:Nat):1<=m->m<ks.length->ks.length=vs.length->xS ks=true->(∀ k∈ks,k<18446744073709551616)->S.page n=(((3:UInt8),[a,b],mkB (k8B [ks.getD 0 0,ks.getD m 0])),0)->
   jH S a (ks.take m) (vs.take m)->jH S b (ks.drop m) (vs.drop m)->vk S n ks vs
theorem jH.ok {S:Spa} {n:Nat} {ks vs:List Nat} (h:jH S n ks vs):je (S.page n).1 ((5:UInt8),ks,[],vs):=by
 rw[h.1];exact je.refs ks vs h.2.1 h.2.2.1 h.2.2.2.1 h.2.2.2.2
theorem jH.keep {S S':Spa} {n:Nat} {ks vs:List Nat} (h:jH S n ks vs) (e:S'.page n=S.page n):jH S' n ks vs:=by
 unfold jH;rw[e];exact h
theorem vk.len {S:Spa} {n:Nat} {ks vs:List Nat} (h:vk S n ks vs):ks.length=vs.length:=by
 cases h with
 |one h=>exact h.2.1
 |two m a b h1 h2 h3=>exact h3
end V
/- Contracts of the package tree:words,parse,get. -/
namespace V
open Go Go.Proofs Go.RowKit Crc
theorem kP:j9 prog 129 42 (.int .u64 0) 1 8:=⟨by kernel_rfl,by kernel_rfl,by kernel_rfl⟩
theorem zjd:∀ (ks:List Nat) (i:Nat),i<ks.length->((k8B ks).drop (8*i)).take 8=le 8 (ks.getD i 0)
 |[],i,h=>by simp at h
 |k::r,0,h=>by
  unfold k8B;rw[flatMap_cons,Nat.mul_zero,List.drop_zero,take_left' (zy 8 k)];rfl
 |k::r,i+1,h=>by
  have ih:=zjd r i (by simpa using h);unfold k8B at ih ⊢;rw[flatMap_cons,show 8*(i+1)=8+8*i by omega,<- drop_drop,drop_left' (zy 8 k),ih];rfl
theorem ziE {w:World} {s:ByteArray} {ks:List Nat} (hs:B s=k8B ks) (h64:∀ k∈ks,k<18446744073709551616) (hn:ks.length<=10000):
  Calls prog 217 #[.string s] w (Ret fun v w'=>∃ A c,v=.tuple #[.slice A ks.length c,.bool true]/\Owni (zw .u64) 42 w' w.heap.size A ks.length c ks/\Ext w w'):=by
 have hss:s.size=8*ks.length:=by rw[zP,hs,ux]
 apply zmK;unfold S217;refine zs fun r1 w1 hb1 he1 hr1 hz1=>?_;refine vd (u:=.string) (e:=5) (by kernel_rfl) (by kernel_rfl) (by kernel_rfl) (by omega) ?_;intro cc w2 hsl he2 hs2 hcc;refine zb (zg8 (k:=8) (by omega) hcc (by dsimp only;omega)) ?_;rintro v w3 ⟨hit,hRc,hs3,he3⟩;refine⟨v,rfl,?_⟩;dsimp only at hit hRc;have he:=(he1.trans he2).trans he3;have hsl:=hsl.ext he3;have hb1:=hb1.ext (he2.trans he3);have hcn:(qD 1 (some ⟨w1.heap.size,0,none⟩) s.size 8).length=ks.length:=by rw[xN];unfold yo;omega
 refine zaX (R:=zc2 w2.heap.size (w2.heap.size+1) (some ⟨w1.heap.size,0,none⟩) s.size cc 8) (fun i w'=>Ext w w'/\zc2 w2.heap.size (w2.heap.size+1) (some ⟨w1.heap.size,0,none⟩) s.size cc 8 w'/\Sl w' (some ⟨w1.heap.size,0,none⟩) s.size (bV (B s))/\∃ A c,Blk w' r1 [.slice A i c] 129/\Owni (zw .u64) 42 w' (w3.heap.size+2) A i c (ks.take i)) hit (fun i w' hI=>hI.2.1) (fun i w' hI=>⟨hI.1.drew,hI.2⟩) ?_ ?_ ?_ ?_
 ·rintro i w' w'' hsb ⟨e1,⟨e2,e3⟩,e6,A,c,e4,e5⟩;have hkeep:∀ j:Nat,j<w3.heap.size->w''.heap[j]?=w'.heap[j]?:=fun j hj=>hsb.2.2.2.2 j (by omega) (by omega);refine⟨e1.qy hsb (by omega) (by omega),⟨(hkeep _ (by omega)).trans e2,(hkeep _ (by omega)).trans e3⟩,⟨e6.1,e6.2.1,fun hn=>?_⟩,A,c,(hkeep _ (by omega)).trans e4,e5.qy hsb (by omega) (by omega)⟩;obtain⟨a,ha,hcell⟩:=e6.2.2 hn;refine⟨a,ha,fun j v hj=>?_⟩;injection ha with ha
  subst ha;have:=hcell j v hj;rw[zx]at this ⊢;simp only [World.cell?]at this ⊢;rw[hkeep _ (by omega)];exact this
 ·intro o;have hx:=((Ext.refl w3).alloc (.deferred (some []))).alloc o;exact⟨he.trans hx,⟨hRc.1.ext hx,hRc.2.ext hx⟩,hsl.ext hx,none,0,hb1.ext hx,Owni.nil _ _ _⟩
 ·rintro i hi w' N jump ⟨e1,⟨e2,e3⟩,e6,A,c,e4,e5⟩ hsz' hN;rw[hcn]at hi;have hcut:(qD 1 (some ⟨w1.heap.size,0,none⟩) s.size 8)[i]'(by rw[hcn];exact hi)=[.slice (zn (some ⟨w1.heap.size,0,none⟩) (i*8) (i*8+8) 1) 8 8]:=by
   have:min 8 (s.size-i*8)=8:=by omega
   simp[qD,this]
  refine⟨((zn (some ⟨w1.heap.size,0,none⟩) (i*8) (i*8+8) 1,8,8),()),hcut.symm,?_⟩;dsimp only;have hsub:=e6.cut (l:=i*8) (k:=8) (m:=i*8+8) (by omega) (by omega);rw[vC,jm,hs,Nat.mul_comm i 8,zjd ks i hi,Nat.mul_comm 8 i]at hsub;refine zK fun w4 he4 hz4 hh4=>?_;have f4:=e4.ext he4;have f5:=e5.ext he4;refine zo (x:=(A,i,c)) f4 (by rfl) ?_;refine zb (ja (hsub.ext he4) (by omega)) ?_;rintro _ w5 ⟨rfl,he5⟩;have hk:ks.getD i 0<18446744073709551616:=by
   rw[getD_eq_getElem?_getD,List.getElem?_eq_getElem hi];exact h64 _ (getElem_mem _)
  refine⟨_,rfl,?_⟩;rw[uT,Nat.mod_eq_of_lt (by exact hk)];have f4:=f4.ext he5;have f5:=f5.ext he5;refine xz (yd f4 rfl) ?_;have he45:=he4.trans he5;have hz45:=he45.size;refine zs fun r12 w6 hb6 he6 hr6 hz6=>?_;refine xz (yd (f4.ext he6) rfl) ?_;have f4:=f4.ext he6;have f5:=f5.ext he6;have hx:Sli (zw .u64) w6 (some ⟨r12,0,none⟩) 1 [ks.getD i 0]:=Sli.xX (E:=zw .u64) (xs:=[ks.getD i 0]) hb6 rfl (by omega);refine xw kP f5 (by omega) hx (by dsimp only;omega) (by omega) ?_;intro A2 c2 w7 ho7 hg7 _;have hr1l:r1<w3.heap.size:=by have:=hb1.lt;omega
  have f4:Blk w7 r1 _ _:=f4.grown hg7.grown (fun hh=>by have:=f5.row _ hh.symm;omega);refine zU f4 (by simp) ?_;have hset:=f4.set 0 (.slice A2 (i+1) c2);have he46:=he45.trans he6;have e7:Ext w w7:=(e1.trans he46).grown hg7.grown (fun j hj=>by have:=f5.row j hj;omega);have hx7:∀ k,k<w3.heap.size+2->w7.heap[k]?=w'.heap[k]?:=fun k hk=>by
   rw[hg7.grown.block k (by omega) (fun hh=>by have:=f5.row _ hh.symm;omega)];exact he46.block k (by omega)
  have hx8:∀ k,k<w3.heap.size+2->k≠r1->(w7.setCell ⟨r1,0,none⟩ (.slice A2 (i+1) c2)).heap[k]?=w'.heap[k]?:=fun k hk hne=>by
   rw[Below.heap_setCell _ _ _ _ (fun e=>hne e)];exact hx7 k hk
  have hg8:=hg7.grown.size;refine hN _ ⟨e7.set (by simp only;omega) _,⟨?_,?_⟩,⟨e6.1,e6.2.1,fun hn=>?_⟩,A2,c2,hset,?_⟩ ?_ ?_
  ·exact(hx8 _ (by omega) (by omega)).trans e2
  ·exact(hx8 _ (by omega) (by omega)).trans e3
  ·obtain⟨a,ha,hcell⟩:=e6.2.2 hn;refine⟨a,ha,fun j v hj=>?_⟩;injection ha with ha
   subst ha;have:=hcell j v hj;rw[zx]at this ⊢;simp only [World.cell?]at this ⊢;rw[hx8 _ (by omega) (by omega)];exact this
  ·have e9:ks.take (i+1)=ks.take i++[ks.getD i 0]:=by
    rw[take_succ_eq_append_getElem hi,getD_eq_getElem?_getD,List.getElem?_eq_getElem hi];rfl
   rw[e9];refine ho7.grown (row:=some r1) ⟨rfl,rfl,rfl,by simp,fun k hk hne=>Below.heap_setCell _ _ _ _ (fun e=>hne (by rw[e]))⟩ (fun j hj he=>?_);injection hj with hj
   have:=ho7.row _ he;omega
  ·have:=he46.size;simp;omega
  ·intro k hk;exact hx8 k (by omega) (by omega)
 ·rintro w' ⟨e1,⟨e2,e3⟩,e6,A,c,e4,e5⟩ hsz' hd;rw[hcn]at e4 e5;rw[take_of_length_le (by omega)]at e5;have hr1l:r1<w3.heap.size:=by have:=hb1.lt;omega
  show(ldW _ _ _) w';refine zo (x:=(A,ks.length,c)) e4 (by rfl) ?_;dsimp only;refine zU e4 (by simp) ?_;have hset:=e4.set 0 (.slice A ks.length c);refine jL (by rw[Below.heap_setCell _ _ _ _ (by simp only;omega)];exact hd) ?_;refine zo (x:=(A,ks.length,c)) (show Blk _ r1 [.slice A ks.length c] 129 from(zQ (by omega)).trans hset) (by rfl) ?_;refine⟨A,c,?_,?_,(e1.set (by simp only;omega) _).yA (by omega) _⟩
  ·rw[show Int.tmod ((s.size:Nat):Int) 8=0 by rw[hss,show((8*ks.length:Nat):Int)=8*(ks.length:Int) by omega,Int.mul_tmod_right]];rfl
  have e6:=e5.grown (w':=w'.setCell ⟨r1,0,none⟩ (.slice A ks.length c)) (row:=some r1) ⟨rfl,rfl,rfl,by simp,fun k hk hne=>Below.heap_setCell _ _ _ _ (fun e=>hne (by rw[e]))⟩ (fun j hj he=>by
   injection hj with hj
   have:=e5.row _ he
   omega)
  have e7:Owni (zw .u64) 42 (yA (w'.setCell ⟨r1,0,none⟩ (.slice A ks.length c)) w3.heap.size (.deferred none)) (w3.heap.size+2) A ks.length c ks:=
   e6.qy (ya (b:=w3.heap.size) (.inl rfl)) (by omega) (by omega)
  exact e7.lower (by omega)
end V
/- Contracts of the package tree:parse. -/
namespace V
open Go Go.Proofs Go.RowKit Crc
theorem Owni.sDf {α:Type} {E:Enc α} {e:TypeId} {Bd:Nat} {w w':World} {B:Nat} {A:Option Addr} {n c:Nat} {xs:List α} (h:Owni E e w B A n c xs) (hs:zeE Bd w w'):Owni E e w' B A n c xs:=by
 refine⟨h.1,?_⟩;rcases h.2 with hn|⟨g,cap,cur,hv,hb,hgg,rest⟩
 ·exact .inl hn
 ·exact .inr ⟨g,cap,cur,hv,hb,(hs.2.2.2.2 g (.inr (by rw[hgg];simp))).trans hgg,rest⟩
def ndV (t:UInt8) (x y z:SLC):List Value:=[.int .u8 (t.toNat:Int),.slice x.1 x.2.1 x.2.2,.slice y.1 y.2.1 y.2.2,.slice z.1 z.2.1 z.2.2]
abbrev jf:List Lf:=[.int .u8,.slc,.slc,.slc]
def ndT (t:UInt8) (x y z:SLC):Int×SLC×SLC×SLC×Unit:=((t.toNat:Int),x,y,z,())
theorem jt (t:UInt8) (x y z:SLC):∀ v∈ndV t x y z,v.oneCell'=true:=by
 intro v hv;simp only [ndV,mem_cons,not_mem_nil,or_false]at hv;rcases hv with rfl|rfl|rfl|rfl<;>rfl
def zbG (r1 r2:Nat) (A:Option Addr) (n c k:Nat):WP:=fun w=>Blk w r1 [.slice A n c] 129/\Blk w r2 [.int .i64 (k:Int)] 3
theorem zgq {w:World} {A:Option Addr} {n c k:Nat} (hk:1<=k) (hnc:n<=c) (hnk:n+k<=9223372036854775807):Calls prog 218 #[.slice A n c,.int .i64 (k:Int)] w (Ret fun v w'=>Iter prog v (qD 1 A n k) (zbG w.heap.size (w.heap.size+1) A n c k)/\zbG w.heap.size (w.heap.size+1) A n c k w'/\w'.heap.size=w.heap.size+2/\Ext w w'):=by
 apply zmL;unfold S218;refine zs fun r1 w1 hb1 he1 hr1 hz1=>?_;refine zs fun r2 w2 hb2 he2 hr2 hz2=>?_;subst hr1;have hr2:w.heap.size+1=r2:=by omega
 subst hr2;refine zo (x:=(k:Int)) hb2 (by rfl) ?_;refine zd (decide_eq_false (by omega)) ?_;refine⟨⟨_,_,rfl,by kernel_rfl,fun l J w' hJ hR hd hY=>?_⟩,⟨hb1.ext he2,hb2⟩,by omega,he1.trans he2⟩;apply zmO;exact zbr (P:=prog) hk hnc hnk hJ hR hd hY
structure zaM (w:World) (N:Nat) (d:Nd) (x y z:SLC):Prop where
 ks:Owni (zw .u64) 42 w N x.1 x.2.1 x.2.2 d.2.1
 vs:Owni (zw .u64) 42 w N y.1 y.2.1 y.2.2 d.2.2.1
 kids:Sli (zw .u32) w z.1 z.2.1 d.2.2.2
theorem ziF {w:World} {p:Page} {d:Nd} {y:SLC} (hd:je p d) (hs:Sli (zw .u32) w y.1 y.2.1 p.2.1) (hn:d.2.1.length<=5000):
  Calls prog 202 #[.agg (pgV p y).toArray] w (Ret fun v w'=>∃ x z,v=.tuple #[.agg (ndV d.1 x z y).toArray,.int .i64 0]/\zaM w' w.heap.size d x z y/\Ext w w'):=by
 apply zmA;unfold S202;refine zs fun r1 w1 hb1 he1 hr1 hz1=>?_;refine zs fun r2 w2 hb2 he2 hr2 hz2=>?_;have hb1:Blk w2 r1 (pgV p y) 56:=hb1.ext he2;refine zk 2 p.2.2 hb1 (by rfl) ?_;have hkid:d.2.2.2=p.2.1:=by cases hd<;>rfl
 obtain⟨ks0,hks0,hB,hk64,hk0⟩:∃ ks0:List Nat,ks0=d.2.1++d.2.2.1/\B p.2.2=k8B ks0/\(∀ k∈ks0,k<18446744073709551616)/\ks0.length<=5000:=by
  cases hd with
  |refs ks kids h1 h2 h3 h4=>exact⟨ks,by simp,yV _,h4,hn⟩
  |inner ks kids h1 h2 h3 h4=>exact⟨ks,by simp,yV _,h4,hn⟩
  |leaf k v h1 h2=>exact⟨[k,v],rfl,yV _,fun q hq=>by
    simp only [mem_cons,not_mem_nil,or_false]at hq
    rcases hq with rfl|rfl
    ·exact h1
    ·exact h2,by simp⟩
 refine zb (ziE hB hk64 (by omega)) ?_;rintro _ w3 ⟨A,c,rfl,ho,he3⟩;refine⟨((A,ks0.length,c),true,()),rfl,?_⟩;have hb1:=hb1.ext he3;have hb2:=hb2.ext he3;refine zC ((p.1.toNat:Nat):Int) hb1 (by rfl) ?_;refine zk 1 y hb1 (by rfl) ?_;dsimp only;have hlt1:=hb1.lt;have hlt2:=hb2.lt;have hs2:=he2.size;have hs3:=he3.size;have he:=(he1.trans he2).trans he3;refine refill (vs:=ndV p.1 (A,ks0.length,c) (none,0,0) y) hb2 (by rfl) (jt _ _ _ _) (by rfl) ?_;intro w4 hb2 hx4 hk4 hz4;have he4:Ext w w4:=hx4 w he (by omega);have hb1:Blk w4 r1 (pgV p y) 56:=(hk4 r1 (by omega)).trans hb1;have ho4:Owni (zw .u64) 42 w4 (r2+1) A ks0.length c ks0:=by
  refine(ho.only (F:=fun k=>k=r2) ⟨?_,?_,?_,Nat.le_of_eq hz4.symm,fun k _ hk=>hk4 k hk⟩ (fun j hj e=>by have:=ho.row j hj;have:j=r2:=e;omega)).lower (by omega)
  ·exact(hx4 w he (by omega)).os.trans he.os.symm
  ·exact(hx4 w he (by omega)).tape.trans he.tape.symm
  ·exact(hx4 w he (by omega)).output.trans he.output.symm
 have hs4:=hs.ext he4;have hsn:=hs.len;refine yi (fun(t:Bool×Int×List Deferred×Unit) w'=>∃ (x z:SLC) (m:Nat),t=(true,(m:Int),t.2.2.1,())/\m<=d.2.1.length/\Ext w w'/\Blk w' r2 (ndV d.1 x z y) 215/\zaM w' (r2+1) d x z y/\Dfs w.heap.size w' t.2.2.1) ?_ (fun J hJ=>?_);rotate_left
 ·refine zC ((p.1.toNat:Nat):Int) hb1 (by rfl) ?_;cases hd with
  |refs ks kids h1 h2 h3 h4=>
   obtain rfl:ks0=ks:=by rw[hks0];simp
   refine zd (by rfl) (zd (by rfl) (zf (by rfl) (zf (by rfl) ?_)));refine zk 1 y hb1 (by rfl) ?_;refine hJ _ _ ⟨(A,ks0.length,c),(none,0,0),1,?_,h2,he4,hb2,⟨ho4,Owni.nil _ _ _,hs4⟩,trivial⟩;rw[show((((ks0.length:Nat):Int)==((y.2.1:Nat):Int)))=true from beq_iff_eq.2 (by dsimp only at hsn;omega)];rfl
  |inner ks kids h1 h2 h3 h4=>
   obtain rfl:ks0=ks:=by rw[hks0];simp
   refine zd (by rfl) (zf (by rfl) (zf (by rfl) ?_));refine zk 1 y hb1 (by rfl) ?_;refine hJ _ _ ⟨(A,ks0.length,c),(none,0,0),2,?_,h2,he4,hb2,⟨ho4,Owni.nil _ _ _,hs4⟩,trivial⟩;rw[show((((ks0.length:Nat):Int)==((y.2.1:Nat):Int)))=true from beq_iff_eq.2 (by dsimp only at hsn;omega)];rfl
  |leaf k v h1 h2=>
   obtain rfl:ks0=[k,v]:=hks0;refine zf (by rfl) ?_;refine stE (o:=1) hb2 (by rw[zx]) (by show 1<4;omega) ?_;intro w5 hb25 o5;have he5:Ext w w5:=Only.ext he4 o5 (fun j hj=>by have:j=r2:=hj;omega);have hb15:=hb1.only o5 (show ¬r1=r2 by omega);have ho5:=ho4.only o5 (fun j hj e=>by have:=ho4.row j hj;have:j=r2:=e;omega);have hA:=ho5.le;refine zb (zgq (k:=2) (by omega) (show 2<=c from hA.1) (by omega)) ?_;rintro vv w6 ⟨hit,hRc,hs6,he6⟩;refine⟨vv,rfl,?_⟩;dsimp only at hit hRc hb25;have hb26:=hb25.ext he6;have hb16:=hb15.ext he6;have ho6:=ho5.ext he6;have hw5:=he5.size;have hl25:=hb25.lt;have hl15:=hb15.lt;have hAl:∀ j,orow A=some j->j<w5.heap.size:=ho5.yg;have hcn:(qD 1 A 2 2).length=1:=by rw[xN];rfl
   refine zaX (R:=zbG w5.heap.size (w5.heap.size+1) A 2 c 2) (fun i w'=>Ext w w'/\zbG w5.heap.size (w5.heap.size+1) A 2 c 2 w'/\Sli (zw .u64) w' A 2 [k,v]/\Blk w' r1 (pgV ((4:UInt8),[],mkB (k8B [k,v])) y) 56/\∃ x z:SLC,(i=0->x=(none,0,0)/\z=(none,0,0))/\True/\Blk w' r2 (ndV 4 x z y) 215/\Owni (zw .u64) 42 w' (w6.heap.size+2) x.1 x.2.1 x.2.2 ([k].take i)/\Owni (zw .u64) 42 w' (w6.heap.size+2) z.1 z.2.1 z.2.2 ([v].take i)) hit (fun i w' hI=>hI.2.1) (fun i w' hI=>⟨hI.1.drew,hI.2⟩) ?_ ?_ ?_ ?_
   ·rintro i w' w'' hsb ⟨e1,⟨e2,e3⟩,e4,e5,x,z,x1,z1,e6,e7,e8⟩;have hkeep:∀ j:Nat,j<w6.heap.size->w''.heap[j]?=w'.heap[j]?:=fun j hj=>hsb.2.2.2.2 j (by omega) (by omega);exact⟨e1.qy hsb (by omega) (by omega),⟨(hkeep _ (by omega)).trans e2,(hkeep _ (by omega)).trans e3⟩,e4.congr (fun a ha=>hkeep _ (by have:=hAl a.block (by rw[ha];rfl);omega)),(hkeep _ (by omega)).trans e5,x,z,x1,z1,(hkeep _ (by omega)).trans e6,e7.qy hsb (by omega) (by omega),e8.qy hsb (by omega) (by omega)⟩
   ·intro o;have hx:=((Ext.refl w6).alloc (.deferred (some []))).alloc o;exact⟨(he5.trans he6).trans hx,⟨hRc.1.ext hx,hRc.2.ext hx⟩,ho6.sl.ext hx,hb16.ext hx,(none,0,0),(none,0,0),fun _=>⟨rfl,rfl⟩,trivial,hb26.ext hx,Owni.nil _ _ _,Owni.nil _ _ _⟩
   ·rintro i hi w' N jump ⟨e1,⟨e2,e3⟩,e4,e5,x,z,x1,z1,e6,e7,e8⟩ hsz' hN;have hi:i<1:=by simpa [xN,yo] using hi
    obtain rfl:i=0:=by omega
    obtain⟨rfl,rfl⟩:=x1 rfl;refine⟨((zn A 0 2 1,2,2),()),by simp[qD],?_⟩;dsimp only;have hsub:=e4.cut (l:=0) (k:=2) (m:=2) (z:=1) rfl (by omega) (by omega);rw[List.drop_zero,take_of_length_le (by simp)]at hsub;refine zK fun w7 he7 hz7 hh7=>?_;refine zk 1 ((none,0,0):SLC) (e6.ext he7) (by rfl) ?_;refine zY (hsub.ext he7) (by omega) (by omega) ?_;refine zs fun r20 w8 hb8 he8 hr8 hz8=>?_;have he78:=he7.trans he8;refine xz (yF (e6.ext he78) rfl) ?_;have hx1:Sli (zw .u64) w8 (some ⟨r20,0,none⟩) 1 [k]:=Sli.xX (E:=zw .u64) (xs:=[k]) hb8 rfl (by omega);refine xw kP (Owni.nil 42 w8 (w6.heap.size+2)) (by have:=he78.size;omega) hx1 (by dsimp only;omega) (by omega) ?_;intro A2 c2 w9 ho9 hg9 _;have he9:Ext w' w9:=he78.none hg9.grown;refine stE (o:=1) (e6.ext he9) (by rw[zx]) (by show 1<4;omega) ?_;intro w10 hb10 o10;have hw9:=he9.size;have he10:∀ q,q<=r2->q<w6.heap.size->True:=fun _ _ _=>trivial;have hl26:=hb26.lt;refine zK fun w11 he11 hz11 hh11=>?_;refine zk 2 ((none,0,0):SLC) (hb10.ext he11) (by rfl) ?_;have hsub11:Sli (zw .u64) w11 (zn A 0 2 1) 2 [k,v]:=((hsub.ext he9).only o10 (fun a ha hh=>by
     have h2:orow A=some a.block:=by
      unfold zn at ha
      rw[if_neg (by omega)]at ha
      cases A with
      |none=>cases ha
      |some a0=>injection ha with ha;rw[<- ha];rfl
     have:=ho4.row _ h2
     have:a.block=r2:=hh
     omega)).ext he11
    rw[show wrap .i64 (((2:Nat):Int)-1)=1 from by decide];refine zY hsub11 (by omega) (by omega) ?_;refine zs fun r25 w12 hb12 he12 hr12 hz12=>?_;have he1112:=he11.trans he12;refine xz (yF (hb10.ext he1112) rfl) ?_;have hx2:Sli (zw .u64) w12 (some ⟨r25,0,none⟩) 1 [v]:=Sli.xX (E:=zw .u64) (xs:=[v]) hb12 rfl (by omega);have hs10:=o10.2.2.2.1;have hs1112:=he1112.size;refine xw kP (Owni.nil 42 w12 (w6.heap.size+2)) (by omega) hx2 (by dsimp only;omega) (by omega) ?_;intro A3 c3 w13 ho13 hg13 _;have he13:Ext w10 w13:=he1112.none hg13.grown;refine stE (o:=2) (hb10.ext he13) (by rw[zx]) (by show 2<4;omega) ?_;intro w14 hb14 o14;have hs13:=he13.size;have hs14:=o14.2.2.2.1;have ho9':Owni (zw .u64) 42 w14 (w6.heap.size+2) A2 1 c2 [k]:=((ho9.only o10 (fun j hj e=>by have:=ho9.row j hj;have:j=r2:=e;omega)).ext he13).only o14 (fun j hj e=>by have:=ho9.row j hj;have:j=r2:=e;omega);have ho13':Owni (zw .u64) 42 w14 (w6.heap.size+2) A3 1 c3 [v]:=ho13.only o14 (fun j hj e=>by have:=ho13.row j hj;have:j=r2:=e;omega);have hall:∀ j,j<w'.heap.size->j≠r2->w14.heap[j]?=w'.heap[j]?:=fun j hj hne=>by
     rw[o14.2.2.2.2 j (by omega) hne,he13.block j (by omega),o10.2.2.2.2 j (by omega) hne,he9.block j hj]
    refine hN _ ⟨Only.ext (Only.ext (e1.trans he9) o10 (fun j hj=>by have:j=r2:=hj;omega) |>.trans he13) o14 (fun j hj=>by have:j=r2:=hj;omega),⟨(hall _ (by omega) (by omega)).trans e2,(hall _ (by omega) (by omega)).trans e3⟩,e4.congr (fun a ha=>?_),(hall _ (by omega) (by omega)).trans e5,(A2,1,c2),(A3,1,c3),fun e=>by omega,trivial,hb14,ho9',ho13'⟩ (by omega) (fun q hq=>hall q (by omega) (by omega));have h2:orow A=some a.block:=by rw[ha];rfl
    have h3:=hAl _ h2;have:=ho4.row _ h2;exact hall _ (by omega) (by omega)
   ·rintro w' ⟨e1,⟨e2,e3⟩,e4,e5,x,z,x1,z1,e6,e7,e8⟩ hsz' hd;rw[show(qD 1 A [k,v].length 2).length=1 by simp[xN,yo]]at e7 e8;show(za _ _ _) w';refine zf (by rfl) (zf (show(Int.tmod ((2:Nat):Int) 2==0)=true by decide) ?_);refine zk 1 y e5 (by rfl) ?_;refine hJ _ _ ⟨x,z,1,?_,by simp,e1,e6,⟨e7.lower (B':=r2+1) (by omega),e8.lower (B':=r2+1) (by omega),hs.ext e1⟩,⟨_,rfl,by omega,hd,by simp,trivial⟩⟩;rw[show(((y.2.1:Nat):Int)==0)=true from beq_iff_eq.2 (by have:0=y.2.1:=hsn;omega)];rfl
 rintro t w5 ⟨x,z,m,et,hm,he5,k2,hN,hD⟩;have hrise:xS d.2.1=true:=by
  cases hd with
  |refs ks kids h1 h2 h3 h4=>exact h3
  |inner ks kids h1 h2 h3 h4=>exact h3
  |leaf k v h1 h2=>rfl
 have hxl:=hN.ks.len;rw[et];dsimp only;refine zu (fun t' w'=>∃ i:Nat,1<=i/\i<=d.2.1.length+1/\t'=(true,(i:Int),())/\Ext w w'/\Blk w' r2 (ndV d.1 x z y) 215/\zaM w' (r2+1) d x z y/\Dfs w.heap.size w' t.2.2.1) (fun t'=>(d.2.1.length+1-t'.2.1).toNat) ⟨1,by omega,by omega,rfl,he5,k2,hN,hD⟩ ?_;rintro _ w6 ⟨i,hi1,hi,rfl,he6,k2,hN,hD⟩;dsimp only;refine zk 1 x k2 (by rfl) ?_
 by_cases hlt:i<x.2.1
 ·refine zf (decide_eq_true (by omega)) ?_;refine zK fun w7 he7 hz7 hh7=>?_;have k27:=k2.ext he7;refine zf rfl ?_;refine zk 1 x k27 (by rfl) ?_;rw[show wrap .i64 ((i:Int)-1)=((i-1:Nat):Int) by rw[wrap_i64 (by omega) (by omega)];omega];refine zY (hN.ks.sl.ext he7) (by omega) (by omega) ?_;refine zk 1 x k27 (by rfl) ?_;refine zY (hN.ks.sl.ext he7) (by omega) (by omega) ?_;rw[Int.toNat_natCast,Int.toNat_natCast];have:=qV.1 hrise (i-1) (by omega);rw[show i-1+1=i by omega]at this;refine⟨⟨i+1,by omega,by omega,?_,he6.trans he7,k27,⟨hN.ks.ext he7,hN.vs.ext he7,hN.kids.ext he7⟩,hD.kept fun k h1 _=>he7.heap h1⟩,?_⟩
  ·rw[show decide (((d.2.1.getD (i-1) 0:Nat):Int)<((d.2.1.getD i 0:Nat):Int))=true from decide_eq_true (by omega),wrap_i64 (by omega) (by omega)];rfl
  ·rw[wrap_i64 (by omega) (by omega)];omega
 ·refine zd (decide_eq_false (by omega)) ?_;refine zd (by rfl) ?_;refine zk 1 x k2 (by rfl) ?_;refine zd (decide_eq_false (by omega)) ?_;refine zR (ls:=jf) (ndT d.1 x z y) k2 (by rfl) ?_;refine refill (vs:=ndV d.1 x z y) k2 (by rfl) (jt _ _ _ _) (by rfl) ?_;intro w7 k27 hx7 hk7 hz7;have he7:Ext w w7:=hx7 w he6 (by omega);have o7:Only (fun k=>k=r2) w6 w7:=⟨he7.os.trans he6.os.symm,he7.tape.trans he6.tape.symm,he7.output.trans he6.output.symm,Nat.le_of_eq hz7.symm,fun k _ hk=>hk7 k hk⟩;have hN7:zaM w7 (r2+1) d x z y:=⟨hN.ks.only o7 (fun j hj e=>by have:=hN.ks.row j hj;have:j=r2:=e;omega),hN.vs.only o7 (fun j hj e=>by have:=hN.vs.row j hj;have:j=r2:=e;omega),hkid▸hs.ext he7⟩;refine zfS _ w7 (hD.kept fun k h1 _=>by
   by_cases e:k=r2
   ·subst e
    have:=k2
    unfold Blk at this
    rw[h1]at this
    cases this
   ·exact(hk7 k e).trans h1) fun w8 hs8=>?_
  refine zR (ls:=jf) (ndT d.1 x z y) (k27.zeF hs8) (by rfl) ?_;refine⟨x,z,rfl,⟨(hN7.ks.sDf hs8).lower (by omega),(hN7.vs.sDf hs8).lower (by omega),hkid▸hs.ext (he7.zeF hs8)⟩,he7.zeF hs8⟩
end V
/- Spaces of one's own:contracts,short. -/
namespace V
open Go Go.Proofs Go.RowKit Crc
def At (w0 w:World) (b db:Nat) (S:Spa):Prop:=∃ F,ye w b db S F/\(∀ k,F k->w0.heap.size<=k)/\Ext w0 w
variable {w0 w w':World} {b db:Nat} {S:Spa} {R:List Nat}
theorem zgC {size blocks:Int} (h:zZ size blocks=true):vj (zdY size blocks):=⟨zi8 h,rfl⟩
theorem zk8 {w1:World} {d:Dev} {db:Nat} (h:zhg w0 d db w1) (hd:vj d) (hpen:d.pen.length<=800000):
  Calls prog 69 #[.pointer (some ⟨db,0,none⟩)] w1 (Ret fun v w'=>((yC d).2≠0/\v=.tuple #[.pointer none,.int .i64 (yC d).2]/\Ext w0 w')\/((yC d).2=0/\∃ b,v=.tuple #[.pointer (some ⟨b,0,none⟩),.int .i64 0]/\At w0 w' b db (qz d))):=by
 obtain⟨F,h1,h2,hx⟩:=h;refine(zhu h1 hpen).mono (Ret.mono ?_);rintro v w' (⟨q1,rfl,F',q2,q3,q4⟩|⟨q1,b,F',rfl,q2,q3,q4,q5⟩)
 ·exact .inl ⟨q1,rfl,Only.ext hx q4 h2⟩
 ·refine .inr ⟨q1,b,rfl,F',q2,fun k hk=>?_,Only.ext hx q5 h2⟩;rcases q4 k hk with e|e
  ·exact h2 k e
  ·exact Nat.le_trans hx.size e
end V
/- Spaces of one's own,short:Commit,Open,Root,Format of nothing. -/
namespace V
open Go Go.Proofs Go.RowKit Crc
variable {w0 w w':World} {b db:Nat} {S:Spa} {R H:List Nat} {M:Option (List Nat)}
end V
/- Contracts of the package space:Abort,Mark,Back,Done,Gen. -/
namespace V
open Go Go.Proofs Go.RowKit Crc
variable {w w':World} {b db:Nat} {S:Spa} {F Fd:Nat->Prop} {x:SLC} {hb hr nb nr:Nat} {m:MkL}
end V
/- Great spaces:contracts,short,by the blocks that they own. -/
namespace V
open Go Go.Proofs Go.RowKit Crc
variable {w w':World} {b db:Nat} {S:Spa} {F:Nat->Prop} {R H:List Nat} {M:Option (List Nat)}
theorem zhz (h:ye w b db S F) {n:Nat} (hn:n<4294967296):Calls prog 88 #[.pointer (some ⟨b,0,none⟩),.int .u32 (n:Int)] w (Ret (zgB w (S.get n))):=by
 obtain⟨Fd,x,hb,hr,nb,nr,m,h⟩:=h;exact uu h hn
def znh (S S':Spa) (p:Page) (R H:List Nat) (M:Option (List Nat)) (n:Nat) (e:Int):Prop:=
 (e=3/\n=0/\S'=S/\S.room p.2.1.length<(p.2.2.size:Int))\/(e=9/\n=0/\S'=S/\S.z7<=S.sup.pages.length)\/(e=0/\vT S S' p n/\Great S' (n::R) H M/\(∀ q∈S'.dev.pen,q∈S.dev.pen\/q.1=(n:Int))/\S.sup.pages.length<S.z7)
theorem zpq {S:Spa} {p:Page} (h:(S.put p).2.2=0):∀ q∈(S.put p).1.dev.pen,q∈S.dev.pen\/q.1=((S.put p).2.1:Int):=by
 revert h
 unfold Spa.put;split
 ·rename_i hq;intro h;exact absurd h hq
 ·split
  ·rename_i _ hq;intro h;exact absurd h hq
  ·split
   ·rename_i _ _ hq;intro h;exact absurd h hq
   ·intro _ q hq
    revert hq
    dsimp only;unfold ym;split
    ·exact fun hq=>.inl hq
    ·unfold Dev.write;split
     ·exact fun hq=>.inl hq
     ·split
      ·exact fun hq=>.inl hq
      ·intro hq;rcases mem_append.1 hq with e|e
       ·exact .inl e
       ·rw[mem_singleton.1 e];exact .inr rfl
theorem zp6 (h:ye w b db S F) {p:Page} {A:Option Addr} {n c:Nat} (hg:Great S (p.2.1++R) H M) (hpen:S.dev.pen.length<=900000) (hs:Sli (zw .u32) w A n p.2.1) (hA:∀ a,A=some a->¬F a.block) (ht:3<=p.1.toNat) (hk:(p.2.1.length:Int)<=S.room 0 / 4) (hds:p.2.2.size<=1000000000):
  Calls prog 24 #[.pointer (some ⟨b,0,none⟩),.agg (pgV p (A,n,c)).toArray] w (Ret fun v w'=>∃ (S':Spa) (k:Nat) (e:Int),v=.tuple #[.int .u32 (k:Int),.int .i64 e]/\znh S S' p R H M k e/\yI w b db F S' w'):=by
 obtain⟨Fd,x,hb,hr,nb,nr,m,h'⟩:=h;have hdim:=hg.good.dims;have hN:=hdim.n;have hsz:=hdim.size;have hroom:=hdim.room;have hku:∀ k∈p.2.1,zO S.sup.pages S.now k=true:=fun k hk=>hg.good.well.root k (mem_append_left _ hk);have hr0:S.room 0=S.sup.size-18:=by unfold Spa.room;rw[hroom,if_neg (by omega)];omega
 refine(zbC h' hg.good.h01 (by have:=hg.good.gen;omega) (by omega) p hs (fun k hk=>by
  have:=hg.good.well.lt (hku k hk)
  omega) hA hds).mono (Ret.mono ?_)
 rintro v w' ⟨rfl,hst⟩;refine⟨(S.put p).1,(S.put p).2.1,(S.put p).2.2,rfl,?_,hst⟩;have c1:¬(p.1.toNat<3\/p.2.1.length>65535\/∃ k∈p.2.1,S.asked k=false):=by
  rintro(e|e|⟨k,hk,e⟩)
  ·omega
  ·omega
  ·rw[(qq hg.good (hku k hk)).1]at e;cases e
 have c2:¬ ∃ k∈p.2.1,S.now.getD k 0=0:=by
  rintro⟨k,hk,e⟩;exact(qq hg.good (hku k hk)).2.1 e
 by_cases hd:(p.2.2.size:Int)<=S.room p.2.1.length
 ·by_cases hf:S.sup.pages.length<S.z7
  ·obtain⟨g1,g2,g3⟩:=zk6 hg ht hk hd hf;exact .inr (.inr ⟨g1,g2,g3,zpq g1,hf⟩)
  ·have hE:S.jU p=9:=by
    unfold Spa.jU;rw[if_neg c1,if_neg c2,if_neg (by rintro(e|e)<;>omega),if_pos (by omega)]
   have hP:S.put p=(S,0,9):=by unfold Spa.put;rw[if_pos (by rw[hE];decide),hE]
   rw[hP];exact .inr (.inl ⟨rfl,rfl,rfl,by omega⟩)
 ·have hE:S.jU p=3:=by
   unfold Spa.jU;rw[if_neg c1,if_neg c2,if_pos (.inr (by omega))]
  have hP:S.put p=(S,0,3):=by unfold Spa.put;rw[if_pos (by rw[hE];decide),hE]
  rw[hP];exact .inl ⟨rfl,rfl,rfl,by omega⟩
theorem zpr (h:ye w b db S F) {n:Nat} (hg:Great S (n::R) H M):Calls prog 28 #[.pointer (some ⟨b,0,none⟩),.int .u32 (n:Int)] w (Ret fun v w'=>v=.int .i64 0/\∃ c':List Nat,Great { S with now:=c' } R H M/\yI w b db F { S with now:=c' } w'/\Drp S.asked S.page S.now [n] c' 0/\∀ k,c'.getD k 0<=S.now.getD k 0):=by
 obtain⟨Fd,x,hb,hr,nb,nr,m,h'⟩:=h;obtain⟨c',d1,d2,d3,d4⟩:=zk5 hg.good;have hu:=hg.good.well.root n (by simp);have hnN:=hg.good.well.lt hu;have hN:=hg.good.dims.n;refine(zeW h' (n:=n) (by omega) (c':=c') (e:=0) (fun _=>d1) (fun e=>by rw[(qq hg.good hu).1]at e;cases e)).mono (Ret.mono ?_);rintro v w' ⟨rfl,hS,hO⟩;exact⟨rfl,c',hg.less d2 d4,⟨F,hS.zfv,fun k hk=>.inl hk,hO⟩,d1,d4⟩
theorem zni (h:ye w b db S F) {n:Nat} (hg:Great S R H M) (hu:zO S.sup.pages S.now n=true) (h6:S.now.getD n 0<65535):
  Calls prog 90 #[.pointer (some ⟨b,0,none⟩),.int .u32 (n:Int)] w (Ret fun v w'=>v=.int .i64 0/\Great { S with now:=S.now.set n (S.now.getD n 0+1) } (n::R) H M/\yI w b db F { S with now:=S.now.set n (S.now.getD n 0+1) } w'):=by
 obtain⟨Fd,x,hb,hr,nb,nr,m,h'⟩:=h;obtain⟨s1,s2,s3⟩:=zj2 hg.good hu h6;have hnN:=hg.good.well.lt hu;have hN:=hg.good.dims.n;refine(zix h' (n:=n) (by omega)).mono (Ret.mono ?_);rintro v w' ⟨rfl,hS,hO⟩;rw[s1];rw[s3]at s2 hS;exact⟨rfl,hg.more hu s2,F,hS.zfv,fun k hk=>.inl hk,hO⟩
end V
/- Contracts of the package tree:get,look,Check. -/
namespace V
open Go Go.Proofs Go.RowKit Crc
variable {w w':World} {b db:Nat} {S:Spa} {F:Nat->Prop}
theorem uy (h:ye w b db S F) {n:Nat} (hn:n<4294967296) {p:Page} {d:Nd} (hg:S.get n=(p,0)) (hd:je p d) (hl:d.2.1.length<=5000):
  Calls prog 166 #[.pointer (some ⟨b,0,none⟩),.int .u32 (n:Int)] w (Ret fun v w'=>∃ x z y,v=.tuple #[.agg (ndV d.1 x z y).toArray,.int .i64 0]/\zaM w' w.heap.size d x z y/\(∀ a,y.1=some a->w.heap.size<=a.block/\a.block<w'.heap.size)/\Ext w w'):=by
 apply zmj;unfold S166;refine zs fun r1 w1 hb1 he1 hr1 hz1=>?_;refine zb (zhz (h.ext he1) hn) ?_;rintro _ w2 ⟨y,rfl,ho,he2⟩;rw[hg]at ho ⊢;refine⟨(pgT p y,0,()),rfl,?_⟩;refine yt (vs:=pgV p y) (by rfl) (kq _ _) (fun r3 w3 hb3 he3 hr3=>?_) (by rfl);refine zd (by rfl) ?_;refine zR (ls:=zfx) (pgT p y) hb3 (by rfl) ?_;have hb1:=(hb1.ext he2).ext he3;have he:=(he1.trans he2).trans he3;have hs1:=he1.size;have hs2:=he2.size;refine zb (ziF (y:=y) hd (ho.sl.ext he3) hl) ?_;rintro _ w4 ⟨x,z,rfl,hN,he4⟩;refine⟨(ndT d.1 x z y,0,()),rfl,?_⟩;have hs3:=he3.size;have hs4:=he4.size;refine refill (vs:=ndV d.1 x z y) (hb1.ext he4) (by rfl) (jt _ _ _ _) (by rfl) ?_;intro w5 hb5 hx5 hk5 hz5;have hlt:=hb5.lt;have he5:Ext w w5:=hx5 w (he.trans he4) (by omega);have heo:=he.trans he4;have o5:Only (fun k=>k=r1) w4 w5:=⟨he5.os.trans heo.os.symm,he5.tape.trans heo.tape.symm,he5.output.trans heo.output.symm,Nat.le_of_eq hz5.symm,fun k _ hk=>hk5 k hk⟩;refine zR (ls:=jf) (ndT d.1 x z y) hb5 (by rfl) ?_;refine⟨x,z,y,rfl,⟨(hN.ks.only o5 (fun j hj e=>by have:=hN.ks.row j hj;have:j=r1:=e;omega)).lower (by omega),(hN.vs.only o5 (fun j hj e=>by have:=hN.vs.row j hj;have:j=r1:=e;omega)).lower (by omega),?_⟩,(fun a ha=>by have:=ho.row a.block (by rw[ha];rfl);have:=ho.yg a.block (by rw[ha];rfl);omega),he5⟩;refine hN.kids.only o5 (fun a ha e=>?_);have:=ho.row a.block (by rw[ha];rfl);have:a.block=r1:=e;omega
theorem qB {t:UInt8} {x y z:SLC}:Calls prog 167 #[.agg (ndV t x y z).toArray] w (Ret fun v w'=>v=.bool ((t.toNat:Int)==3)/\Ext w w'):=by
 apply zmk;unfold S167;refine zs fun r1 w1 hb1 he1 hr1 hz1=>?_;exact zC ((t.toNat:Nat):Int) hb1 (by rfl) ⟨rfl,he1⟩
theorem zaN {t:UInt8} {x y z:SLC}:Calls prog 203 #[.agg (ndV t x y z).toArray] w (Ret fun v w'=>v=.bool ((t.toNat:Int) !=4)/\Ext w w'):=by
 apply zmB;unfold S203;refine zs fun r1 w1 hb1 he1 hr1 hz1=>?_;exact zC ((t.toNat:Nat):Int) hb1 (by rfl) ⟨rfl,he1⟩
def Nd.val (d:Nd) (i:Nat):Nat:=if d.1=4 then d.2.2.1.getD i 0 else d.2.2.2.getD i 0
theorem zhA {N:Nat} {d:Nd} {x y z:SLC} (h:zaM w N d x y z) {i:Nat} (hi:i<if d.1=4 then y.2.1 else z.2.1) (h64:d.val i<18446744073709551616):Calls prog 168 #[.agg (ndV d.1 x y z).toArray,.int .i64 (i:Int)] w (Ret fun v w'=>v=.int .u64 (d.val i:Int)/\Ext w w'):=by
 apply zml;unfold S168;refine zs fun r1 w1 hb1 he1 hr1 hz1=>?_;have hb1:Blk w1 r1 (ndV d.1 x y z) 215:=hb1;refine zR (ls:=jf) (ndT d.1 x y z) hb1 (by rfl) ?_;refine zb zaN ?_;rintro _ w2 ⟨rfl,he2⟩;refine⟨_,rfl,?_⟩;have he:=he1.trans he2;have hb2:=hb1.ext he2;unfold Nd.val at h64 ⊢
 by_cases hq:d.1=4
 ·rw[if_pos hq]at hi h64 ⊢;refine zd (by rw[hq];rfl) ?_;refine zk 2 y hb2 (by rfl) ?_;have hl:=h.vs.sl.le;refine zY (h.vs.sl.ext he) (by omega) (by omega) ?_;rw[Int.toNat_natCast];exact⟨rfl,he⟩
 ·rw[if_neg hq]at hi h64 ⊢;refine zf (bne_iff_ne.2 (fun e=>hq (UInt8.toNat_inj.1 (by show _=4;omega)))) ?_;refine zk 3 z hb2 (by rfl) ?_;have hl:=h.kids.le;refine zY (h.kids.ext he) (by omega) (by omega) ?_;rw[Int.toNat_natCast,zz h64];exact⟨rfl,he⟩
def shV (n lo hi:Nat) (t:UInt8) (tall:Nat):List Value:=[.int .i64 (n:Int),.int .u64 (lo:Int),.int .u64 (hi:Int),.int .u8 (t.toNat:Int),.int .i64 (tall:Int)]
abbrev znj:List Lf:=[.int .i64,.int .u64,.int .u64,.int .u8,.int .i64]
def shT (n lo hi:Nat) (t:UInt8) (tall:Nat):Int×Int×Int×Int×Int×Unit:=((n:Int),(lo:Int),(hi:Int),(t.toNat:Int),(tall:Int),())
theorem za8 (n lo hi:Nat) (t:UInt8) (tall:Nat):∀ v∈shV n lo hi t tall,v.oneCell'=true:=by
 intro v hv;simp only [shV,mem_cons,not_mem_nil,or_false]at hv;rcases hv with rfl|rfl|rfl|rfl|rfl<;>rfl
theorem zf6 (h:ye w b db S F) {n deep:Nat} (hn:n<4294967296) {p:Page} {d:Nd} (hg:S.get n=(p,0)) (hd:je p d) (h3:d.1≠3) (hl:d.2.1.length<=5000) (hdeep:deep<=16) {st:Bool}:
  Calls prog 124 #[.pointer (some ⟨b,0,none⟩),.int .u32 (n:Int),.int .i64 (deep:Int),.bool st] w (Ret fun v w'=>v=.tuple #[.agg (shV d.2.1.length (d.2.1.getD 0 0) (d.2.1.getD (d.2.1.length-1) 0) d.1 1).toArray,.int .i64 0]/\Ext w w'):=by
 have hne:1<=d.2.1.length:=by
  cases hd with
  |refs ks kids h1 h2 h3 h4=>exact h2
  |inner ks kids h1 h2 h3 h4=>exact Nat.le_of_succ_le h2
  |leaf k v h1 h2=>exact Nat.le_refl _
 apply zg2;unfold S124;refine zs fun r1 w1 hb1 he1 hr1 hz1=>?_;refine zb (uy (h.ext he1) hn hg hd hl) ?_;rintro _ w2 ⟨x,z,y,rfl,hN,_,he2⟩;refine⟨(ndT d.1 x z y,0,()),rfl,?_⟩;refine yt (vs:=ndV d.1 x z y) (by rfl) (jt _ _ _ _) (fun r3 w3 hb3 he3 hr3=>?_) (by rfl);refine zd (by rfl) (zd (decide_eq_false (by omega)) ?_);refine zR (ls:=jf) (ndT d.1 x z y) hb3 (by rfl) ?_;refine zb qB ?_;rintro _ w4 ⟨rfl,he4⟩;refine⟨_,rfl,?_⟩;refine zf (by rw[beq_eq_false_iff_ne.2 (fun e=>h3 (UInt8.toNat_inj.1 (by show _=3;omega)))];rfl) ?_;refine zK fun w5 he5 hz5 hh5=>?_;have he25:=(he3.trans he4).trans he5;have he:=(he1.trans he2).trans he25;have hb3:=(hb3.ext he4).ext he5;have hk:=hN.ks.sl.ext he25;have hxl:=hk.len;have hxle:=hk.le;refine zk 1 x hb3 (by rfl) (zk 1 x hb3 (by rfl) ?_);refine zY hk (by omega) (by omega) ?_;refine zk 1 x hb3 (by rfl) (zk 1 x hb3 (by rfl) ?_);rw[show wrap .i64 ((x.2.1:Int)-1)=((d.2.1.length-1:Nat):Int) by rw[wrap_i64 (by omega) (by omega)];omega];refine zY hk (by omega) (by omega) ?_;rw[Int.toNat_natCast];refine zC ((d.1.toNat:Nat):Int) hb3 (by rfl) ?_;have hb1:=((hb1.ext he2).ext he25);refine refill (vs:=shV x.2.1 (d.2.1.getD 0 0) (d.2.1.getD (d.2.1.length-1) 0) d.1 1) hb1 (by rfl) (za8 _ _ _ _ _) (by rfl) ?_;intro w6 hb6 hx6 hk6 hz6;refine zR (ls:=znj) (shT x.2.1 (d.2.1.getD 0 0) (d.2.1.getD (d.2.1.length-1) 0) d.1 1) hb6 (by rfl) ?_;exact⟨by rw[<- hxl];rfl,hx6 w he (by omega)⟩
theorem znk (h:ye w b db S F) {n:Nat} (hn:n<4294967296) {p:Page} {kn:Nat->Nat} {kp:Nat->Page} {kd:Nat->Nd} {t:UInt8} (ht:t≠3)
  (hg:S.get n=(p,0)) (hd:je p ((3:UInt8),[(kd 0).2.1.getD 0 0,(kd 1).2.1.getD 0 0],[],[kn 0,kn 1]))
  (hk:∀ i,i<2->kn i<4294967296/\S.get (kn i)=(kp i,0)/\je (kp i) (kd i)/\(kd i).1=t/\(kd i).2.1.length<=5000)
  (hr:(kd 0).2.1.getD ((kd 0).2.1.length-1) 0<(kd 1).2.1.getD 0 0) {st:Bool}:
  Calls prog 124 #[.pointer (some ⟨b,0,none⟩),.int .u32 (n:Int),.int .i64 1,.bool st] w (Ret fun v w'=>(∃ n lo hi t tl,v=.tuple #[.agg (shV n lo hi t tl).toArray,.int .i64 0])/\Ext w w'):=by
 apply zg2;unfold S124;refine zs fun r1 w1 hb1 he1 hr1 hz1=>?_;refine zb (uy (h.ext he1) hn hg hd (by show 2<=5000;omega)) ?_;rintro _ w2 ⟨x,z,y,rfl,hN,hyr,he2⟩;refine⟨(ndT 3 x z y,0,()),rfl,?_⟩;refine yt (vs:=ndV 3 x z y) (by rfl) (jt _ _ _ _) (fun r3 w3 hb3 he3 hr3=>?_) (by rfl);refine zd (by rfl) (zd (by rfl) ?_);refine zR (ls:=jf) (ndT 3 x z y) hb3 (by rfl) ?_;refine zb qB ?_;rintro _ w4 ⟨rfl,he4⟩;refine⟨_,rfl,zd (by rfl) ?_⟩;have he34:=he3.trans he4;have hb34:=hb3.ext he4;refine zk 3 y hb34 (by rfl) ?_;have hN3:zaM w4 w1.heap.size _ x z y:=⟨hN.ks.ext he34,hN.vs.ext he34,hN.kids.ext he34⟩;have hyl:2=y.2.1:=hN3.kids.len;have hxl:2=x.2.1:=hN3.ks.len;have he04:=(he1.trans he2).trans he34;have hb14:Blk w4 r1 (shV 0 0 0 0 0) 197:=(hb1.ext he2).ext he34;have hl1:=hb14.lt;have hl3:=hb34.lt;have hs2:=he2.size;have hxr:=hN3.ks.row
 -- the worlds of the rounds differ from w4 at r1 alone
 refine zu (fun t' w'=>∃ i:Nat,i<=2/\t'=((i:Int),())/\Ext w w'/\Only (fun k=>k=r1) w4 w'/\∃ c lo hi,Blk w' r1 (if i=0 then shV 0 0 0 0 0 else shV c lo hi t 2) 197/\(i=1->hi=(kd 0).2.1.getD ((kd 0).2.1.length-1) 0)/\c<=5000*i) (fun t'=>(2-t'.1).toNat)
  ⟨0,by omega,rfl,he04,Only.refl _ _,0,0,0,hb14,by simp,by omega⟩ ?_
 rintro _ w5 ⟨i,hi2,rfl,he5,o5,c,lo,hi,b5,hhi,hc⟩;dsimp only;have hb5:=hb34.only o5 (by omega)
 by_cases hlt:i<2
 ·refine zf (decide_eq_true (by omega)) ?_;refine yi (fun(_:Unit) w'=>Ext w w'/\Only (fun k=>k=r1) w4 w'/\∃ c lo hi,Blk w' r1 (shV c lo hi t 2) 197/\(i=0->hi=(kd 0).2.1.getD ((kd 0).2.1.length-1) 0)/\c<=5000*(i+1)) ?_ (fun J hJ=>?_)
  ·rintro _ w6 ⟨g1,g2,c',lo',hi',g3,g4,g5⟩;exact⟨⟨i+1,by omega,by rw[wrap_i64 (by omega) (by omega)];rfl,g1,g2,c',lo',hi',by rw[if_neg (by omega)];exact g3,fun e=>g4 (by omega),g5⟩,by rw[wrap_i64 (by omega) (by omega)];omega⟩
  have hkid5:=hN3.kids.only o5 (fun a ha e=>by have:=(hyr a ha).1;have:a.block=r1:=e;omega);refine zY hkid5 (by omega) (by omega) ?_;rw[Int.toNat_natCast];obtain⟨k1,k2,k3,k4,k5⟩:=hk i hlt;have ek:([kn 0,kn 1]:List Nat).getD i 0=kn i:=by
   rcases (show i=0\/i=1 by omega) with rfl|rfl<;>rfl
  have ekk:([(kd 0).2.1.getD 0 0,(kd 1).2.1.getD 0 0]:List Nat).getD i 0=(kd i).2.1.getD 0 0:=by
   rcases (show i=0\/i=1 by omega) with rfl|rfl<;>rfl
  rw[show([kn 0,kn 1]:List Nat).getD i 0=kn i from ek];rw[show wrap .i64 (1+1)=((2:Nat):Int) by decide];refine zb (zf6 (h.ext he5) k1 k2 k3 (by rw[k4];exact ht) k5 (deep:=2) (by omega)) ?_;rintro _ w6 ⟨rfl,he6⟩;refine⟨(shT (kd i).2.1.length ((kd i).2.1.getD 0 0) ((kd i).2.1.getD ((kd i).2.1.length-1) 0) (kd i).1 1,0,()),rfl,?_⟩;refine yt (vs:=shV (kd i).2.1.length ((kd i).2.1.getD 0 0) ((kd i).2.1.getD ((kd i).2.1.length-1) 0) (kd i).1 1) (by rfl) (za8 _ _ _ _ _) (fun r28 w7 hb7 he7 hr7=>?_) (by rfl);refine zd (by rfl) ?_;rw[k4]at hb7;have he57:=he6.trans he7;have b7:=b5.ext he57;have h37:=hb5.ext he57;have hk7:=(hN3.ks.only o5 (fun j hj e=>by have:=hxr j hj;have:j=r1:=e;omega)).ext he57;have hs5:=o5.2.2.2.1;have hs6:=he6.size;refine yi (fun(y':Bool×Unit) w'=>y'=(false,())/\∃ _:w7.heap.size<=w'.heap.size,Ext w7 w') ?_ (fun J31 hJ31=>?_);rotate_left
  ·refine zK fun w8 he8 hz8 hh8=>?_;have hb8:=hb7.ext he8;have b8:=b7.ext he8;refine zk 1 (((kd i).2.1.getD 0 0:Nat):Int) hb8 (by rfl) ?_;refine zk 1 x (h37.ext he8) (by rfl) ?_;refine zY (hk7.sl.ext he8) (by omega) (by omega) ?_;rw[Int.toNat_natCast,ekk];refine zd (by simp) ?_;have hfin:=hJ31 (false,()) w8 ⟨rfl,by omega,he8⟩
   by_cases h0:i=0
   ·exact zd (decide_eq_false (by omega)) hfin
   ·obtain rfl:i=1:=by omega
    refine zf (by rfl) ?_;have b8:Blk w8 r1 (shV c lo hi t 2) 197:=b8;refine zk 2 ((hi:Nat):Int) b8 (by rfl) ?_;refine zk 1 (((kd 1).2.1.getD 0 0:Nat):Int) hb8 (by rfl) ?_;refine zd (decide_eq_false (by rw[hhi rfl];omega)) ?_;refine zk 3 ((t.toNat:Nat):Int) b8 (by rfl) ?_;refine zk 3 ((t.toNat:Nat):Int) hb8 (by rfl) ?_;refine zd (by simp) ?_;refine zk 4 ((2:Nat):Int) b8 (by rfl) ?_;refine zk 4 ((1:Nat):Int) hb8 (by rfl) ?_;exact hfin
  ·rintro _ w8 ⟨rfl,hs8,he8⟩;refine yi (fun(_:Unit) w'=>w'=w8) ?_ (fun J43 hJ43=>by
    refine zg (fun _=>zd (by rfl) (hJ43 _ _ rfl)) (fun _=>hJ43 _ _ rfl))
   rintro _ w9 rfl;have hb9:=hb7.ext he8;have b9:=b7.ext he8;have hl9:=b9.lt;refine yi (fun(_:Unit) w'=>Only (fun k=>k=r1) w9 w'/\∃ lo',Blk w' r1 (if i=0 then shV 0 lo' 0 0 0 else shV c lo' hi t 2) 197) ?_ (fun J47 hJ47=>?_);rotate_left
   ·refine zg (fun hq=>?_) (fun hq=>hJ47 _ _ ⟨Only.refl _ _,lo,?_⟩)
    ·have hq:(i:Int)=0:=beq_iff_eq.1 hq;obtain rfl:i=0:=by omega
     refine zk 1 (((kd 0).2.1.getD 0 0:Nat):Int) hb9 (by rfl) ?_;refine stE (o:=1) b9 (by rw[zx]) (by show 1<5;omega) ?_;intro w10 b10 o10;exact hJ47 _ _ ⟨o10,_,b10⟩
    ·have hq:¬(i:Int)=0:=beq_eq_false_iff_ne.1 hq;rw[if_neg (by omega)]at b9 ⊢;exact b9
   rintro _ w10 ⟨o10,lo',b10⟩;have hl28:=hb9.lt;have hb10:=hb9.only o10 (by omega);have e0:∃ c0 lo0 hi0 t0 tl0,c0<=5000*i/\Blk w10 r1 (shV c0 lo0 hi0 t0 tl0) 197:=by
    split at b10
    ·exact⟨_,_,_,_,_,by omega,b10⟩
    ·exact⟨_,_,_,_,_,hc,b10⟩
   obtain⟨c0,lo0,hi0,t0,tl0,hc0,b10⟩:=e0;refine zC ((c0:Nat):Int) b10 (by rfl) ?_;refine zC (((kd i).2.1.length:Nat):Int) hb10 (by rfl) ?_;refine zk 1 ((lo0:Nat):Int) b10 (by rfl) ?_;refine zk 2 (((kd i).2.1.getD ((kd i).2.1.length-1) 0:Nat):Int) hb10 (by rfl) ?_;refine zk 3 ((t.toNat:Nat):Int) hb10 (by rfl) ?_;refine zk 4 ((1:Nat):Int) hb10 (by rfl) ?_;rw[show wrap .i64 ((c0:Int)+((kd i).2.1.length:Int))=((c0+(kd i).2.1.length:Nat):Int) by rw[wrap_i64 (by omega) (by omega)];rfl,show wrap .i64 (((1:Nat):Int)+1)=((2:Nat):Int) by decide];refine zpp (o:=0) (vs:=shV (c0+(kd i).2.1.length) lo0 ((kd i).2.1.getD ((kd i).2.1.length-1) 0) t 2) b10 (by rfl) (by show 0+5<=5;omega) (za8 _ _ _ _ _) (by rfl) ?_;intro w11 b11 o11;have b11:Blk w11 r1 (shV (c0+(kd i).2.1.length) lo0 ((kd i).2.1.getD ((kd i).2.1.length-1) 0) t 2) 197:=b11;have oo:Only (fun k=>k=r1) w5 w11:=Only.trans (Only.trans (Only.zG (he57.trans he8)) o10 (fun j hj=>.inl hj)) o11 (fun j hj=>.inl hj);refine hJ _ _ ⟨Only.ext he5 oo (fun j hj=>by have:j=r1:=hj;omega),Only.trans o5 oo (fun j hj=>.inl hj),_,_,_,b11,fun e=>by subst e;rfl,by omega⟩
 ·obtain rfl:i=2:=by omega
  refine zd (decide_eq_false (by omega)) ?_;have b5:Blk w5 r1 (shV c lo hi t 2) 197:=b5;refine zR (ls:=znj) (shT c lo hi t 2) b5 (by rfl) ?_;refine refill (vs:=shV c lo hi t 2) b5 (by rfl) (za8 _ _ _ _ _) (by rfl) ?_;intro w6 hb6 hx6 hk6 hz6;refine zR (ls:=znj) (shT c lo hi t 2) hb6 (by rfl) ?_;exact⟨⟨_,_,_,_,_,rfl⟩,hx6 w he5 (by omega)⟩
end V
/- Contracts of the package tree:Check,walk,Each. -/
namespace V
open Go Go.Proofs Go.RowKit Crc
variable {w w':World} {b db:Nat} {S:Spa} {F:Nat->Prop} {R:List Nat}
theorem Owni.cong {α:Type} {E:Enc α} {e:TypeId} {w w':World} {B:Nat} {A:Option Addr} {n c:Nat} {xs:List α} (h:Owni E e w B A n c xs) (hs:∀ j,orow A=some j->w'.heap[j]?=w.heap[j]?):Owni E e w' B A n c xs:=by
 refine⟨h.1,?_⟩;rcases h.2 with hn|⟨g,cap,cur,hv,hb,hgg,rest⟩
 ·exact .inl hn
 ·have hA:orow A=some g:=by
   injection hv with hv
   rw[hv];rfl
  exact .inr ⟨g,cap,cur,hv,hb,(hs g hA).trans hgg,rest⟩
theorem jH.get {n:Nat} {ks vs:List Nat} (h:jH S n ks vs) (hg:Good S R) (hu:zO S.sup.pages S.now n=true):S.get n=(((5:UInt8),vs,mkB (k8B ks)),0)/\je ((5:UInt8),vs,mkB (k8B ks)) ((5:UInt8),ks,[],vs)/\n<4294967296:=by
 have h1:=h.ok;rw[h.1]at h1;refine⟨(hg.get hu).1.trans h.1,h1,?_⟩;have:=hg.well.lt hu;have:=hg.dims.n;omega
theorem getD_take {l:List Nat} {m i:Nat} (h:i<m):(l.take m).getD i 0=l.getD i 0:=by
 rw[getD_eq_getElem?_getD,List.getElem?_take,if_pos h,<- getD_eq_getElem?_getD]
theorem uc {l:List Nat} {m i:Nat}:(l.drop m).getD i 0=l.getD (m+i) 0:=by
 rw[getD_eq_getElem?_getD,List.getElem?_drop,<- getD_eq_getElem?_getD]
def kdT (ks vs:List Nat) (m:Nat) (i:Nat):Nd:=if i=0 then ((5:UInt8),ks.take m,[],vs.take m) else ((5:UInt8),ks.drop m,[],vs.drop m)
theorem zhB (h:ye w b db S F) (hg:Good S R) {n:Nat} {ks vs:List Nat} (ht:vk S n ks vs) (hu:zO S.sup.pages S.now n=true) (hl:ks.length<=5000):
  Calls prog 79 #[.pointer (some ⟨b,0,none⟩),.int .u32 (n:Int)] w (Ret fun v w'=>v=.int .i64 0/\Ext w w'):=by
 have hn2:=(zT.1 hu).1;have hn32:n<4294967296:=by
  have:=hg.well.lt hu;have:=hg.dims.n;omega
 have hlook:Calls prog 124 #[.pointer (some ⟨b,0,none⟩),.int .u32 (n:Int),.int .i64 1,.bool true] w (Ret fun v w'=>(∃ n lo hi t tl,v=.tuple #[.agg (shV n lo hi t tl).toArray,.int .i64 0])/\Ext w w'):=by
  cases ht with
  |one hA=>
   obtain⟨g1,g2,g3⟩:=hA.get hg hu;refine(zf6 h hn32 g1 g2 (by show(5:UInt8)≠3;decide) hl (deep:=1) (by omega)).mono (Ret.mono ?_);rintro v w' ⟨rfl,he⟩;exact⟨⟨_,_,_,_,_,rfl⟩,he⟩
  |two m a c h1 h2 h3 h4 h5 h6 h7 h8=>
   have hkid:yu S.page n=[a,c]:=by unfold yu;rw[h6]
   have hua:=((hg.well.good n hu).2 a (by rw[hkid];simp));have huc:=((hg.well.good n hu).2 c (by rw[hkid];simp));obtain⟨a1,a2,a3⟩:=h7.get hg hua;obtain⟨c1,c2,c3⟩:=h8.get hg huc;have e0:(ks.take m).getD 0 0=ks.getD 0 0:=getD_take (by omega);have e1:(ks.drop m).getD 0 0=ks.getD m 0:=uc;have htl:(ks.take m).length=m:=by rw[length_take];omega
   have hdl:(ks.drop m).length=ks.length-m:=length_drop;have hin:je (S.page n).1 ((3:UInt8),[ks.getD 0 0,ks.getD m 0],[],[a,c]):=by
    rw[h6];refine je.inner _ _ rfl (by simp) ?_ ?_
    ·have:=zcL h4 (m-1) 0 (by omega);rw[show 0+(m-1)+1=m by omega]at this;show(decide (ks.getD 0 0<ks.getD m 0)&&true)=true;rw[decide_eq_true this];rfl
    ·intro q hq;simp only [mem_cons,not_mem_nil,or_false]at hq;have hm:∀ i,i<ks.length->ks.getD i 0<18446744073709551616:=fun i hi=>by
      rw[getD_eq_getElem?_getD,List.getElem?_eq_getElem hi];exact h5 _ (getElem_mem _)
     rcases hq with rfl|rfl
     ·exact hm _ (by omega)
     ·exact hm _ h2
   refine znk (t:=5) (kn:=fun i=>if i=0 then a else c) (kd:=kdT ks vs m) (kp:=fun i=>if i=0 then ((5:UInt8),vs.take m,mkB (k8B (ks.take m))) else ((5:UInt8),vs.drop m,mkB (k8B (ks.drop m)))) h hn32 (by decide) ((hg.get hu).1.trans (Prod.ext rfl (hg.get hu).2)) (p:=(S.page n).1) ?_ (fun i hi=>?_) ?_
   ·show je _ ((3:UInt8),[(ks.take m).getD 0 0,(ks.drop m).getD 0 0],[],[a,c]);rw[e0,e1];exact hin
   ·rcases (show i=0\/i=1 by omega) with rfl|rfl
    ·exact⟨a3,a1,a2,rfl,by show(ks.take m).length<=5000;omega⟩
    ·exact⟨c3,c1,c2,rfl,by show(ks.drop m).length<=5000;omega⟩
   ·show(ks.take m).getD ((ks.take m).length-1) 0<(ks.drop m).getD 0 0;rw[htl,e1,getD_take (by omega)];have:=qV.1 h4 (m-1) (by omega);rw[show m-1+1=m by omega]at this;exact this
 apply zoV;unfold S79;refine zd (by rfl) (zd (beq_eq_false_iff_ne.2 (by omega)) ?_);refine zb hlook ?_;rintro _ w1 ⟨⟨n',lo,hi,t,tl,rfl⟩,he1⟩;refine⟨(shT n' lo hi t tl,0,()),rfl,?_⟩;refine yt (vs:=shV n' lo hi t tl) (by rfl) (za8 _ _ _ _ _) (fun r2 w2 hb2 he2 hr2=>?_) (by rfl);exact⟨rfl,he1.trans he2⟩
def Yld (P:Program) (l:Nat) (L:List (List Value)) (R:WP) (J:(Nat->Prop)->Nat->WP) (E:(Nat->Prop)->WP):Prop:=
 ∀ (V:Nat->Prop) i w' (h:i<L.length),J V i w'->(∀ k,V k->k<w'.heap.size)->jI P l L[i] w' fun v w''=>w'.heap.size<=w''.heap.size/\(∀ k,V k->w''.heap[k]?=w'.heap[k]?)/\((v=.bool true/\R w''/\J V (i+1) w'')\/(v=.bool false/\E V w''))
def Stay (R:WP) (J:(Nat->Prop)->Nat->WP):Prop:=∀ (V V':Nat->Prop) i w' w'',J V i w'->Only V w' w''->(∀ k,V' k->V k\/w'.heap.size<=k)->R w''->J V' i w''
def zcM (k v:Nat):List Value:=[.int .u64 (k:Int),.int .u64 (v:Int)]
def zc9 (w:World) (V:Nat->Prop) (J:(Nat->Prop)->Nat->WP) (E:(Nat->Prop)->WP) (i:Nat) (v:Value) (w':World):Prop:=
 ∃ V':Nat->Prop,(∀ k,V' k->V k\/w.heap.size<=k)/\(∀ k,V k->V' k)/\(∀ k,V' k->k<w'.heap.size)/\(∀ k,V k->w'.heap[k]?=w.heap[k]?)/\w.heap.size<=w'.heap.size/\((v=.bool true/\J V' i w')\/(v=.bool false/\E V' w'))
theorem zqo {l:Nat} {L:List (List Value)} {R:WP} {J:(Nat->Prop)->Nat->WP} {E:(Nat->Prop)->WP} (hY:Yld prog l L R J E) {V:Nat->Prop} {i k v:Nat} {w2:World} {K:Bool->WP} (hJ:J V i w2) (hV:∀ q,V q->q<w2.heap.size) (hL:L[i]?=some (zcM k v))
  (hK1:∀ w3,w2.heap.size<=w3.heap.size->(∀ k,V k->w3.heap[k]?=w2.heap[k]?)->R w3->J V (i+1) w3->K true w3) (hK2:∀ w3,w2.heap.size<=w3.heap.size->(∀ k,V k->w3.heap[k]?=w2.heap[k]?)->E V w3->K false w3):
  yJ prog (.func (.yield l) #[] #[]) [.int .u64 (k:Int),.int .u64 (v:Int)] (.one (.one .bool)) K w2:=by
 obtain⟨hi,hL⟩:=List.getElem?_eq_some_iff.1 hL;refine .inr ⟨l,rfl,?_⟩;have hy:=hY V i w2 hi hJ hV;rw[hL]at hy;obtain⟨fn,tmps,asg,bd,hy1,hy2⟩:=hy;refine⟨fn,tmps,asg,bd,hy1,RoundIn.mono hy2 ?_⟩;rintro(v|cc|_) w6 hvv
 ·obtain⟨a1,a2,⟨rfl,a3,a4⟩|⟨rfl,a3⟩⟩:=hvv
  ·exact⟨true,rfl,hK1 w6 a1 a2 a3 a4⟩
  ·exact⟨false,rfl,hK2 w6 a1 a2 a3⟩
 ·exact hvv
 ·exact hvv
theorem zf7 {l:Nat} {L:List (List Value)} {J:(Nat->Prop)->Nat->WP} {E:(Nat->Prop)->WP} {V:Nat->Prop} (hY:Yld prog l L (fun w=>ye w b db S F) J E) (hS:Stay (fun w=>ye w b db S F) J) (hR:∀ V i w',J V i w'->ye w' b db S F)
  {n deep i0:Nat} (hn:n<4294967296) {p:Page} {d:Nd} (hg:S.get n=(p,0)) (hd:je p d) (h3:d.1≠3) (hl:d.2.1.length<=5000) (hv:∀ i,d.val i<18446744073709551616) (hdeep:deep<=16)
  (hL:∀ j,j<d.2.1.length->L[i0+j]?=some (zcM (d.2.1.getD j 0) (d.val j))) (hJ:J V i0 w) (hV:∀ k,V k->k<w.heap.size):
  Calls prog 126 #[.pointer (some ⟨b,0,none⟩),.int .u32 (n:Int),.int .u64 0,.int .i64 (deep:Int),.func (.yield l) #[] #[]] w (Ret (zc9 w V J E (i0+d.2.1.length))):=by
 have h:=hR _ _ _ hJ;apply zg3;unfold S126;refine zb (uy h hn hg hd hl) ?_;rintro _ w1 ⟨x,z,y,rfl,hN,hyr,he1⟩;refine⟨(ndT d.1 x z y,0,()),rfl,?_⟩;refine yt (vs:=ndV d.1 x z y) (by rfl) (jt _ _ _ _) (fun r2 w2 hb2 he2 hr2=>?_) (by rfl);refine zd (by rfl) (zd (decide_eq_false (by omega)) ?_);refine zk 1 x hb2 (by rfl) ?_;have he:=he1.trans he2;have hs1:=he1.size;have hs2:=he2.size;have hl2:=hb2.lt;have hN2:zaM w2 w.heap.size d x z y:=⟨hN.ks.ext he2,hN.vs.ext he2,hN.kids.ext he2⟩;have hxl:=hN2.ks.len;have hxle:=hN2.ks.sl.le;have hlen:∀ i,i<d.2.1.length->i<if d.1=4 then z.2.1 else y.2.1:=fun i hi=>by
  have a1:=hN2.vs.len;have a2:=hN2.kids.len;cases hd with
  |refs ks kids h1 h2 h3 h4=>rw[if_neg (show ¬(5:UInt8)=4 by decide)];dsimp only at a2 hi;omega
  |inner ks kids h1 h2 h3 h4=>exact absurd rfl h3
  |leaf k v h1 h2=>rw[if_pos rfl];dsimp only at a1 hi;rw[<- a1];exact hi
 let V1:Nat->Prop:=fun q=>V q\/(w.heap.size<=q/\q<w2.heap.size)
 have hV1:∀ q,V1 q->q<w2.heap.size:=fun q hq=>by
  rcases hq with e|e
  ·have:=hV q e;omega
  ·exact e.2
 have hVn:∀ q,V1 q->V q\/w.heap.size<=q:=fun q hq=>hq.imp id (fun e=>e.1);have hJ2:J V1 i0 w2:=hS _ _ _ _ _ hJ (Only.zG he) hVn (h.ext he);refine zu (fun t w'=>∃ i:Nat,i<=d.2.1.length/\t=((i:Int),())/\J V1 (i0+i) w'/\(∀ q,V1 q->w'.heap[q]?=w2.heap[q]?)/\w2.heap.size<=w'.heap.size) (fun t=>(d.2.1.length-t.1).toNat) ⟨0,by omega,rfl,hJ2,fun _ _=>rfl,Nat.le_refl _⟩ ?_;rintro _ w3 ⟨i,hi,rfl,hJ3,hkp,hs3⟩;dsimp only;have fin:∀ {w4:World} {r:Bool},w3.heap.size<=w4.heap.size->(∀ q,V1 q->w4.heap[q]?=w2.heap[q]?)->((r=true/\J V1 (i0+d.2.1.length) w4)\/(r=false/\E V1 w4))->zc9 w V J E (i0+d.2.1.length) (.bool r) w4:=by
  intro w4 r a1 a2 a3;refine⟨V1,hVn,fun k hk=>.inl hk,fun k hk=>by have:=hV1 k hk;omega,fun k hk=>(a2 k (.inl hk)).trans (he.block k (hV k hk)),by omega,?_⟩;rcases a3 with ⟨rfl,a3⟩|⟨rfl,a3⟩
  ·exact .inl ⟨rfl,a3⟩
  ·exact .inr ⟨rfl,a3⟩
 by_cases hlt:i<d.2.1.length
 ·refine zf (decide_eq_true (by omega)) ?_;have hb3:Blk w3 r2 (ndV d.1 x z y) 215:=(hkp r2 (.inr ⟨by omega,hl2⟩)).trans hb2;have hin:∀ q,w.heap.size<=q->q<w2.heap.size->w3.heap[q]?=w2.heap[q]?:=fun q h1 h2=>hkp q (.inr ⟨h1,h2⟩);have hk3:Sli (zw .u64) w3 x.1 x.2.1 d.2.1:=hN2.ks.sl.congr (fun a ha=>hin _ (hN2.ks.row _ (by rw[ha];rfl)) (hN2.ks.yg _ (by rw[ha];rfl)));refine zR (ls:=jf) (ndT d.1 x z y) hb3 (by rfl) ?_;refine zb qB ?_;rintro _ w4 ⟨rfl,he4⟩;refine⟨_,rfl,?_⟩;refine zf (by rw[beq_eq_false_iff_ne.2 (fun e=>h3 (UInt8.toNat_inj.1 (by show _=3;omega)))];rfl) ?_;refine zK fun w5 he5 hz5 hh5=>?_;have he35:=he4.trans he5;have hb5:=hb3.ext he35;have hk5:=hk3.ext he35;refine zk 1 x hb5 (by rfl) ?_;refine zY hk5 (by omega) (by omega) ?_;refine zf (decide_eq_true (by omega)) ?_;refine zk 1 x hb5 (by rfl) ?_;refine zE ⟨by omega,by omega⟩ ?_;have ek:d.2.1[i]?=some (d.2.1.getD i 0):=by rw[getD_eq_getElem?_getD,List.getElem?_eq_getElem hlt];rfl
  obtain⟨a,ha,hsp,hcell⟩:=hk5.at_ ek;refine⟨a,ha,?_⟩;rw[Int.toNat_natCast];have hc0:w5.cell? (a.add (i*1))=some (.int .u64 ((d.2.1.getD i 0:Nat):Int)):=by
   have:=hcell.1;rw[add_zero]at this;exact this
  refine zaC (l:=.int .u64) (x:=((d.2.1.getD i 0:Nat):Int)) (by exact hc0) ?_;refine zR (ls:=jf) (ndT d.1 x z y) hb5 (by rfl) ?_;have hN5:zaM w5 w.heap.size d x z y:=by
   refine⟨(hN2.ks.cong (fun j hj=>hin _ (hN2.ks.row _ hj) (hN2.ks.yg _ hj))).ext he35,(hN2.vs.cong (fun j hj=>hin _ (hN2.vs.row _ hj) (hN2.vs.yg _ hj))).ext he35,(hN2.kids.congr (fun a ha=>?_)).ext he35⟩;have:=hyr a ha;exact hin _ this.1 (by omega)
  refine zb (zhA hN5 (hlen i hlt) (hv i)) ?_;rintro _ w6 ⟨rfl,he6⟩;refine⟨_,rfl,?_⟩;have he36:=he35.trans he6;have hs6:=he36.size;refine jo (fun p hp=>by rw[mem_singleton.1 hp];exact he6.cell hc0) (yF (hb5.ext he6) rfl) ?_;have hJ6:J V1 (i0+i) w6:=hS _ _ _ _ _ hJ3 (Only.zG he36) (fun k hk=>.inl hk) ((hR _ _ _ hJ3).ext he36);have hkp6:∀ q,V1 q->w6.heap[q]?=w2.heap[q]?:=fun q hq=>(he36.block q (by have:=hV1 q hq;omega)).trans (hkp q hq);refine zqo hY hJ6 (fun q hq=>by have:=hV1 q hq;omega) (hL i hlt) (fun w7 a1 a2 a3 a4=>?_) (fun w7 a1 a2 a3=>?_)
  ·refine zd (by rfl) ?_;exact⟨⟨i+1,by omega,by rw[wrap_i64 (by omega) (by omega)];rfl,a4,fun q hq=>(a2 q hq).trans (hkp6 q hq),by omega⟩,by rw[wrap_i64 (by omega) (by omega)];omega⟩
  ·refine zf (by rfl) ?_;exact fin (by omega) (fun q hq=>(a2 q hq).trans (hkp6 q hq)) (.inr ⟨rfl,a3⟩)
 ·obtain rfl:i=d.2.1.length:=by omega
  refine zd (decide_eq_false (by omega)) ?_;exact fin (Nat.le_refl _) hkp (.inl ⟨rfl,hJ3⟩)
theorem znl {l:Nat} {L:List (List Value)} {J:(Nat->Prop)->Nat->WP} {E:(Nat->Prop)->WP} {V:Nat->Prop} (hY:Yld prog l L (fun w=>ye w b db S F) J E) (hS:Stay (fun w=>ye w b db S F) J) (hR:∀ V i w',J V i w'->ye w' b db S F)
  {n:Nat} (hn:n<4294967296) {p:Page} {kn:Nat->Nat} {kp:Nat->Page} {kd:Nat->Nd} {t:UInt8} (ht:t≠3)
  (hg:S.get n=(p,0)) (hd:je p ((3:UInt8),[(kd 0).2.1.getD 0 0,(kd 1).2.1.getD 0 0],[],[kn 0,kn 1]))
  (hk:∀ i,i<2->kn i<4294967296/\S.get (kn i)=(kp i,0)/\je (kp i) (kd i)/\(kd i).1=t/\(kd i).2.1.length<=5000/\∀ j,(kd i).val j<18446744073709551616)
  (hr:0<(kd 1).2.1.getD 0 0)
  (hL:∀ i j,i<2->j<(kd i).2.1.length->L[(if i=0 then 0 else (kd 0).2.1.length)+j]?=some (zcM ((kd i).2.1.getD j 0) ((kd i).val j))) (hJ:J V 0 w) (hV:∀ k,V k->k<w.heap.size):
  Calls prog 126 #[.pointer (some ⟨b,0,none⟩),.int .u32 (n:Int),.int .u64 0,.int .i64 1,.func (.yield l) #[] #[]] w (Ret (zc9 w V J E ((kd 0).2.1.length+(kd 1).2.1.length))):=by
 have h:=hR _ _ _ hJ;apply zg3;unfold S126;refine zb (uy h hn hg hd (by show 2<=5000;omega)) ?_;rintro _ w1 ⟨x,z,y,rfl,hN,hyr,he1⟩;refine⟨(ndT 3 x z y,0,()),rfl,?_⟩;refine yt (vs:=ndV 3 x z y) (by rfl) (jt _ _ _ _) (fun r2 w2 hb2 he2 hr2=>?_) (by rfl);refine zd (by rfl) (zd (by rfl) ?_);refine zk 1 x hb2 (by rfl) ?_;have he:=he1.trans he2;have hs1:=he1.size;have hs2:=he2.size;have hl2:=hb2.lt;have hN2:zaM w2 w.heap.size _ x z y:=⟨hN.ks.ext he2,hN.vs.ext he2,hN.kids.ext he2⟩;have hyl:2=y.2.1:=hN2.kids.len;have hxl:2=x.2.1:=hN2.ks.len
 let V1:Nat->Prop:=fun q=>V q\/(w.heap.size<=q/\q<w2.heap.size)
 have hV1:∀ q,V1 q->q<w2.heap.size:=fun q hq=>by
  rcases hq with e|e
  ·have:=hV q e;omega
  ·exact e.2
 have hVn:∀ q,V1 q->V q\/w.heap.size<=q:=fun q hq=>hq.imp id (fun e=>e.1);have hJ2:J V1 0 w2:=hS _ _ _ _ _ hJ (Only.zG he) hVn (h.ext he)
 let at_:Nat->Nat:=fun i=>if i=0 then 0 else if i=1 then (kd 0).2.1.length else (kd 0).2.1.length+(kd 1).2.1.length
 refine zu (fun t w'=>∃ (i:Nat) (Vi:Nat->Prop),i<=2/\t=((i:Int),())/\J Vi (at_ i) w'/\(∀ q,V1 q->Vi q)/\(∀ q,Vi q->V1 q\/w2.heap.size<=q)/\(∀ q,Vi q->q<w'.heap.size)/\(∀ q,V1 q->w'.heap[q]?=w2.heap[q]?)/\w2.heap.size<=w'.heap.size) (fun t=>(2-t.1).toNat) ⟨0,V1,by omega,rfl,hJ2,fun _ h=>h,fun _ h=>.inl h,hV1,fun _ _=>rfl,Nat.le_refl _⟩ ?_;rintro _ w3 ⟨i,Vi,hi,rfl,hJ3,hv1,hv2,hv3,hkp,hs3⟩;dsimp only;have fin:∀ {w4:World} {r:Bool} {Vj:Nat->Prop},w3.heap.size<=w4.heap.size->(∀ q,V1 q->Vj q)->(∀ q,Vj q->V1 q\/w2.heap.size<=q)->(∀ q,Vj q->q<w4.heap.size)->(∀ q,V1 q->w4.heap[q]?=w2.heap[q]?)->((r=true/\J Vj ((kd 0).2.1.length+(kd 1).2.1.length) w4)\/(r=false/\E Vj w4))->zc9 w V J E ((kd 0).2.1.length+(kd 1).2.1.length) (.bool r) w4:=by
  intro w4 r Vj a1 b1 b2 b3 a2 a3;refine⟨Vj,fun k hk=>?_,fun k hk=>b1 k (.inl hk),b3,fun k hk=>(a2 k (.inl hk)).trans (he.block k (hV k hk)),by omega,?_⟩
  ·rcases b2 k hk with e|e
   ·exact hVn k e
   ·exact .inr (by omega)
  ·rcases a3 with ⟨rfl,a3⟩|⟨rfl,a3⟩
   ·exact .inl ⟨rfl,a3⟩
   ·exact .inr ⟨rfl,a3⟩
 by_cases hlt:i<2
 ·refine zf (decide_eq_true (by omega)) ?_;have hb3:Blk w3 r2 (ndV 3 x z y) 215:=(hkp r2 (.inr ⟨by omega,hl2⟩)).trans hb2;have hin:∀ q,w.heap.size<=q->q<w2.heap.size->w3.heap[q]?=w2.heap[q]?:=fun q h1 h2=>hkp q (.inr ⟨h1,h2⟩);have hk3:=hN2.ks.sl.congr (w':=w3) (fun a ha=>hin _ (hN2.ks.row _ (by rw[ha];rfl)) (hN2.ks.yg _ (by rw[ha];rfl)));have hy3:=hN2.kids.congr (w':=w3) (fun a ha=>hin _ (hyr a ha).1 (by have:=(hyr a ha).2;omega));refine zR (ls:=jf) (ndT 3 x z y) hb3 (by rfl) ?_;refine zb qB ?_;rintro _ w4 ⟨rfl,he4⟩;refine⟨_,rfl,?_⟩;refine zd (by rfl) ?_;have hb4:=hb3.ext he4;have hs4:=he4.size;have hJ4:J Vi (at_ i) w4:=hS _ _ _ _ _ hJ3 (Only.zG he4) (fun k hk=>.inl hk) ((hR _ _ _ hJ3).ext he4);have hkp4:∀ q,V1 q->w4.heap[q]?=w2.heap[q]?:=fun q hq=>(he4.block q (by have:=hV1 q hq;omega)).trans (hkp q hq);obtain⟨k1,k2,k3,k4,k5,k6⟩:=hk i hlt;have ek:([kn 0,kn 1]:List Nat).getD i 0=kn i:=by
   rcases (show i=0\/i=1 by omega) with rfl|rfl<;>rfl
  have ea:at_ i=if i=0 then 0 else (kd 0).2.1.length:=by
   rcases (show i=0\/i=1 by omega) with rfl|rfl<;>rfl
  have ea1:at_ (i+1)=at_ i+(kd i).2.1.length:=by
   rcases (show i=0\/i=1 by omega) with rfl|rfl
   ·show(kd 0).2.1.length=0+_;omega
   ·rfl
  have rec_:=zf7 (w:=w4) hY hS hR k1 k2 k3 (by rw[k4];exact ht) k5 k6 (deep:=2) (by omega) (i0:=at_ i) (fun j hj=>by rw[ea];exact hL i j hlt hj) hJ4 (fun k hk=>by have:=hv3 k hk;omega);have next:∀ (v:Value) w5,zc9 w4 Vi J E (at_ i+(kd i).2.1.length) v w5->∃ r:Bool,v=.bool r/\w4.heap.size<=w5.heap.size/\∃ Vj:Nat->Prop,(∀ q,V1 q->Vj q)/\(∀ q,Vj q->V1 q\/w2.heap.size<=q)/\(∀ q,Vj q->q<w5.heap.size)/\(∀ q,V1 q->w5.heap[q]?=w2.heap[q]?)/\((r=true/\J Vj (at_ (i+1)) w5)\/(r=false/\E Vj w5)):=by
   rintro v w5 ⟨Vj,c1,c2,c3,c4,c5,c6⟩;rw[ea1];refine(?_:∀ P:Prop,P->P) _ ?_
   ·exact fun _ h=>h
   have g1:∀ q,Vj q->V1 q\/w2.heap.size<=q:=fun q hq=>by
    rcases c1 q hq with e|e
    ·exact hv2 q e
    ·exact .inr (by omega)
   have g2:∀ q,V1 q->w5.heap[q]?=w2.heap[q]?:=fun q hq=>(c4 q (hv1 q hq)).trans (hkp4 q hq);rcases c6 with ⟨rfl,c6⟩|⟨rfl,c6⟩
   ·exact⟨true,rfl,c5,Vj,fun q hq=>c2 q (hv1 q hq),g1,c3,g2,.inl ⟨rfl,c6⟩⟩
   ·exact⟨false,rfl,c5,Vj,fun q hq=>c2 q (hv1 q hq),g1,c3,g2,.inr ⟨rfl,c6⟩⟩
  refine zk 1 x hb4 (by rfl) ?_;have hw:wrap .i64 ((i:Int)+1)=((i+1:Nat):Int):=by rw[wrap_i64 (by omega) (by omega)];rfl
  rw[hw]
  by_cases h0:i+1<2
  ·obtain rfl:i=0:=by omega
   refine zf (decide_eq_true (by omega)) ?_;refine zk 1 x hb4 (by rfl) ?_;refine zY (hk3.ext he4) (by omega) (by omega) ?_;rw[Int.toNat_natCast];refine zd (decide_eq_false (show ¬(((kd 1).2.1.getD 0 0:Nat):Int)<=0 by omega)) ?_;refine zk 3 y hb4 (by rfl) ?_;refine zY (hy3.ext he4) (by omega) (by omega) ?_;rw[Int.toNat_natCast,show([kn 0,kn 1]:List Nat).getD 0 0=kn 0 from rfl];refine zb rec_ ?_;intro v w5 hw5;obtain⟨r,rfl,c0,Vj,c1,c2,c3,c4,c5⟩:=next v w5 hw5
   refine⟨r,rfl,?_⟩;rcases c5 with ⟨rfl,c5⟩|⟨rfl,c5⟩
   ·exact zd (by rfl) ⟨⟨1,Vj,by omega,rfl,c5,c1,c2,c3,c4,by omega⟩,by omega⟩
   ·exact zf (by rfl) (fin (by omega) c1 c2 c3 c4 (.inr ⟨rfl,c5⟩))
  ·obtain rfl:i=1:=by omega
   refine zd (decide_eq_false (by omega)) ?_;refine zk 3 y hb4 (by rfl) ?_;refine zY (hy3.ext he4) (by omega) (by omega) ?_;rw[Int.toNat_natCast,show([kn 0,kn 1]:List Nat).getD 1 0=kn 1 from rfl];refine zb rec_ ?_;intro v w5 hw5;obtain⟨r,rfl,c0,Vj,c1,c2,c3,c4,c5⟩:=next v w5 hw5
   refine⟨r,rfl,?_⟩;rcases c5 with ⟨rfl,c5⟩|⟨rfl,c5⟩
   ·exact zd (by rfl) ⟨⟨2,Vj,by omega,rfl,c5,c1,c2,c3,c4,by omega⟩,by omega⟩
   ·exact zf (by rfl) (fin (by omega) c1 c2 c3 c4 (.inr ⟨rfl,c5⟩))
 ·obtain rfl:i=2:=by omega
  refine zd (decide_eq_false (by omega)) ?_;exact fin (Nat.le_refl _) hv1 hv2 hv3 hkp (.inl ⟨rfl,hJ3⟩)
end V
/- Contracts of the package tree:Each. -/
namespace V
open Go Go.Proofs Go.RowKit Crc
variable {w w':World} {b db:Nat} {S:Spa} {F:Nat->Prop} {R:List Nat}
def zbH (ks vs:List Nat):List (List Value):=(ks.zip vs).map fun p=>zcM p.1 p.2
theorem zaO {ks vs:List Nat} (h:ks.length=vs.length):(zbH ks vs).length=ks.length:=by
 simp[zbH,h]
theorem zbI {ks vs:List Nat} (h:ks.length=vs.length) {j:Nat} (hj:j<ks.length):(zbH ks vs)[j]?=some (zcM (ks.getD j 0) (vs.getD j 0)):=by
 have e1:ks[j]?=some (ks.getD j 0):=by rw[getD_eq_getElem?_getD,List.getElem?_eq_getElem hj];rfl
 have e2:vs[j]?=some (vs.getD j 0):=by rw[getD_eq_getElem?_getD,List.getElem?_eq_getElem (by omega)];rfl
 unfold zbH;rw[List.getElem?_map,List.getElem?_zip_eq_some.2 (show ks[j]?=some (ks.getD j 0,vs.getD j 0).1/\vs[j]?=some (ks.getD j 0,vs.getD j 0).2 from⟨e1,e2⟩)];rfl
def zfA (b db:Nat) (S:Spa) (F:Nat->Prop) (n:Nat) (L:List (List Value)):Prop:=
 ∀ (w:World) (l:Nat) (J:(Nat->Prop)->Nat->WP) (E:(Nat->Prop)->WP) (V:Nat->Prop),Yld prog l L (fun w=>ye w b db S F) J E->Stay (fun w=>ye w b db S F) J->(∀ V i w',J V i w'->ye w' b db S F)->J V 0 w->(∀ k,V k->k<w.heap.size)->
  Calls prog 126 #[.pointer (some ⟨b,0,none⟩),.int .u32 (n:Int),.int .u64 0,.int .i64 1,.func (.yield l) #[] #[]] w (Ret (zc9 w V J E L.length))
theorem zj5 {n:Nat} (hn:n<4294967296) {p:Page} {d:Nd} (hg:S.get n=(p,0)) (hd:je p d) (h3:d.1≠3) (hl:d.2.1.length<=5000) (hv:∀ i,d.val i<18446744073709551616) {L:List (List Value)} (hLl:L.length=d.2.1.length)
  (hL:∀ j,j<d.2.1.length->L[j]?=some (zcM (d.2.1.getD j 0) (d.val j))):zfA b db S F n L:=by
 intro w l J E V hY hS hR hJ hV;have:=zf7 (w:=w) hY hS hR hn hg hd h3 hl hv (deep:=1) (by omega) (i0:=0) (fun j hj=>by rw[Nat.zero_add];exact hL j hj) hJ hV;rw[Nat.zero_add,<- hLl]at this;exact this
theorem js {l:List Nat} {N:Nat} (h:∀ k∈l,k<N) (hN:0<N) (i:Nat):l.getD i 0<N:=by
 rw[getD_eq_getElem?_getD];cases hq:l[i]? with
 |none=>exact hN
 |some v=>exact h v (mem_of_getElem? hq)
theorem zj6 (hg:Good S R) {n:Nat} {ks vs:List Nat} (ht:vk S n ks vs) (hu:zO S.sup.pages S.now n=true) (hl:ks.length<=5000) (hvs:∀ k∈vs,k<4294967296):zfA b db S F n (zbH ks vs):=by
 have hn32:n<4294967296:=by
  have:=hg.well.lt hu;have:=hg.dims.n;omega
 have hval:∀ i,vs.getD i 0<18446744073709551616:=fun i=>by have:=js hvs (by omega) i;omega
 cases ht with
 |one hA=>
  obtain⟨g1,g2,g3⟩:=hA.get hg hu;exact zj5 hn32 g1 g2 (by show(5:UInt8)≠3;decide) hl hval (zaO hA.2.1) (fun j hj=>zbI hA.2.1 hj)
 |two m a c h1 h2 h3 h4 h5 h6 h7 h8=>
  have hkid:yu S.page n=[a,c]:=by unfold yu;rw[h6]
  have hua:=((hg.well.good n hu).2 a (by rw[hkid];simp));have huc:=((hg.well.good n hu).2 c (by rw[hkid];simp));obtain⟨a1,a2,a3⟩:=h7.get hg hua;obtain⟨c1,c2,c3⟩:=h8.get hg huc;have e0:(ks.take m).getD 0 0=ks.getD 0 0:=getD_take (by omega);have e1:(ks.drop m).getD 0 0=ks.getD m 0:=uc;have htl:(ks.take m).length=m:=by rw[length_take];omega
  have hdl:(ks.drop m).length=ks.length-m:=length_drop;have hlt:=zcL h4 (m-1) 0 (by omega);rw[show 0+(m-1)+1=m by omega]at hlt;have hm:∀ i,i<ks.length->ks.getD i 0<18446744073709551616:=fun i hi=>by
   rw[getD_eq_getElem?_getD,List.getElem?_eq_getElem hi];exact h5 _ (getElem_mem _)
  have hin:je (S.page n).1 ((3:UInt8),[ks.getD 0 0,ks.getD m 0],[],[a,c]):=by
   rw[h6];refine je.inner _ _ rfl (by simp) ?_ ?_
   ·show(decide (ks.getD 0 0<ks.getD m 0)&&true)=true;rw[decide_eq_true hlt];rfl
   ·intro q hq;simp only [mem_cons,not_mem_nil,or_false]at hq;rcases hq with rfl|rfl
    ·exact hm _ (by omega)
    ·exact hm _ h2
  intro w l J E V hY hS hR hJ hV;have:=znl (w:=w) hY hS hR (t:=5) (kn:=fun i=>if i=0 then a else c) (kd:=kdT ks vs m) (kp:=fun i=>if i=0 then ((5:UInt8),vs.take m,mkB (k8B (ks.take m))) else ((5:UInt8),vs.drop m,mkB (k8B (ks.drop m)))) hn32 (by decide) ((hg.get hu).1.trans (Prod.ext rfl (hg.get hu).2)) (p:=(S.page n).1) ?_ (fun i hi=>?_) ?_ (fun i j hi hj=>?_) hJ hV
  ·have e2:(kdT ks vs m 0).2.1.length+(kdT ks vs m 1).2.1.length=(zbH ks vs).length:=by
    show(ks.take m).length+(ks.drop m).length=_;rw[zaO h3];omega
   rw[e2]at this;exact this
  ·show je _ ((3:UInt8),[(ks.take m).getD 0 0,(ks.drop m).getD 0 0],[],[a,c]);rw[e0,e1];exact hin
  ·rcases (show i=0\/i=1 by omega) with rfl|rfl
   ·exact⟨a3,a1,a2,rfl,by show(ks.take m).length<=5000;omega,fun j=>by show(vs.take m).getD j 0<_;have:=js (l:=vs.take m) (fun k hk=>hvs k (List.mem_of_mem_take hk)) (by omega) j;omega⟩
   ·exact⟨c3,c1,c2,rfl,by show(ks.drop m).length<=5000;omega,fun j=>by show(vs.drop m).getD j 0<_;have:=js (l:=vs.drop m) (fun k hk=>hvs k (List.mem_of_mem_drop hk)) (by omega) j;omega⟩
  ·show 0<(ks.drop m).getD 0 0;rw[e1];omega
  ·rcases (show i=0\/i=1 by omega) with rfl|rfl
   ·have hj:j<(ks.take m).length:=hj;show(zbH ks vs)[0+j]?=some (zcM ((ks.take m).getD j 0) ((vs.take m).getD j 0));rw[Nat.zero_add,getD_take (by omega),getD_take (by omega)];exact zbI h3 (by omega)
   ·have hj:j<(ks.drop m).length:=hj;show(zbH ks vs)[(ks.take m).length+j]?=some (zcM ((ks.drop m).getD j 0) ((vs.drop m).getD j 0));rw[htl,uc,uc];exact zbI h3 (by omega)
def Three (b n r1 r2 r3:Nat):WP:=fun w=>Blk w r1 [.pointer (some ⟨b,0,none⟩)] 48/\Blk w r2 [.int .u32 (n:Int)] 41/\Blk w r3 [.int .u64 0] 42
theorem zj7 {n:Nat} {L:List (List Value)} (hw:zfA b db S F n L) (hn0:n≠0):
  Calls prog 80 #[.pointer (some ⟨b,0,none⟩),.int .u32 (n:Int),.int .u64 0] w (Ret fun v w'=>∃ (Q:Nat->Prop) (R0:WP),zjZ prog v L (fun w=>ye w b db S F) Q R0 (fun _=>True) (fun _ _=>True)/\R0 w'/\(∀ w1 w2,R0 w1->Ext w1 w2->R0 w2)/\(∀ k,Q k->k<w'.heap.size)/\(∀ k,Q k->w.heap.size<=k)/\Ext w w'):=by
 apply zoW;unfold S80;refine zs fun r1 w1 hb1 he1 hr1 hz1=>?_;refine zs fun r2 w2 hb2 he2 hr2 hz2=>?_;refine zs fun r3 w3 hb3 he3 hr3 hz3=>?_;have he:=(he1.trans he2).trans he3;refine⟨fun k=>k=r1\/k=r2\/k=r3,Three b n r1 r2 r3,?_,⟨(hb1.ext he2).ext he3,hb2.ext he3,hb3⟩,fun w1 w2 h1 h2=>⟨h1.1.ext h2,h1.2.1.ext h2,h1.2.2.ext h2⟩,fun k hk=>by rcases hk with rfl|rfl|rfl<;>omega,fun k hk=>by rcases hk with rfl|rfl|rfl<;>omega,he⟩;refine⟨_,_,rfl,by kernel_rfl,fun l J E wc hJ0 hQc hR0c hJR hJs hEs hY=>?_⟩;obtain⟨k1,k2,k3⟩:=hR0c;apply zlW;unfold S125;refine zC (some (aD b)) k1 (by rfl) (zf (by rfl) ?_);refine zC ((n:Nat):Int) k2 (by rfl) (zf (bne_iff_ne.2 (by omega)) ?_);refine zC (some (aD b)) k1 (by rfl) (zC ((n:Nat):Int) k2 (by rfl) (zC (0:Int) k3 (by rfl) ?_));refine zb (hw _ _ _ _ _ (fun V i w' h hJ hV=>hY V i w' h hJ hV (fun _ _=>trivial)) hJs hJR hJ0 hQc) ?_;rintro v w4 ⟨V',a1,a2,a3,a4,a5,⟨rfl,a6⟩|⟨rfl,a6⟩⟩
 ·exact⟨true,rfl,V',.inl ⟨a6,a1,trivial⟩⟩
 ·exact⟨false,rfl,V',.inr a6⟩
end V
/- Contracts of the package blob:Most,Put. -/
namespace V
open Go Go.Proofs Go.RowKit Crc
variable {w w':World} {b db:Nat} {S:Spa} {F Fd:Nat->Prop} {x:SLC} {hb hr nb nr:Nat} {m:MkL}
theorem qb {S:Spa} (h:zae S):S.room 0=(S.r0:Int)/\110<=S.r0/\S.r0<=4078/\S.sup.size=(S.r0:Int)+18:=by
 have hsz:=h.size;have hr0:S.room 0=S.sup.size-18:=by unfold Spa.room;rw[h.room,if_neg (by omega)];omega
 unfold Spa.r0;omega
theorem zj8 (h:SpM w b db S F Fd x hb hr nb nr m):
  Calls prog 131 #[.pointer (some ⟨b,0,none⟩)] w (Ret fun v w'=>v=.int .i64 (qU S.r0:Int)/\Ext w w'):=by
 obtain⟨h0,h1,h2,h3⟩:=qb h.dims;apply zlZ;unfold S131;refine zb (jc h (k:=0) (by omega) (by omega)) ?_;rintro _ w1 ⟨rfl,he⟩;refine⟨_,rfl,?_,he⟩;rw[h0];have e1:wrap .i64 ((S.r0:Int)-4)=((S.r0-4:Nat):Int):=by rw[wrap_i64 (by omega) (by omega)];omega
 have e2:wrap .i64 (Int.tdiv ((S.r0-4:Nat):Int) 4)=(((S.r0-4) / 4:Nat):Int):=by
  rw[show Int.tdiv ((S.r0-4:Nat):Int) 4=(((S.r0-4) / 4:Nat):Int) from rfl,wrap_i64 (by omega) (by omega)]
 have hm:(S.r0-4) / 4*S.r0<=1019*4078:=Nat.mul_le_mul (by omega) h2;have hm1:26*110<=(S.r0-4) / 4*S.r0:=Nat.mul_le_mul (by omega) h1;have e3:wrap .i64 ((((S.r0-4) / 4:Nat):Int)*(S.r0:Int))=(((S.r0-4) / 4*S.r0:Nat):Int):=by
  rw[<- Int.natCast_mul,wrap_i64 (by omega) (by omega)]
 rw[e1,e2,e3];unfold qU;generalize (S.r0-4) / 4*S.r0=M at *;refine congrArg (Value.int .i64) ?_
 by_cases hM:M<65536
 ·rw[if_pos (show(M:Int)<65536 by omega),if_pos (show(M:Int)>0 by omega)];omega
 ·rw[if_neg (show ¬(M:Int)<65536 by omega),if_pos (by decide)];omega
theorem zeZ {r1 r2 r8 n c:Nat} {A:Option Addr} {ks c':List Nat} {e:Int} (h:SpM w b db S F Fd x hb hr nb nr m) (h1:Blk w r1 [.pointer (some ⟨b,0,none⟩)] 48) (h2:Blk w r2 [.int .i64 e] 28) (h8:Blk w r8 [.slice A n c] 54)
  (hs:Sli (zw .u32) w A n ks) (h32:∀ k∈ks,k<4294967296) (hf1:¬F r1) (hf2:¬F r2) (hA:∀ a,A=some a->¬F a.block) (hD:e≠0->Drps S.asked S.page S.now ks c'):
  uJ prog 132 [.pointer (some ⟨r2,0,none⟩),.pointer (some ⟨r8,0,none⟩),.pointer (some ⟨r1,0,none⟩)] w fun _ w'=>SpM w' b db { S with now:=if e=0 then S.now else c' } F Fd x hb hr nb nr m/\Only F w w'/\Blk w' r2 [.int .i64 e] 28:=by
 apply zkB;unfold S132;refine zo (x:=e) h2 (by rfl) ?_;refine zg (fun hq=>?_) (fun hq=>?_)
 ·have hq:=bne_iff_ne.1 hq;rw[if_neg hq];have hD:=hD hq;refine zo (l:=.slc) (x:=(A,n,c)) h8 (by rfl) ?_;dsimp only;have hl:=hs.len;have hle:=hs.le;refine zu (fun y w'=>∃ (i:Nat) (cc:List Nat),i<=n/\y=((i:Int),())/\SpM w' b db { S with now:=cc } F Fd x hb hr nb nr m/\Only F w w'/\Drps S.asked S.page cc (ks.drop i) c') (fun y=>(n-y.1).toNat) ⟨0,S.now,by omega,rfl,h,Only.refl F w,hD⟩ ?_;rintro _ w1 ⟨i,cc,hi,rfl,hS,hO,hDi⟩;dsimp only
  by_cases hlt:i<n
  ·refine zf (decide_eq_true (by omega)) ?_;refine zY (hs.only hO hA) (by omega) (by omega) ?_;rw[Int.toNat_natCast];have eg:ks[i]?=some (ks.getD i 0):=by rw[getD_eq_getElem?_getD,List.getElem?_eq_getElem (by omega)];rfl
   have hk32:=h32 _ (mem_of_getElem? eg);have edrop:ks.drop i=ks.getD i 0::ks.drop (i+1):=by
    obtain⟨q1,q2⟩:=List.getElem?_eq_some_iff.1 eg;rw[drop_eq_getElem_cons q1,q2]
   rw[edrop]at hDi;refine zo (x:=some ⟨b,0,none⟩) (h1.only hO hf1) (by rfl) ?_;generalize ks.getD i 0=k at *;cases hDi with
   |@cons _ c1 _ _ _ e1 d1 d2 d3=>
   refine zb (zeW hS hk32 (c':=c1) (e:=e1) d1 d2) ?_;rintro _ w2 ⟨rfl,hS2,hO2⟩;refine⟨_,rfl,?_⟩;refine⟨⟨i+1,c1,by omega,by rw[wrap_i64 (by omega) (by omega)];rfl,hS2,Only.trans hO hO2 (fun j hj=>.inl hj),d3⟩,by rw[wrap_i64 (by omega) (by omega)];omega⟩
  ·obtain rfl:i=n:=by omega
   refine zd (decide_eq_false (by omega)) ?_;rw[drop_of_length_le (by omega)]at hDi;cases hDi;exact⟨hS,hO,h2.only hO hf2⟩
 ·have hq:=bne_eq_false_iff_eq.1 hq;rw[if_pos hq];exact⟨h,Only.refl F w,h2⟩
def znI (w:World) (b db:Nat) (F:Nat->Prop) (S:Spa) (R:List Nat) (bs:ByteArray) (v:Value) (w':World):Prop:=
 (qU S.r0<bs.size/\v=.tuple #[.int .u32 0,.int .i64 3]/\yI w b db F S w')\/
 (bs.size<=qU S.r0/\S.sup.pages.length+nparts S.r0 bs.size+1<=S.z7/\∃ (S1 S2:Spa) (ks:List Nat) (n:Nat),Puts S S1 R ks (vU S.r0 bs (nparts S.r0 bs.size))/\vT S1 S2 ((6:UInt8),ks,mkB (le 4 bs.size)) n/\Good S2 (n::R)/\v=.tuple #[.int .u32 (n:Int),.int .i64 0]/\yI w b db F S2 w')\/
 (bs.size<=qU S.r0/\S.z7<S.sup.pages.length+nparts S.r0 bs.size+1/\∃ (S1:Spa) (ks:List Nat) (ps:List Page),Puts S S1 R ks ps/\Good { S1 with now:=S.now } R/\v=.tuple #[.int .u32 0,.int .i64 9]/\yI w b db F { S1 with now:=S.now } w')
theorem zcN {r len:Nat} (h1:110<=r) (hm:len<=qU r):4*nparts r len+4<=r/\nparts r len<=65536:=by
 unfold qU at hm;have h2:len<=(r-4) / 4*r:=by omega
 have h3:nparts r len<=(r-4) / 4:=by
  unfold nparts;rw[Nat.div_le_iff_le_mul_add_pred (by omega)];rw[Nat.mul_comm r];omega
 have h4:nparts r len<=len:=by
  unfold nparts;rw[Nat.div_le_iff_le_mul_add_pred (by omega)];have:len<=r*len:=Nat.le_mul_of_pos_left _ (by omega);omega
 omega
theorem zj9 {R:List Nat} (h:SpM w b db S F Fd x hb hr nb nr m) (hg:Good S R) (hpen:S.dev.pen.length<=900000) (bs:ByteArray) (hbs:bs.size<=1000000000):
  Calls prog 85 #[.pointer (some ⟨b,0,none⟩),.string bs] w (Ret (znI w b db F S R bs)):=by
 obtain⟨q0,q1,q2,q3⟩:=qb h.dims;have hFlt:=h.lt;apply zo1;unfold S85;refine zs fun r1 w1 hb1 he1 hr1 hz1=>?_;refine zs fun r2 w2 hb2 he2 hr2 hz2=>?_;have hb1:=hb1.ext he2;have he:=he1.trans he2;refine zo (x:=some ⟨b,0,none⟩) hb1 (by rfl) (zd (by rfl) ?_);refine zo (x:=some ⟨b,0,none⟩) hb1 (by rfl) ?_;refine zb (zj8 (h.ext he)) ?_;rintro _ w3 ⟨rfl,he3⟩;refine⟨_,rfl,?_⟩;have hb1:=hb1.ext he3;have hb2:=hb2.ext he3;have he3':=he.trans he3;have hs1:=he1.size;refine zg (fun hq=>?_) (fun hq=>?_)
 ·have hq:=of_decide_eq_true hq;refine zU hb2 (by show 0<1;omega) ?_;refine zo (x:=(3:Int)) (hb2.set 0 (.int .i64 3)) (by rfl) ?_;exact .inl ⟨by omega,rfl,yI.ext h.zfv (he3'.set (p:=⟨r2,0,none⟩) (by show w.heap.size<=r2;omega) _)⟩
 have hmost:bs.size<=qU S.r0:=by have:=of_decide_eq_false hq;omega
 obtain⟨hn1,hn2⟩:=zcN q1 hmost;refine zs fun r8 w4 hb8 he4 hr8 hz8=>?_;have hb1:=hb1.ext he4;have hb2:=hb2.ext he4;have he4':=he3'.trans he4;refine zo (x:=some ⟨b,0,none⟩) hb1 (by rfl) ?_;refine zb (jc (h.ext he4') (k:=0) (by omega) (by omega)) ?_;rintro _ w5 ⟨rfl,he5⟩;refine⟨_,rfl,?_⟩;rw[q0];refine zE (by omega) ?_;have hb1:=hb1.ext he5;have hb2:=hb2.ext he5;have hb8:=hb8.ext he5;have he5':=he4'.trans he5;have hr1l:=hb1.lt;have hr2l:=hb2.lt;have hr8l:=hb8.lt;have hs3:=he3.size;generalize hm:nparts S.r0 bs.size=M at *;have eM:wrap .i64 (Int.tdiv (wrap .i64 (wrap .i64 (((bs.size:Nat):Int)+(S.r0:Int))-1)) (S.r0:Int))=(M:Int):=by
  rw[wrap_i64 (x:=((bs.size:Nat):Int)+(S.r0:Int)) (by omega) (by omega),wrap_i64 (x:=((bs.size:Nat):Int)+(S.r0:Int)-1) (by omega) (by omega)];rw[show((bs.size:Nat):Int)+(S.r0:Int)-1=((bs.size+S.r0-1:Nat):Int) by omega,show Int.tdiv ((bs.size+S.r0-1:Nat):Int) (S.r0:Int)=(((bs.size+S.r0-1) / S.r0:Nat):Int) from rfl];have:(bs.size+S.r0-1) / S.r0=M:=hm;rw[this,wrap_i64 (by omega) (by omega)]
 rw[eM];have hnF:∀ j,w.heap.size<=j->¬F j:=fun j hj hf=>by have:=hFlt j hf;omega
 -- the end, with an error: what was put goes back
 have fail:∀ {S1:Spa} {ks:List Nat} {F':Nat->Prop} {w9:World} {A:Option Addr} {c:Nat} (i:Nat),i=ks.length->Puts S S1 R ks (vU S.r0 bs i)->ye w9 b db S1 F'->(∀ k,F' k->F k\/w5.heap.size<=k)->Only F w w9->S.z7<S.sup.pages.length+M+1->
   Blk w9 r1 [.pointer (some ⟨b,0,none⟩)] 48->Blk w9 r2 [.int .i64 0] 28->Blk w9 r8 [.slice A i c] 54->Sli (zw .u32) w9 A i ks->(∀ a,A=some a->w.heap.size<=a.block/\a.block≠r1/\a.block≠r2/\a.block≠r8/\¬F' a.block)->
   stW ⟨r2,0,none⟩ (.int .i64 9) (zS prog (⟨.fn (.func 132) #[.pointer (some ⟨r2,0,none⟩),.pointer (some ⟨r8,0,none⟩),.pointer (some ⟨r1,0,none⟩)],#[]⟩::[]) (ldW (.int .i64) ⟨r2,0,none⟩ fun u=>znI w b db F S R bs (.tuple #[.int .u32 0,.int .i64 u]))) w9:=by
  rintro S1 ks F' w9 A c i rfl hP ⟨Fd',x',hb',hr',nb',nr',m',hS1⟩ hF' hO hfull k1 k2 k8 hs hA;refine zU k2 (by show 0<1;omega) ?_;have hg9:=yP w9 r2 0 (.int .i64 9);have oc:Only (fun k=>k=r2) w9 (w9.setCell ⟨r2,0,none⟩ (.int .i64 9)):=Only.z8 hg9 (fun j hj=>.inl (by injection hj with hj;exact hj.symm));have k2':=k2.set 0 (.int .i64 9);have hF5:∀ j,w.heap.size<=j->j<w5.heap.size->¬F' j:=fun j a1 a2 hf=>by
   rcases hF' j hf with e|e
   ·exact hnF j a1 e
   ·omega
  have hS1':=hS1.only oc (fun j hj e=>hF5 r2 (by omega) (by omega) (by rw[<- show j=r2 from e];exact hj));obtain⟨c',u1,u2,u3⟩:=hP.undo hg (fun j hj=>by
   unfold vU
   simp[getD_eq_getElem?_getD,hj])
  have h32:∀ k∈ks,k<4294967296:=fun k hk=>by have:=(hP.mem hk).2.1;have:=h.dims.n;omega
  refine .inr ⟨_,_,rfl,by kernel_rfl,?_⟩;refine CallsDIn.mono (zeZ (c':=c') hS1' (k1.only oc (by show ¬r1=r2;omega)) k2' (k8.only oc (by show ¬r8=r2;omega)) (hs.only oc (fun a ha e=>(hA a ha).2.2.1 e)) h32 (hF5 r1 (by omega) (by omega)) (hF5 r2 (by omega) (by omega)) (fun a ha=>(hA a ha).2.2.2.2) (fun _=>u1)) ?_;rintro e u' w10 ⟨hu,hR⟩;refine⟨hu,?_⟩;cases e with
  |returned v=>
   obtain⟨p1,p2,p3⟩:=hR;refine zo (x:=(9:Int)) p3 (by rfl) (.inr (.inr ⟨hmost,by rw[hm];omega,S1,ks,_,hP,by rw[<- u2];exact u3,rfl,F',?_,fun k hk=>?_,?_⟩))
   ·rw[if_neg (by decide),u2]at p1;exact p1.zfv
   ·rcases hF' k hk with e|e
    ·exact .inl e
    ·exact .inr (Nat.le_trans he5'.size e)
   ·have o9:Only F w (w9.setCell ⟨r2,0,none⟩ (.int .i64 9)):=Only.trans hO oc (fun j hj=>.inr (by have:j=r2:=hj;omega));exact Only.trans o9 p2 (fun j hj=>by
     rcases hF' j hj with e|e
     ·exact .inl e
     ·exact .inr (Nat.le_trans he5'.size e))
  |panicked c=>exact hR.elim
  |outgrown=>exact hR.elim
 refine zu (fun y w'=>∃ (i:Nat) (Si:Spa) (ks:List Nat) (F':Nat->Prop) (A:Option Addr) (c:Nat),i<=M/\i=ks.length/\y=((i:Int),())/\Puts S Si R ks (vU S.r0 bs i)/\ye w' b db Si F'/\(∀ k,F' k->F k\/w5.heap.size<=k)/\Only F w w'/\w5.heap.size<=w'.heap.size/\
   Blk w' r1 [.pointer (some ⟨b,0,none⟩)] 48/\Blk w' r2 [.int .i64 0] 28/\Blk w' r8 [.slice A i c] 54/\Owni (zw .u32) 41 w' w5.heap.size A i c ks/\(∀ j,orow A=some j->¬F' j)) (fun y=>(M-y.1).toNat)
  ⟨0,S,[],F,none,0,by omega,rfl,rfl,Puts.nil hg,(h.ext he5').zfv,fun k hk=>.inl hk,Only.zG he5',Nat.le_refl _,hb1,hb2,hb8,Owni.nil _ _ _,fun j hj=>by cases hj⟩ ?_
 rintro _ w6 ⟨i,Si,ks,F',A,c,hi,hik,rfl,hP,hAt,hF',hO,hsz,k1,k2,k8,ho,hAF⟩;dsimp only;have hF5:∀ j,w.heap.size<=j->j<w5.heap.size->¬F' j:=fun j a1 a2 hf=>by
  rcases hF' j hf with e|e
  ·exact hnF j a1 e
  ·omega
 have hF'w:∀ k,F' k->F k\/w.heap.size<=k:=fun k hk=>by
  rcases hF' k hk with e|e
  ·exact .inl e
  ·exact .inr (Nat.le_trans he5'.size e)
 have hrow:∀ a,A=some a->w5.heap.size<=a.block:=fun a ha=>ho.row _ (by rw[ha];rfl);have hAok:∀ a,A=some a->w.heap.size<=a.block/\a.block≠r1/\a.block≠r2/\a.block≠r8/\¬F' a.block:=fun a ha=>by
  have:=hrow a ha;exact⟨by omega,by omega,by omega,by omega,hAF _ (by rw[ha];rfl)⟩
 have hfr:S.z7=ks.length+Si.z7:=by
  unfold Spa.z7;rw[hP.free,length_append]
 have hr0i:Si.r0=S.r0/\Si.room 0=(S.r0:Int)/\∀ k,Si.room k=S.room k:=by
  have:∀ k,Si.room k=S.room k:=fun k=>by unfold Spa.room;rw[hP.sup]
  refine⟨by unfold Spa.r0;rw[this],by rw[this];exact q0,this⟩
 have hpeni:Si.dev.pen.length<=1000000:=by rw[hP.pen];omega
 have hgeni:Si.sup.gen+1<18446744073709551616:=by have:=hP.good.gen;omega
 have hpgi:Si.sup.pages.length=S.sup.pages.length:=by rw[hP.sup]
 by_cases hlt:i<M
 ·refine zf (decide_eq_true (by omega)) ?_;refine zK fun w7 he7 _ _=>?_;have hoi7:=ho.ext he7;have hAt7:=hAt.ext he7;have o7:Only F w w7:=Only.trans hO (Only.zG (F:=F) he7) (fun j hj=>.inl hj);refine zo (x:=some ⟨b,0,none⟩) (k1.ext he7) (by rfl) ?_;have hilt:i*S.r0<bs.size:=(zcJ (by omega)).1 (by rw[hm];exact hlt);have hsucc:(i+1)*S.r0=i*S.r0+S.r0:=by rw[Nat.add_mul,Nat.one_mul]
  have w1':wrap .i64 ((i:Int)*(S.r0:Int))=((i*S.r0:Nat):Int):=by rw[<- Int.natCast_mul,wrap_i64 (by omega) (by omega)]
  have w2':wrap .i64 ((i:Int)+1)=((i+1:Nat):Int):=by rw[wrap_i64 (by omega) (by omega)];rfl
  have w3':wrap .i64 (((i+1:Nat):Int)*(S.r0:Int))=(((i+1)*S.r0:Nat):Int):=by rw[<- Int.natCast_mul,wrap_i64 (by omega) (by omega)]
  have w4':(if (((i+1)*S.r0:Nat):Int)<((bs.size:Nat):Int) then (((i+1)*S.r0:Nat):Int) else ((bs.size:Nat):Int))=((min bs.size ((i+1)*S.r0):Nat):Int):=by split<;>omega
  rw[w1',w2',w3',w4'];refine zE ⟨by omega,by omega,by omega⟩ ?_;rw[Int.toNat_natCast,Int.toNat_natCast];show ze _ _ [_,.agg (pgV ((7:UInt8),[],part S.r0 bs i) (none,0,0)).toArray] _ _ w7;obtain⟨Fd7,x7,hb7,hr7,nb7,nr7,m7,hS7⟩:=hAt7;have hps:=zcK (r:=S.r0) (b:=bs) (i:=i) (by omega) (by rw[hm];exact hlt);refine zb (zbC hS7 hP.good.h01 hgeni hpeni ((7:UInt8),[],part S.r0 bs i) (Sli.nil w7 none) (by simp) (fun a ha=>by cases ha) (by show(part S.r0 bs i).size<=_;omega)) ?_;rintro _ w8 ⟨rfl,F8,hAt8,hF8,hO8⟩;have hF8w:∀ k,F8 k->F k\/w5.heap.size<=k:=fun k hk=>by
   rcases hF8 k hk with e|e
   ·exact hF' k e
   ·exact .inr (by have:=he7.size;omega)
  have o8:Only F w w8:=Only.trans o7 hO8 hF'w;have k18:=(k1.ext he7).only hO8 (hF5 r1 (by omega) (by omega));have k28:=(k2.ext he7).only hO8 (hF5 r2 (by omega) (by omega));have k88:=(k8.ext he7).only hO8 (hF5 r8 (by omega) (by omega));have ho8:=hoi7.only hO8 hAF;have hAF8:∀ j,orow A=some j->¬F8 j:=fun j hj hf=>by
   rcases hF8 j hf with e|e
   ·exact hAF j hj e
   ·have:=hoi7.yg j hj;omega
  have hs8:=hO8.2.2.2.1;have hs7:=he7.size
  by_cases hfree:Si.sup.pages.length<Si.z7
  ·obtain⟨s1,s2⟩:=hP.step (t:=7) (d:=part S.r0 bs i) (by decide) (by rw[hr0i.2.1];omega) hfree;refine⟨(((Si.put ((7:UInt8),[],part S.r0 bs i)).2.1:Int),(Si.put ((7:UInt8),[],part S.r0 bs i)).2.2,()),rfl,?_⟩;rw[s1];refine zd (by rfl) ?_;generalize (Si.put ((7:UInt8),[],part S.r0 bs i)).2.1=n at *;refine zo (l:=.slc) (x:=(A,i,c)) k88 (by rfl) ?_;dsimp only;have hle:=ho8.le;refine yG (E:=zw .u32) (ys:=[n]) (by rfl) rfl jV ho8 (by omega) (by omega) (by omega) ?_;intro A' c' w9 ho9 hg9;have hx9:∀ j,orow A=some j->w5.heap.size<=j:=fun j hj=>ho8.row j hj;have oc:Only (fun j=>orow A=some j) w8 w9:=Only.z8 hg9.grown (fun j hj=>.inl hj);have hAt9:=hAt8.only oc (fun j hj e=>hAF8 j e hj);have k19:=k18.only oc (fun e=>by have:=hx9 _ e;omega);have k29:=k28.only oc (fun e=>by have:=hx9 _ e;omega);have k89:=k88.only oc (fun e=>by have:=hx9 _ e;omega);have o9:Only F w w9:=Only.trans o8 oc (fun j hj=>.inr (by have:=hx9 j hj;omega));refine zU k89 (by show 0<1;omega) ?_;have hg10:=yP w9 r8 0 (.slice A' (i+1) c');have oc2:Only (fun k=>k=r8) w9 (w9.setCell ⟨r8,0,none⟩ (.slice A' (i+1) c')):=Only.z8 hg10 (fun j hj=>.inl (by injection hj with hj;exact hj.symm));have hr8F:¬F8 r8:=fun hf=>by
    rcases hF8w r8 hf with e|e
    ·exact hnF r8 (by omega) e
    ·omega
   refine⟨⟨i+1,_,ks++[n],F8,A',c',by omega,by rw[length_append,length_singleton,hik],rfl,by rw[zj4];exact s2,hAt9.only oc2 (fun j hj e=>hr8F (by rw[<- show j=r8 from e];exact hj)),hF8w,Only.trans o9 oc2 (fun j hj=>.inr (by have:j=r8:=hj;omega)),?_,k19.only oc2 (by show ¬r1=r8;omega),k29.only oc2 (by show ¬r2=r8;omega),k89.set 0 _,?_,fun j hj=>?_⟩,by omega⟩
   ·exact Nat.le_trans hsz (Nat.le_trans hs7 (Nat.le_trans hs8 (Nat.le_trans hg9.grown.size hg10.size)))
   ·exact ho9.only oc2 (fun j hj e=>by have:=ho9.row j hj;have:j=r8:=e;omega)
   ·rcases hg9.next j hj with e|e
    ·exact hAF8 j e
    ·intro hf;have:=hAt8.lt j hf;omega
  ·have e9:=zhy (S:=Si) (R:=ks++R) (p:=((7:UInt8),[],part S.r0 bs i)) hP.good (show 3<=(7:UInt8).toNat by decide) (by rw[hr0i.2.1];show((0:Nat):Int)<=_;omega) (by show((part S.r0 bs i).size:Int)<=Si.room ((0:Nat):Int);rw[show(((0:Nat):Int))=0 from rfl,hr0i.2.1];omega) (by omega);rw[e9]at hAt8 ⊢;refine⟨((0:Int),(9:Int),()),rfl,zf (by rfl) ?_⟩;exact fail i hik hP hAt8 hF8w o8 (by omega) k18 k28 k88 ho8.sl (fun a ha=>by
    obtain⟨a1,a2,a3,a4,a5⟩:=hAok a ha
    exact⟨a1,a2,a3,a4,hAF8 _ (by rw[ha];rfl)⟩)
 obtain rfl:i=M:=by omega
 refine zd (decide_eq_false (by omega)) ?_;refine zK fun w7 he7 _ _=>?_;have o7:Only F w w7:=Only.trans hO (Only.zG (F:=F) he7) (fun j hj=>.inl hj);refine zo (x:=some ⟨b,0,none⟩) (k1.ext he7) (by rfl) ?_;refine zo (l:=.slc) (x:=(A,i,c)) (k8.ext he7) (by rfl) ?_;rw[zz (by omega)];refine zb (xt (bs:=[]) (v:=bs.size) (k:=4) (Own.nil 5 w7 w7.heap.size) (Nat.le_refl _) (by omega) (by omega) (by omega) (by omega)) ?_;rintro _ w8 ⟨y8,rfl,ho8,hg8⟩;refine⟨y8,rfl,?_⟩;have hx8:Ext w7 w8:=(Ext.refl w7).grown hg8.grown (fun j hj=>by cases hj);have he8:=he7.trans hx8;have k18:=k1.ext he8;have k28:=k2.ext he8;have k88:=k8.ext he8;have hoo:=ho.ext he8;have o8:Only F w w8:=Only.trans hO (Only.zG (F:=F) he8) (fun j hj=>.inl hj);have held:∀ l∈([[((aD r8),.slice A i c)],[((aD r1),.pointer (some ⟨b,0,none⟩))]]:List (List (Addr×Value))),∀ p∈l,w8.cell? p.1=some p.2:=fun l hl p hp=>by
  simp only [mem_cons,not_mem_nil,or_false]at hl;rcases hl with rfl|rfl<;>(simp only [mem_cons,not_mem_nil,or_false]at hp;subst hp)
  ·exact(k88.cell 0).trans rfl
  ·exact(k18.cell 0).trans rfl
 refine⟨held,?_⟩;refine qa (e:=5) (by kernel_rfl) (by kernel_rfl) (by kernel_rfl) ho8.sl ?_;refine⟨held,?_⟩;rw[List.nil_append];show ze _ _ [_,.agg (pgV ((6:UInt8),ks,mkB (le 4 bs.size)) (A,i,c)).toArray] _ _ w8;obtain⟨Fd8,x8,hb8',hr8',nb8,nr8,m8,hS8⟩:=hAt.ext he8;have hs8:=he8.size;have hp1:((6:UInt8),ks,mkB (le 4 bs.size)).2.1.length=i:=hik.symm;have hd4:(mkB (le 4 bs.size)).size=4:=by rw[xb,zy]
 have hkr:Si.room ks.length=(S.r0:Int)-4*i:=by
  have:=h.dims.room;rw[hr0i.2.2,<- hik];unfold Spa.room;rw[this,if_neg (by omega)];omega
 refine zb (zbC hS8 hP.good.h01 hgeni hpeni ((6:UInt8),ks,mkB (le 4 bs.size)) hoo.sl (fun k hk=>by have:=(hP.mem hk).2.1;have:=h.dims.n;omega) (fun a ha=>(hAok a ha).2.2.2.2) (by show(mkB (le 4 bs.size)).size<=_;omega)) ?_;rintro _ w9 ⟨rfl,F9,hAt9,hF9,hO9⟩;have hF9w:∀ k,F9 k->F k\/w5.heap.size<=k:=fun k hk=>by
  rcases hF9 k hk with e|e
  ·exact hF' k e
  ·exact .inr (by omega)
 have o9:Only F w w9:=Only.trans o8 hO9 hF'w;have k19:=k18.only hO9 (hF5 r1 (by omega) (by omega));have k29:=k28.only hO9 (hF5 r2 (by omega) (by omega));have k89:=k88.only hO9 (hF5 r8 (by omega) (by omega));have ho9:=hoo.only hO9 hAF;have hAF9:∀ j,orow A=some j->¬F9 j:=fun j hj hf=>by
  rcases hF9 j hf with e|e
  ·exact hAF j hj e
  ·have:=hoo.yg j hj;omega
 have hA9:∀ a,A=some a->w.heap.size<=a.block/\a.block≠r1/\a.block≠r2/\a.block≠r8/\¬F9 a.block:=fun a ha=>by
  obtain⟨a1,a2,a3,a4,a5⟩:=hAok a ha;exact⟨a1,a2,a3,a4,hAF9 _ (by rw[ha];rfl)⟩
 by_cases hfree:Si.sup.pages.length<Si.z7
 ·obtain⟨s1,s2,s3⟩:=zd7 (S:=Si) (R:=R) (p:=((6:UInt8),ks,mkB (le 4 bs.size))) hP.good (show 3<=(6:UInt8).toNat by decide) (by show((ks.length:Nat):Int)<=_;rw[hr0i.2.1];omega) (by show((mkB (le 4 bs.size)).size:Int)<=Si.room ((ks.length:Nat):Int);rw[hkr,hd4];omega) hfree;refine⟨(((Si.put ((6:UInt8),ks,mkB (le 4 bs.size))).2.1:Int),(Si.put ((6:UInt8),ks,mkB (le 4 bs.size))).2.2,()),rfl,?_⟩;rw[s1];refine zU k29 (by show 0<1;omega) ?_;have hg10:=yP w9 r2 0 (.int .i64 0);have oc:Only (fun k=>k=r2) w9 (w9.setCell ⟨r2,0,none⟩ (.int .i64 0)):=Only.z8 hg10 (fun j hj=>.inl (by injection hj with hj;exact hj.symm));have hr2F:¬F9 r2:=fun hf=>by
   rcases hF9w r2 hf with e|e
   ·exact hnF r2 (by omega) e
   ·omega
  obtain⟨Fd9,x9,hb9',hr9',nb9,nr9,m9,hS9⟩:=hAt9;have hS9':=hS9.only oc (fun j hj e=>hr2F (by rw[<- show j=r2 from e];exact hj));refine .inr ⟨_,_,rfl,by kernel_rfl,?_⟩;have hr1F:¬F9 r1:=fun hf=>by
   rcases hF9w r1 hf with e|e
   ·exact hnF r1 (by omega) e
   ·omega
  refine CallsDIn.mono (zeZ (c':=[]) (ks:=ks) (e:=0) hS9' (k19.only oc (by show ¬r1=r2;omega)) (k29.set 0 (.int .i64 0)) (k89.only oc (by show ¬r8=r2;omega)) (ho9.sl.only oc (fun a ha e=>(hA9 a ha).2.2.1 e)) (fun k hk=>by have:=(hP.mem hk).2.1;have:=h.dims.n;omega) hr1F hr2F (fun a ha=>(hA9 a ha).2.2.2.2) (fun e=>absurd rfl e)) ?_;rintro e u' w11 ⟨hu,hR⟩;refine⟨hu,?_⟩;cases e with
  |returned v=>
   obtain⟨p1,p2,p3⟩:=hR;refine zo (x:=(0:Int)) p3 (by rfl) (.inr (.inl ⟨hmost,by rw[hm];omega,Si,_,ks,_,by rw[hm];exact hP,s2,s3,rfl,F9,?_,fun k hk=>?_,?_⟩))
   ·rw[if_pos rfl]at p1;exact p1.zfv
   ·rcases hF9w k hk with e|e
    ·exact .inl e
    ·exact .inr (Nat.le_trans he5'.size e)
   ·have o10:Only F w (w9.setCell ⟨r2,0,none⟩ (.int .i64 0)):=Only.trans o9 oc (fun j hj=>.inr (by have:j=r2:=hj;omega));exact Only.trans o10 p2 (fun j hj=>by
     rcases hF9w j hj with e|e
     ·exact .inl e
     ·exact .inr (Nat.le_trans he5'.size e))
  |panicked c=>exact hR.elim
  |outgrown=>exact hR.elim
 ·have e9:=zhy (S:=Si) (R:=R) (p:=((6:UInt8),ks,mkB (le 4 bs.size))) hP.good (show 3<=(6:UInt8).toNat by decide) (by show((ks.length:Nat):Int)<=_;rw[hr0i.2.1];omega) (by show((mkB (le 4 bs.size)).size:Int)<=Si.room ((ks.length:Nat):Int);rw[hkr,hd4];omega) (by omega);rw[e9]at hAt9 ⊢;refine⟨((0:Int),(9:Int),()),rfl,?_⟩;exact fail i hik hP hAt9 hF9w o9 (by omega) k19 k29 k89 ho9.sl hA9
end V
/- Contracts of the package tree:used,part,put. -/
namespace V
open Go Go.Proofs Go.RowKit Crc
variable {w w':World} {b db:Nat} {S:Spa} {F:Nat->Prop} {R H:List Nat} {M:Option (List Nat)}
theorem znh.good {S S':Spa} {p:Page} {R H:List Nat} {M:Option (List Nat)} {n:Nat} {e:Int} (h:znh S S' p R H M n e) (hd:(p.2.2.size:Int)<=S.room p.2.1.length) (hf:S.sup.pages.length<S.z7):e=0/\vT S S' p n/\Great S' (n::R) H M/\∀ q∈S'.dev.pen,q∈S.dev.pen\/q.1=(n:Int):=by
 rcases h with ⟨_,_,_,h⟩|⟨_,_,_,h⟩|h
 ·omega
 ·omega
 ·exact⟨h.1,h.2.1,h.2.2.1,h.2.2.2.1⟩
theorem ziG (h:ye w b db S F) {n:Nat} (hg:Great S R H M) (hu:zO S.sup.pages S.now n=true) (h6:S.now.getD n 0<65535):
  Calls prog 134 #[.pointer (some ⟨b,0,none⟩),.int .u64 (n:Int)] w (Ret fun v w'=>v=.bool true/\yI w b db F S w'):=by
 have hnN:=hg.good.well.lt hu;have hN:=hg.good.dims.n;have hw:wrap .u32 (n:Int)=(n:Int):=by rw[wrap_u32];omega
 apply zl1;unfold S134;refine zd (decide_eq_false (by omega)) ?_;rw[hw];refine zb (zni h hg hu h6) ?_;rintro _ w1 ⟨rfl,hg1,F1,h1,hF1,hO1⟩;refine⟨_,rfl,zf (by rfl) ?_⟩;refine zb (zpr h1 hg1) ?_;rintro _ w2 ⟨rfl,c',hg2,hst,hD,hle⟩;refine⟨_,rfl,rfl,?_⟩;have hlen:n<S.now.length:=by rw[hg.good.well.len];exact hnN
 obtain⟨u1,u2,u3⟩:=zT.1 hu;have e1:(S.now.set n (S.now.getD n 0+1)).getD n 0=S.now.getD n 0+1:=by rw[yp,if_pos ⟨rfl,hlen⟩]
 have hu1:zO S.sup.pages (S.now.set n (S.now.getD n 0+1)) n=true:=zT.2 ⟨u1,u2,by rw[e1];omega⟩;have ec:c'=S.now:=by
  have hz:atE (S.now.set n (S.now.getD n 0+1)) n=0:=zbE hg1.good.well hu1;rcases hD.inv with ⟨_,a1,_⟩|⟨_,_,a1⟩|⟨a1,_⟩|⟨a1,_⟩|⟨a1,_⟩
  ·exact absurd hz a1
  ·have a2:xv (S.now.set n (S.now.getD n 0+1)) n=S.now:=by
    rw[zcF hg1.good.well hu1,List.set_set];refine qM (by rw[length_set]) (fun k=>?_);rw[yp,e1];split
    ·rename_i hh;rw[<- hh.1];omega
    ·rfl
   rw[a2]at a1;cases a1;rfl
  ·have:(S.now.set n (S.now.getD n 0+1)).getD n 0=1:=a1;omega
  ·have:(S.now.set n (S.now.getD n 0+1)).getD n 0=1:=a1;omega
  ·have:(S.now.set n (S.now.getD n 0+1)).getD n 0=1:=a1;omega
 subst ec;exact yI.trans hO1 hF1 hst
theorem zdD {t:UInt8} (ht:t≠4) {x y z:SLC} {i j:Nat} (hij:i<=j) (hx:j<=x.2.2) (hz:j<=z.2.2):
  Calls prog 206 #[.agg (ndV t x y z).toArray,.int .i64 (i:Int),.int .i64 (j:Int)] w (Ret fun v w'=>v=.agg (ndV t (zn x.1 i x.2.2 1,j-i,x.2.2-i) (none,0,0) (zn z.1 i z.2.2 1,j-i,z.2.2-i)).toArray/\Ext w w'):=by
 apply zmD;unfold S206;refine zs fun r1 w1 hb1 he1 hr1 hz1=>?_;refine zs fun r2 w2 hb2 he2 hr2 hz2=>?_;refine zK fun w3 he3 hz3 hh3=>?_;have hb1:Blk w3 r1 (ndV t x y z) 215:=(hb1.ext he2).ext he3;have hb2:=hb2.ext he3;refine zC ((t.toNat:Nat):Int) hb1 (by rfl) ?_;refine zk 1 x hb1 (by rfl) ?_;refine zE ⟨by omega,by omega,by omega⟩ ?_;refine zs fun r5 w4 hb5 he4 hr5 hz5=>?_;have hb1:=hb1.ext he4;have hb2:=hb2.ext he4;have he:=((he1.trans he2).trans he3).trans he4;refine jo (yF hb1 rfl) (yd hb1 rfl) ?_;rw[Int.toNat_natCast,Int.toNat_natCast];refine refill (vs:=ndV t (zn x.1 i x.2.2 1,j-i,x.2.2-i) (none,0,0) (none,0,0)) hb5 (by rfl) (jt _ _ _ _) (by rfl) ?_;intro w5 hb5 hx5 hk5 hz6;have hl1:=hb1.lt;have hl2:=hb2.lt;have hs4:=he4.size;have hs3:=he3.size;have he5:Ext w w5:=hx5 w he (by omega);have hb1:Blk w5 r1 (ndV t x y z) 215:=(hk5 r1 (by omega)).trans hb1;have hb2:=show Blk w5 r2 _ _ from(hk5 r2 (by omega)).trans hb2
 refine zR (ls:=jf) (ndT t x y z) hb1 (by rfl) ?_;refine zb zaN ?_;rintro _ w6 ⟨rfl,he6⟩;refine⟨_,rfl,?_⟩;refine zf (bne_iff_ne.2 (fun e=>ht (UInt8.toNat_inj.1 (by show _=4;omega)))) ?_;have hb1:=hb1.ext he6;have hb2:=hb2.ext he6;have hb5:=hb5.ext he6;have he6':=he5.trans he6;refine zk 3 z hb1 (by rfl) ?_;refine zE ⟨by omega,by omega,by omega⟩ ?_;refine stE (o:=3) hb5 (by rw[zx]) (by show 3<4;omega) ?_;intro w7 hb7 o7;have hb7:Blk w7 r5 (ndV t (zn x.1 i x.2.2 1,j-i,x.2.2-i) (none,0,0) (zn z.1 i z.2.2 1,j-i,z.2.2-i)) 215:=hb7;have he7:Ext w w7:=Only.ext he6' o7 (fun k hk=>by have:k=r5:=hk;omega);refine zR (ls:=jf) (ndT t (zn x.1 i x.2.2 1,j-i,x.2.2-i) (none,0,0) (zn z.1 i z.2.2 1,j-i,z.2.2-i)) hb7 (by rfl) ?_;have hb2:=hb2.only o7 (by omega);refine refill (vs:=ndV t (zn x.1 i x.2.2 1,j-i,x.2.2-i) (none,0,0) (zn z.1 i z.2.2 1,j-i,z.2.2-i)) hb2 (by rfl) (jt _ _ _ _) (by rfl) ?_;intro w8 hb8 hx8 hk8 hz8;refine zR (ls:=jf) (ndT t (zn x.1 i x.2.2 1,j-i,x.2.2-i) (none,0,0) (zn z.1 i z.2.2 1,j-i,z.2.2-i)) hb8 (by rfl) ?_;exact⟨rfl,hx8 w he7 (by omega)⟩
theorem zps {S:Spa} (h:zae S) {k:Nat} (hk:4*k<=S.r0):S.room k=(S.r0:Int)-4*k:=by
 obtain⟨h0,h1,h2,h3⟩:=qb h;have:zH S.sup.size-2=(S.r0:Int):=by rw[h.room];omega
 unfold Spa.room;rw[this,if_neg (by omega)]
theorem zka (a b:List Nat):k8B (a++b)=k8B a++k8B b:=by
 unfold k8B;rw[flatMap_append]
theorem zkb (h:ye w b db S F) {t:UInt8} (ht:t≠4) (ht3:3<=t.toNat) {ks vs:List Nat} {x y z:SLC} (hg:Great S (vs++R) H M) (hpen:S.dev.pen.length<=900000) (hkx:Sli (zw .u64) w x.1 x.2.1 ks) (hvz:Sli (zw .u32) w z.1 z.2.1 vs) (hA:∀ a,z.1=some a->¬F a.block)
  (hlen:ks.length=vs.length) (h64:∀ k∈ks,k<18446744073709551616) (hfit:12*ks.length<=S.r0) (hf:S.sup.pages.length<S.z7):
  Calls prog 207 #[.agg (ndV t x y z).toArray,.pointer (some ⟨b,0,none⟩)] w (Ret fun v w'=>∃ (S':Spa) (k:Nat),v=.tuple #[.int .u32 (k:Int),.int .i64 0]/\vT S S' (t,vs,mkB (k8B ks)) k/\Great S' (k::R) H M/\yI w b db F S' w'):=by
 obtain⟨q0,q1,q2,q3⟩:=qb hg.good.dims;have hxl:=hkx.len;have hzl:=hvz.len;apply zmE;unfold S207;refine zs fun r1 w1 hb1 he1 hr1 hz1=>?_;have hb1:Blk w1 r1 (ndV t x y z) 215:=hb1;refine zk 1 x hb1 (by rfl) ?_;dsimp only;refine zu (fun q w'=>∃ (i:Nat) (A:Option Addr) (c:Nat),i<=ks.length/\q=((A,8*i,c),(i:Int),())/\Ext w w'/\Ext w1 w'/\Own 5 w' w1.heap.size A (8*i) c (bV (k8B (ks.take i)))) (fun q=>(ks.length-q.2.1).toNat) ⟨0,none,0,by omega,rfl,he1,Ext.refl _,Own.nil _ _ _⟩ ?_;rintro _ w2 ⟨i,A,c,hi,rfl,he2,he12,ho⟩;dsimp only;have hb2:=hb1.ext he12
 by_cases hlt:i<ks.length
 ·refine zf (decide_eq_true (by omega)) ?_;refine zY (hkx.ext he2) (by omega) (by omega) ?_;rw[Int.toNat_natCast];have hk:ks.getD i 0<18446744073709551616:=by
   rw[getD_eq_getElem?_getD,List.getElem?_eq_getElem hlt];exact h64 _ (getElem_mem _)
  refine zb (xt (k:=8) ho he12.size (by omega) hk (by omega) (by omega)) ?_;rintro _ w3 ⟨u,rfl,ho3,hg3⟩;refine⟨u,rfl,?_⟩;have hb3:Blk w3 r1 (ndV t x y z) 215:=hb2.grown hg3.grown (fun hh=>by have:=ho.row' _ hh.symm;have:=hb1.lt;omega);have he3:Ext w w3:=he2.grown hg3.grown (fun j hj=>by have:=ho.row' _ hj;omega);have he13:Ext w1 w3:=he12.grown hg3.grown (fun j hj=>ho.row' _ hj);refine zR (ls:=jf) (ndT t x y z) hb3 (by rfl) ?_;refine zb zaN ?_;rintro _ w4 ⟨rfl,he4⟩;refine⟨_,rfl,?_⟩;refine zd (by rw[show(((t.toNat:Nat):Int) !=4)=true from bne_iff_ne.2 (fun e=>ht (UInt8.toNat_inj.1 (by show _=4;omega)))];rfl) ?_;have hul:u.2.1=8*(i+1):=by
   have h1:=ho3.sl.blen;rw[length_append,zy,ux,length_take]at h1;omega
  obtain⟨u1,u2,u3⟩:=u;dsimp only at hul ho3 ⊢;subst hul;refine⟨⟨i+1,u1,u3,by omega,by rw[wrap_i64 (by omega) (by omega)];rfl,he3.trans he4,he13.trans he4,?_⟩,by rw[wrap_i64 (by omega) (by omega)];omega⟩;have e:k8B (ks.take (i+1))=k8B (ks.take i)++le 8 (ks.getD i 0):=by
   rw[take_succ_eq_append_getElem hlt,zka,getD_eq_getElem?_getD,List.getElem?_eq_getElem hlt];simp[k8B]
  rw[e];exact ho3.ext he4
 ·obtain rfl:i=ks.length:=by omega
  refine zd (decide_eq_false (by omega)) ?_;rw[take_of_length_le (by omega)]at ho;refine zC ((t.toNat:Nat):Int) hb2 (by rfl) ?_;refine zk 3 z hb2 (by rfl) ?_;refine qa (e:=5) (by kernel_rfl) (by kernel_rfl) (by kernel_rfl) ho.sl ?_;have hsz:(mkB (k8B ks)).size=8*ks.length:=by rw[zP,yV,ux]
  refine zb (zp6 (p:=(t,vs,mkB (k8B ks))) (h.ext he2) hg hpen (hvz.ext he2) hA ht3 (by show(vs.length:Int)<=_;rw[q0];omega) (by show(mkB (k8B ks)).size<=_;omega)) ?_;rintro _ w3 ⟨S',k,e,rfl,hR,hst⟩;obtain⟨rfl,g1,g2,_⟩:=hR.good (by show((mkB (k8B ks)).size:Int)<=S.room vs.length;rw[zps hg.good.dims (by omega)];omega) hf;exact⟨((k:Int),0,()),rfl,S',k,rfl,g1,g2,yI.trans (Only.zG he2) (fun k hk=>.inl hk) hst⟩
end V
/- Contracts of the package tree:shut. -/
namespace V
open Go Go.Proofs Go.RowKit Crc
variable {w w':World} {b db:Nat} {S:Spa} {F:Nat->Prop} {R H:List Nat} {M:Option (List Nat)}
theorem ziH (h:ye w b db S F) (hd:zae S) {t:UInt8} (ht:t≠4):Calls prog 205 #[.pointer (some ⟨b,0,none⟩),.int .u8 (t.toNat:Int)] w (Ret fun v w'=>v=.int .i64 ((S.r0 / 12:Nat):Int)/\Ext w w'):=by
 obtain⟨q0,q1,q2,q3⟩:=qb hd;apply zmC;unfold S205;refine zd (beq_eq_false_iff_ne.2 (fun e=>ht (UInt8.toNat_inj.1 (by show _=4;omega)))) ?_;obtain⟨Fd,x,hb,hr,nb,nr,m,h'⟩:=h;refine zb (jc h' (k:=0) (by omega) (by omega)) ?_;rintro _ w1 ⟨rfl,he⟩;refine⟨_,rfl,?_,he⟩;rw[q0,show Int.tdiv ((S.r0:Nat):Int) 12=((S.r0 / 12:Nat):Int) from rfl,wrap_i64 (by omega) (by omega)]
theorem Owni.ne {α β:Type} {E:Enc α} {E':Enc β} {e e':TypeId} {w:World} {B B' n n' c c':Nat} {A A':Option Addr} {xs:List α} {ys:List β} (h:Owni E e w B A n c xs) (h':Owni E' e' w B' A' n' c' ys) (he:e≠e'):∀ j,orow A=some j->orow A'≠some j:=by
 intro j hj hj';rcases h.2 with ⟨hv,_⟩|⟨g,cap,cur,hv,_,hg,_⟩
 ·injection hv with hv;subst hv;cases hj
 ·rcases h'.2 with ⟨hv',_⟩|⟨g',cap',cur',hv',_,hg',_⟩
  ·injection hv' with hv';subst hv';cases hj'
  ·injection hv with hv
   injection hv' with hv'
   subst hv;subst hv';have e1:g=j:=Option.some.inj hj;have e2:g'=j:=Option.some.inj hj';subst e1;subst e2;rw[hg]at hg';injection hg' with hg'
   injection hg' with _ e3 _
   exact he e3
def lo (n N i:Nat):Nat:=i*n / N
def prt (n N i:Nat) (l:List Nat):List Nat:=(l.drop (lo n N i)).take (lo n N (i+1)-lo n N i)
theorem zje (n N:Nat):lo n N 0=0:=by simp[lo]
theorem zk9 {n N:Nat} (hN:1<=N):lo n N N=n:=by unfold lo;exact Nat.mul_div_cancel_left n (by omega)
theorem zhC {n N i fit:Nat} (hf:2<=fit) (hN1:1<=N) (hN2:N<=2) (hNn:N<=n) (hn:n<=N*fit) (hi:i<N):lo n N i<lo n N (i+1)/\lo n N (i+1)<=n/\lo n N (i+1)-lo n N i<=fit:=by
 unfold lo;rcases (show N=1\/N=2 by omega) with rfl|rfl
 ·obtain rfl:i=0:=by omega
  simp;omega
 ·rcases (show i=0\/i=1 by omega) with rfl|rfl<;>simp<;>omega
theorem zla {n N i:Nat} {l:List Nat} (h:lo n N i<=lo n N (i+1)):prt n N i l++l.drop (lo n N (i+1))=l.drop (lo n N i):=by
 unfold prt
 conv=>rhs;rw[<- List.take_append_drop (lo n N (i+1)-lo n N i) (l.drop (lo n N i))]
 rw[drop_drop,show lo n N i+(lo n N (i+1)-lo n N i)=lo n N (i+1) by omega]
theorem zlb {w:World} {r:Nat} {t:UInt8} {x y z:SLC} {ty:TypeId} (h:Blk w r (ndV t x y z) ty):∀ p∈[((aD r).add 0,Value.int .u8 (t.toNat:Int)),((aD r).add 1,.slice x.1 x.2.1 x.2.2),((aD r).add 2,.slice y.1 y.2.1 y.2.2),((aD r).add 3,.slice z.1 z.2.1 z.2.2)],w.cell? p.1=some p.2:=by
 intro p hp;simp only [mem_cons,not_mem_nil,or_false]at hp;rcases hp with rfl|rfl|rfl|rfl<;>simp only [zx,h.cell]<;>rfl
def ze0 (S:Spa) (t:UInt8) (n N i:Nat) (ks vs ps:List Nat):Prop:=∀ j,j<i->S.page (ps.getD j 0)=((t,prt n N j vs,mkB (k8B (prt n N j ks))),0)/\zO S.sup.pages S.now (ps.getD j 0)=true
theorem zf8 {A:Option Addr} {l m z:Nat} {a:Addr} (h:zn A l m z=some a):∃ a0,A=some a0/\a.block=a0.block:=by
 unfold zn at h;split at h
 ·exact⟨a,h,rfl⟩
 ·cases A with
  |none=>cases h
  |some a0=>
   injection h with h
   refine⟨a0,rfl,?_⟩;rw[<- h];show(a0.add (l*z)).block=a0.block;unfold Addr.add;split<;>rfl
theorem vl {n N i:Nat} {l:List Nat} (hl:l.length=n) (h2:lo n N (i+1)<=n) (h1:lo n N i<=lo n N (i+1)):(prt n N i l).length=lo n N (i+1)-lo n N i:=by
 unfold prt;rw[length_take,length_drop];omega
theorem zjf {n N i:Nat} {l:List Nat}:∀ k∈prt n N i l,k∈l:=fun k hk=>List.mem_of_mem_drop (List.mem_of_mem_take hk)
theorem zpt {n N i:Nat} {l:List Nat} (h:lo n N i<lo n N (i+1)):(prt n N i l).getD 0 0=l.getD (lo n N i) 0:=by
 unfold prt;rw[getD_take (by omega),uc,Nat.add_zero]
theorem Sli.prt {k:IntKind} {w:World} {x:SLC} {l:List Nat} {n N i:Nat} (h:Sli (zw k) w x.1 x.2.1 l) (hc:x.2.1<=x.2.2) (hn:l.length=n) (h2:lo n N (i+1)<=n) (h1:lo n N i<lo n N (i+1)):Sli (zw k) w (zn x.1 (lo n N i) x.2.2 1) (lo n N (i+1)-lo n N i) (V.prt n N i l):=by
 have hl:=h.len;exact h.cut (l:=lo n N i) (k:=lo n N (i+1)-lo n N i) (m:=x.2.2) (z:=1) rfl (by omega) (by omega)
theorem ze0.next {S S':Spa} {t:UInt8} {n N i k:Nat} {ks vs ps:List Nat} (h:ze0 S t n N i ks vs ps) (hp:vT S S' (t,prt n N i vs,mkB (k8B (prt n N i ks))) k) (hg:Good S R) (hl:ps.length=i):ze0 S' t n N (i+1) ks vs (ps++[k]):=by
 have hlen:k<S.now.length:=by rw[hg.well.len];exact hp.lt
 intro j hj
 by_cases e:j<i
 ·obtain⟨h1,h2⟩:=h j e;have e1:(ps++[k]).getD j 0=ps.getD j 0:=by rw[getD_eq_getElem?_getD,List.getElem?_append_left (by omega),<- getD_eq_getElem?_getD]
  rw[e1];obtain⟨u1,u2,u3⟩:=zT.1 h2;have hne:ps.getD j 0≠k:=fun e=>by
   have:=(zV.1 hp.free).1;rw[<- e]at this;omega
  refine⟨(hp.other _ hne (hg.well.lt h2)).trans h1,?_⟩;rw[hp.sup];refine zT.2 ⟨u1,u2,?_⟩;rw[hp.now,yp,if_neg (fun e=>hne e.1.symm)];exact u3
 ·obtain rfl:j=i:=by omega
  have e1:(ps++[k]).getD j 0=k:=by rw[getD_eq_getElem?_getD,List.getElem?_append_right (by omega),hl,Nat.sub_self];rfl
  rw[e1,hp.sup];refine⟨hp.page,zT.2 ⟨hp.two,hp.pgs,?_⟩⟩;rw[hp.now,yp,if_pos ⟨rfl,hlen⟩];omega
theorem zdE (h:ye w b db S F) {t:UInt8} (ht:t≠4) (ht3:3<=t.toNat) {ks vs:List Nat} {x y z:SLC} {N:Nat} (hg:Great S (vs++R) H M) (hpen:S.dev.pen.length<=800000) (hkx:Sli (zw .u64) w x.1 x.2.1 ks) (hxc:x.2.1<=x.2.2) (hvz:Sli (zw .u32) w z.1 z.2.1 vs) (hzc:z.2.1<=z.2.2)
  (hxF:∀ a,x.1=some a->¬F a.block/\a.block<w.heap.size) (hzF:∀ a,z.1=some a->¬F a.block/\a.block<w.heap.size)
  (hlen:ks.length=vs.length) (h64:∀ k∈ks,k<18446744073709551616) (hN:N=(ks.length+S.r0 / 12-1) / (S.r0 / 12)) (hN1:1<=N) (hN2:N<=2) (hNn:N<=ks.length) (hf:S.sup.pages.length+N<=S.z7):
  Calls prog 172 #[.agg (ndV t x y z).toArray,.pointer (some ⟨b,0,none⟩)] w (Ret fun v w'=>∃ (S':Spa) (F':Nat->Prop) (ps:List Nat) (A A2:Option Addr) (c c2:Nat),v=.tuple #[.slice A N c,.slice A2 N c2,.int .i64 0]/\ps.length=N/\Mk S S' ps/\Great S' (ps++R) H M/\ze0 S' t ks.length N N ks vs ps/\
   ye w' b db S' F'/\(∀ k,F' k->F k\/w.heap.size<=k)/\Only F w w'/\Owni (zw .u64) 42 w' w.heap.size A N c ((List.range N).map fun i=>ks.getD (lo ks.length N i) 0)/\Owni (zw .u32) 41 w' w.heap.size A2 N c2 ps/\(∀ j,orow A=some j->¬F' j)/\(∀ j,orow A2=some j->¬F' j)):=by
 obtain⟨q0,q1,q2,q3⟩:=qb hg.good.dims;have hxl:=hkx.len;have hzl:=hvz.len;have hfit:9<=S.r0 / 12/\S.r0 / 12<=339:=by omega
 have hnN:ks.length<=N*(S.r0 / 12):=by
  subst hN;have d1:=Nat.div_add_mod (ks.length+S.r0 / 12-1) (S.r0 / 12);have d2:=Nat.mod_lt (ks.length+S.r0 / 12-1) (show 0<S.r0 / 12 by omega);rw[Nat.mul_comm]at d1;omega
 have hn678:ks.length<=678:=by
  have:N*(S.r0 / 12)<=2*339:=Nat.mul_le_mul hN2 hfit.2;omega
 have hlo:∀ i,i<N->lo ks.length N i<lo ks.length N (i+1)/\lo ks.length N (i+1)<=ks.length/\lo ks.length N (i+1)-lo ks.length N i<=S.r0 / 12:=fun i hi=>zhC (by omega) hN1 hN2 hNn hnN hi;apply zmo;unfold S172;refine zs fun r1 w1 hb1 he1 hr1 hz1=>?_;have hb1:Blk w1 r1 (ndV t x y z) 215:=hb1;refine zC ((t.toNat:Nat):Int) hb1 (by rfl) ?_;refine zb (ziH (h.ext he1) hg.good.dims ht) ?_;rintro _ w2 ⟨rfl,he2⟩;refine⟨_,rfl,?_⟩;have he02:=he1.trans he2;have hb2:=hb1.ext he2;have hs1:=he1.size;have hs2:=he2.size;refine zd (decide_eq_false (by omega)) ?_;refine zk 1 x hb2 (by rfl) ?_;refine zE (by omega) ?_;have eN:wrap .i64 (Int.tdiv (wrap .i64 (wrap .i64 (((x.2.1:Nat):Int)+((S.r0 / 12:Nat):Int))-1)) ((S.r0 / 12:Nat):Int))=(N:Int):=by
  rw[wrap_i64 (x:=((x.2.1:Nat):Int)+((S.r0 / 12:Nat):Int)) (by omega) (by omega),wrap_i64 (x:=((x.2.1:Nat):Int)+((S.r0 / 12:Nat):Int)-1) (by omega) (by omega)];rw[show((x.2.1:Nat):Int)+((S.r0 / 12:Nat):Int)-1=((ks.length+S.r0 / 12-1:Nat):Int) by omega,show Int.tdiv ((ks.length+S.r0 / 12-1:Nat):Int) ((S.r0 / 12:Nat):Int)=(((ks.length+S.r0 / 12-1) / (S.r0 / 12):Nat):Int) from rfl,<- hN,wrap_i64 (by omega) (by omega)]
 rw[eN];have hFlt:=h.lt;refine zu (fun q w'=>∃ (i:Nat) (Si:Spa) (Fi:Nat->Prop) (ps:List Nat) (A A2:Option Addr) (c c2:Nat),i<=N/\q=((A,i,c),(A2,i,c2),(i:Int),())/\ps.length=i/\Mk S Si ps/\Great Si (vs.drop (lo ks.length N i)++(ps++R)) H M/\ze0 Si t ks.length N i ks vs ps/\ye w' b db Si Fi/\(∀ k,Fi k->F k\/w2.heap.size<=k)/\Only F w w'/\w2.heap.size<=w'.heap.size/\Blk w' r1 (ndV t x y z) 215/\
   Owni (zw .u64) 42 w' w2.heap.size A i c ((List.range i).map fun i=>ks.getD (lo ks.length N i) 0)/\Owni (zw .u32) 41 w' w2.heap.size A2 i c2 ps/\(∀ j,orow A=some j->¬Fi j)/\(∀ j,orow A2=some j->¬Fi j)) (fun q=>(N-q.2.2.1).toNat)
  ⟨0,S,F,[],none,none,0,0,by omega,rfl,rfl,Mk.refl S,by rw[zje];exact hg,fun j hj=>by omega,h.ext he02,fun k hk=>.inl hk,Only.zG he02,Nat.le_refl _,hb2,Owni.nil _ _ _,Owni.nil _ _ _,fun j hj=>(by cases hj),fun j hj=>(by cases hj)⟩ ?_
 rintro _ w3 ⟨i,Si,Fi,ps,A,A2,c,c2,hi,rfl,hpl,hMk,hGi,hPg,hSi,hFi,hO,hs3,hb3,hoA,hoB,hAF,hBF⟩;dsimp only
 by_cases hlt:i<N
 ·refine zf (decide_eq_true (by omega)) ?_;obtain⟨l1,l2,l3⟩:=hlo i hlt;refine zK fun w4 he4 hz4 hh4=>?_;have hb4:=hb3.ext he4;refine zR (ls:=jf) (ndT t x y z) hb4 (by rfl) ?_;refine zk 1 x hb4 (by rfl) (zE (by omega) ?_);refine zk 1 x hb4 (by rfl) (zE (by omega) ?_);have hiN:i*ks.length<=1356:=by
   have:i*ks.length<=2*678:=Nat.mul_le_mul (by omega) hn678;omega
  have hiN2:(i+1)*ks.length<=1356:=by
   have:(i+1)*ks.length<=2*678:=Nat.mul_le_mul (by omega) hn678;omega
  have ew:∀ j,j*ks.length<=1356->wrap .i64 (Int.tdiv (wrap .i64 ((j:Int)*((x.2.1:Nat):Int))) (N:Int))=((lo ks.length N j:Nat):Int):=fun j hj=>by
   rw[<- hxl,<- Int.natCast_mul,wrap_i64 (x:=((j*ks.length:Nat):Int)) (by omega) (by omega),show Int.tdiv ((j*ks.length:Nat):Int) (N:Int)=((j*ks.length / N:Nat):Int) from rfl];have:lo ks.length N j<=j*ks.length:=Nat.div_le_self _ _;show wrap .i64 ((lo ks.length N j:Nat):Int)=_;exact wrap_i64 (by omega) (by omega)
  have ei:wrap .i64 ((i:Int)+1)=((i+1:Nat):Int):=by rw[wrap_i64 (by omega) (by omega)];rfl
  rw[ei,show(ndT t x y z).2.1.2.1=x.2.1 from rfl];rw[ew i hiN,ew (i+1) hiN2];have hw4:=he4.size;have hl4:=hb4.lt
  -- both orders come to the same
  refine⟨?a,?b⟩
  case' a=>
   refine zb (zdD ht (x:=x) (y:=y) (z:=z) (i:=lo ks.length N i) (j:=lo ks.length N (i+1)) (by omega) (by omega) (by omega)) ?_;rintro _ w5 ⟨rfl,he5⟩;refine⟨ndT t (zn x.1 (lo ks.length N i) x.2.2 1,lo ks.length N (i+1)-lo ks.length N i,x.2.2-lo ks.length N i) (none,0,0) (zn z.1 (lo ks.length N i) z.2.2 1,lo ks.length N (i+1)-lo ks.length N i,z.2.2-lo ks.length N i),rfl,?_⟩;refine zs fun rB wB hbB heB hrB hzB=>?_;have heB:=he5.trans heB;have hb5:=hb4.ext heB;refine zpT (yF hb5 rfl) (yF hb5 rfl) (zlb hb5) ?_;have hrB:w4.heap.size<=rB:=by have:=he5.size;omega
  case' b=>
   refine zs fun rB wB' hbB heB' hrB hzB=>?_;have hb5:=hb4.ext heB';refine zpT (yF hb5 rfl) (yF hb5 rfl) (zlb hb5) ?_;refine zb (zdD ht (x:=x) (y:=y) (z:=z) (i:=lo ks.length N i) (j:=lo ks.length N (i+1)) (by omega) (by omega) (by omega)) ?_;rintro _ wB ⟨rfl,he5⟩;refine⟨ndT t (zn x.1 (lo ks.length N i) x.2.2 1,lo ks.length N (i+1)-lo ks.length N i,x.2.2-lo ks.length N i) (none,0,0) (zn z.1 (lo ks.length N i) z.2.2 1,lo ks.length N (i+1)-lo ks.length N i,z.2.2-lo ks.length N i),rfl,?_⟩;have heB:=heB'.trans he5;have hb5:=hb4.ext heB;have hbB:=hbB.ext he5;have hrB:w4.heap.size<=rB:=by omega
  all_goals
   refine refill (vs:=ndV t (zn x.1 (lo ks.length N i) x.2.2 1,lo ks.length N (i+1)-lo ks.length N i,x.2.2-lo ks.length N i) (none,0,0) (zn z.1 (lo ks.length N i) z.2.2 1,lo ks.length N (i+1)-lo ks.length N i,z.2.2-lo ks.length N i)) hbB (by rfl) (jt _ _ _ _) (by rfl) ?_;intro w6 hb6 hx6 hk6 hz6;have he46:Ext w4 w6:=hx6 w4 heB hrB;have he36:=he4.trans he46;have hs46:=he46.size;have hS6:=hSi.ext he36;have hSlt:=hSi.lt;have o06:Only F w w6:=Only.trans hO (Only.zG (F:=F) he36) (fun j hj=>.inl hj);refine zR (ls:=jf) (ndT t (zn x.1 (lo ks.length N i) x.2.2 1,lo ks.length N (i+1)-lo ks.length N i,x.2.2-lo ks.length N i) (none,0,0) (zn z.1 (lo ks.length N i) z.2.2 1,lo ks.length N (i+1)-lo ks.length N i,z.2.2-lo ks.length N i)) hb6 (by rfl) ?_;have hk6:Sli (zw .u64) w6 (zn x.1 (lo ks.length N i) x.2.2 1) (lo ks.length N (i+1)-lo ks.length N i) (prt ks.length N i ks):=(hkx.only o06 (fun a ha=>(hxF a ha).1)).prt hxc rfl l2 l1;have hv6:Sli (zw .u32) w6 (zn z.1 (lo ks.length N i) z.2.2 1) (lo ks.length N (i+1)-lo ks.length N i) (prt ks.length N i vs):=(hvz.only o06 (fun a ha=>(hzF a ha).1)).prt hzc hlen.symm l2 l1;have hnFi:∀ j,¬F j->j<w2.heap.size->¬Fi j:=fun j h1 h2 hf=>by
    rcases hFi j hf with e|e
    ·exact h1 e
    ·omega
   have hsp:=hMk.sup;have hfr:=hMk.free;have hr0:=hMk.r0;have hpn:=hMk.pen;have hGi':Great Si (prt ks.length N i vs++(vs.drop (lo ks.length N (i+1))++(ps++R))) H M:=by
    rw[<- append_assoc,zla (Nat.le_of_lt l1)];exact hGi
   have hpll:=vl (l:=ks) (N:=N) (i:=i) rfl l2 (Nat.le_of_lt l1);have hpll2:=vl (l:=vs) (N:=N) (i:=i) hlen.symm l2 (Nat.le_of_lt l1);refine zb (zkb hS6 ht ht3 hGi' (by omega) hk6 hv6 (fun a ha=>?_) (by rw[hpll,hpll2]) (fun k hk=>h64 k (zjf k hk)) (by rw[hpll,hr0];omega) (by rw[hsp];omega)) ?_
   ·obtain⟨a0,h1,h2⟩:=zf8 ha;have:=hzF a0 h1;rw[h2];exact hnFi _ this.1 (by omega)
   rintro _ w7 ⟨S',k,rfl,hP,hG7,F7,hS7,hF7,hO7⟩;refine⟨((k:Int),0,()),rfl,zd (by rfl) ?_⟩;have hs67:=hO7.2.2.2.1;have hb7:=hb6.only hO7 (fun hf=>by have:=hSlt _ hf;omega);have hrn:∀ a,zn x.1 (lo ks.length N i) x.2.2 1=some a->¬Fi a.block:=fun a ha=>by
    obtain⟨a0,h1,h2⟩:=zf8 ha;have:=hxF a0 h1;rw[h2];exact hnFi _ this.1 (by omega)
   refine zk 1 ((zn x.1 (lo ks.length N i) x.2.2 1,lo ks.length N (i+1)-lo ks.length N i,x.2.2-lo ks.length N i):SLC) hb7 (by rfl) ?_;refine zY (hk6.only hO7 hrn) (by omega) (by dsimp only;omega) ?_;rw[show Int.toNat 0=0 from rfl,zpt l1];have hA7:=(hoA.ext he36).only hO7 hAF;have hB7:=(hoB.ext he36).only hO7 hBF;refine yG (E:=zw .u64) (ys:=[ks.getD (lo ks.length N i) 0]) (by rfl) rfl kP hA7 (by omega) (by omega) (by omega) ?_;intro A3 c3 w8 hA8 hg8;have hs78:=hg8.grown.size;have hB8:=hB7.grown hg8.grown (fun j hj=>hA7.ne hB7 (by decide) j hj);refine yG (E:=zw .u32) (ys:=[k]) (by rfl) rfl jV hB8 (by omega) (by omega) (by omega) ?_;intro A4 c4 w9 hB9 hg9;have hs89:=hg9.grown.size;have hA9:=hA8.grown hg9.grown (fun j hj=>hB8.ne hA8 (by decide) j hj);have hrA:∀ j,orow A=some j->¬F7 j:=fun j hj hf=>by
    have:=hoA.yg j hj;rcases hF7 j hf with e|e
    ·exact hAF j hj e
    ·omega
   have hrB':∀ j,orow A2=some j->¬F7 j:=fun j hj hf=>by
    have:=hoB.yg j hj;rcases hF7 j hf with e|e
    ·exact hBF j hj e
    ·omega
   have h7lt:=hS7.lt;have o79:Only (fun j=>orow A=some j\/orow A2=some j) w7 w9:=Only.trans (Only.z8 hg8.grown (fun j hj=>.inl (.inl hj))) (Only.z8 (F:=fun j=>orow A2=some j) hg9.grown (fun j hj=>.inl hj)) (fun j hj=>.inl (.inr hj));have hF72:∀ k,F7 k->F k\/w2.heap.size<=k:=fun k hk=>by
    rcases hF7 k hk with e|e
    ·exact hFi k e
    ·exact .inr (by omega)
   have hF2w:∀ k,Fi k->F k\/w.heap.size<=k:=fun k hk=>by
    rcases hFi k hk with e|e
    ·exact .inl e
    ·exact .inr (by omega)
   have hO9:Only F w w9:=Only.trans (Only.trans o06 hO7 hF2w) o79 (fun j hj=>.inr (by
    rcases hj with e|e
    ·have:=hoA.row j e;omega
    ·have:=hoB.row j e;omega))
   have hb9:Blk w9 r1 (ndV t x y z) 215:=((hb3.ext he36).only hO7 (hnFi _ (fun hf=>by have:=hFlt _ hf;omega) (by have:=hb2.lt;omega))).only o79 (fun hj=>by
    rcases hj with e|e
    ·have:=hoA.row _ e;have:=hb2.lt;omega
    ·have:=hoB.row _ e;have:=hb2.lt;omega)
   refine⟨⟨i+1,S',F7,ps++[k],A3,A4,c3,c4,by omega,rfl,by rw[length_append,hpl];rfl,hMk.trans (hP.mk_ hGi.good.well.len),?_,hPg.next hP hGi.good hpl,hS7.only o79 (fun j hj e=>by
    rcases e with e|e
    ·exact hrA j e hj
    ·exact hrB' j e hj),hF72,hO9,by omega,hb9,?_,hB9,fun j hj hf=>?_,fun j hj hf=>?_⟩,by omega⟩
   ·refine hG7.perm ?_;rw[show vs.drop (lo ks.length N (i+1))++((ps++[k])++R)=(vs.drop (lo ks.length N (i+1))++ps)++k::R by simp,<- append_assoc (vs.drop (lo ks.length N (i+1)))];exact List.perm_middle.symm
   ·rw[range_succ,map_append];exact hA9
   ·rcases hg8.next j hj with e|e
    ·exact hrA j e hf
    ·have:=h7lt j hf;omega
   ·rcases hg9.next j hj with e|e
    ·exact hrB' j e hf
    ·have:=h7lt j hf;omega
 ·obtain rfl:i=N:=by omega
  refine zd (decide_eq_false (by omega)) ?_;rw[zk9 hN1,drop_of_length_le (by omega)]at hGi;refine⟨Si,Fi,ps,A,A2,c,c2,rfl,hpl,hMk,hGi,hPg,hSi,fun k hk=>?_,hO,hoA.lower (by omega),hoB.lower (by omega),hAF,hBF⟩;rcases hFi k hk with e|e
  ·exact .inl e
  ·exact .inr (by omega)
end V
/- Contracts of the package tree:root,Build. -/
namespace V
open Go Go.Proofs Go.RowKit Crc
variable {w w':World} {b db:Nat} {S:Spa} {F:Nat->Prop} {R H:List Nat} {M:Option (List Nat)}
theorem zhD {x y z:SLC} {k:Nat} {deep:Nat} (hx:x.2.1=1) (hz:Sli (zw .u32) w z.1 z.2.1 [k]):Calls prog 135 #[.agg (ndV 3 x y z).toArray,.pointer (some ⟨b,0,none⟩),.int .i64 (deep:Int)] w (Ret fun v w'=>v=.tuple #[.int .u32 (k:Int),.int .i64 0]/\Ext w w'):=by
 have hzl:1=z.2.1:=hz.len;apply zdW;unfold S135;refine zs fun r1 w1 hb1 he1 hr1 hz1=>?_;have hb1:Blk w1 r1 (ndV 3 x y z) 215:=hb1;refine yi (fun _ _=>False) (fun _ _ h=>h.elim) (fun J hJ=>?_);refine zk 1 x hb1 (by rfl) ?_;refine zd (beq_eq_false_iff_ne.2 (by omega)) ?_;refine zR (ls:=jf) (ndT 3 x y z) hb1 (by rfl) ?_;refine zb qB ?_;rintro _ w2 ⟨rfl,he2⟩;refine⟨_,rfl,zf (by rfl) ?_⟩;have hb2:=hb1.ext he2;have he:=he1.trans he2;refine zk 3 z hb2 (by rfl) (zf (beq_iff_eq.2 (by omega)) ?_);refine zk 3 z hb2 (by rfl) ?_;refine zY (hz.ext he) (by omega) (by omega) ?_;exact⟨rfl,he⟩
structure zjg (S S':Spa) (n:Nat) (ks vs ls R H:List Nat) (M:Option (List Nat)):Prop where
 made:Mk S S' ls
 great:Great S' (n::R) H M
 tree:vk S' n ks vs
 few:ls.length<=3
theorem zda {n:Nat} {l:List Nat} (h:l.length=n):prt n 1 0 l=l:=by
 unfold prt lo;subst h;simp
theorem zpu (h:ye w b db S F) {k0 k1 p q:Nat} {x y z:SLC} (hg:Great S ([p,q]++R) H M) (hpen:S.dev.pen.length<=800000) (hkx:Sli (zw .u64) w x.1 x.2.1 [k0,k1]) (hxc:x.2.1<=x.2.2) (hvz:Sli (zw .u32) w z.1 z.2.1 [p,q]) (hzc:z.2.1<=z.2.2)
  (hxF:∀ a,x.1=some a->¬F a.block/\a.block<w.heap.size) (hzF:∀ a,z.1=some a->¬F a.block/\a.block<w.heap.size) (h0:k0<18446744073709551616) (h1:k1<18446744073709551616) (hf:S.sup.pages.length+1<=S.z7):
  Calls prog 135 #[.agg (ndV 3 x y z).toArray,.pointer (some ⟨b,0,none⟩),.int .i64 2] w (Ret fun v w'=>∃ (S':Spa) (n:Nat),v=.tuple #[.int .u32 (n:Int),.int .i64 0]/\Mk S S' [n]/\S'.page n=(((3:UInt8),[p,q],mkB (k8B [k0,k1])),0)/\Great S' (n::R) H M/\yI w b db F S' w'):=by
 obtain⟨q0,q1,q2,q3⟩:=qb hg.good.dims;have hxl:2=x.2.1:=hkx.len;have hzl:2=z.2.1:=hvz.len;apply zdW;unfold S135;refine zs fun r1 w1 hb1 he1 hr1 hz1=>?_;have hb1:Blk w1 r1 (ndV 3 x y z) 215:=hb1;refine yi (fun _ w'=>Ext w1 w') ?_ (fun J hJ=>?_);rotate_left
 ·refine zk 1 x hb1 (by rfl) ?_;refine zd (beq_eq_false_iff_ne.2 (by omega)) ?_;refine zR (ls:=jf) (ndT 3 x y z) hb1 (by rfl) ?_;refine zb qB ?_;rintro _ w2 ⟨rfl,he2⟩;refine⟨_,rfl,zf (by rfl) ?_⟩;refine zk 3 z (hb1.ext he2) (by rfl) (zd (beq_eq_false_iff_ne.2 (by omega)) ?_);exact zd (by decide) (hJ _ _ he2)
 rintro _ w2 he2;have he:=he1.trans he2;refine zR (ls:=jf) (ndT 3 x y z) (hb1.ext he2) (by rfl) ?_;have hs:=he.size;have hN:1=([k0,k1].length+S.r0 / 12-1) / (S.r0 / 12):=by
  show 1=(2+S.r0 / 12-1) / (S.r0 / 12);refine(Nat.div_eq_of_lt_le ?_ ?_).symm<;>omega
 refine zb (zdE (h.ext he) (t:=3) (by decide) (by decide) hg hpen (hkx.ext he) hxc (hvz.ext he) hzc (fun a ha=>⟨(hxF a ha).1,by have:=(hxF a ha).2;omega⟩) (fun a ha=>⟨(hzF a ha).1,by have:=(hzF a ha).2;omega⟩) rfl (fun k hk=>?_) hN (by omega) (by omega) (by simp) hf) ?_
 ·simp only [mem_cons,not_mem_nil,or_false]at hk;rcases hk with rfl|rfl
  ·exact h0
  ·exact h1
 rintro _ w3 ⟨S',F',ps,A,A2,c,c2,rfl,hpl,hMk,hG,hPg,hS3,hF3,hO3,hoA,hoB,hAF,hBF⟩;refine⟨((A,1,c),(A2,1,c2),0,()),rfl,zd (by rfl) ?_⟩;dsimp only;rw[show wrap .i64 (2+1)=((3:Nat):Int) by decide];show ze _ _ [.agg (ndV 3 (A,1,c) (none,0,0) (A2,1,c2)).toArray,_,_] _ _ w3
 match ps,hpl with
 |[n],_=>
  refine zb (zhD rfl (deep:=3) hoB.sl) ?_;rintro _ w4 ⟨rfl,he4⟩;refine⟨((n:Int),0,()),rfl,S',n,rfl,hMk,?_,hG,F',hS3.ext he4,fun k hk=>?_,?_⟩
  ·have:=(hPg 0 (by omega)).1;rw[zda (n:=[k0,k1].length) (l:=[p,q]) rfl,zda (l:=[k0,k1]) rfl]at this;exact this
  ·rcases hF3 k hk with e|e
   ·exact .inl e
   ·exact .inr (by omega)
  ·exact Only.trans (Only.trans (Only.zG he) hO3 (fun j hj=>.inl hj)) (Only.zG (F:=F) he4) (fun j hj=>.inl hj)
theorem ziI (h:ye w b db S F) {ks vs:List Nat} {x y z:SLC} (hg:Great S (vs++R) H M) (hpen:S.dev.pen.length<=700000) (hkx:Sli (zw .u64) w x.1 x.2.1 ks) (hxc:x.2.1<=x.2.2) (hvz:Sli (zw .u32) w z.1 z.2.1 vs) (hzc:z.2.1<=z.2.2)
  (hxF:∀ a,x.1=some a->¬F a.block/\a.block<w.heap.size) (hzF:∀ a,z.1=some a->¬F a.block/\a.block<w.heap.size)
  (hlen:ks.length=vs.length) (h64:∀ k∈ks,k<18446744073709551616) (h1:1<=ks.length) (h2:ks.length<=2*(S.r0 / 12)) (hrise:xS ks=true) (hf:S.sup.pages.length+3<=S.z7):
  Calls prog 135 #[.agg (ndV 5 x y z).toArray,.pointer (some ⟨b,0,none⟩),.int .i64 1] w (Ret fun v w'=>∃ (S':Spa) (n:Nat) (ls:List Nat),v=.tuple #[.int .u32 (n:Int),.int .i64 0]/\zjg S S' n ks vs ls R H M/\yI w b db F S' w'):=by
 obtain⟨q0,q1,q2,q3⟩:=qb hg.good.dims;have hxl:=hkx.len;have hzl:=hvz.len;have hfit:9<=S.r0 / 12/\S.r0 / 12<=339:=by omega
 generalize hft:S.r0 / 12=fit at *;obtain⟨N,hN⟩:∃ N,N=(ks.length+fit-1) / fit:=⟨_,rfl⟩;have hN1:1<=N:=by rw[hN,Nat.le_div_iff_mul_le (by omega)];omega
 have hN2:N<=2:=by
  rw[hN];refine Nat.le_of_lt_succ ((Nat.div_lt_iff_lt_mul (by omega)).2 ?_);show _<3*fit;omega
 have hNn:N<=ks.length:=by
  rw[hN];refine Nat.le_of_lt_succ ((Nat.div_lt_iff_lt_mul (by omega)).2 ?_);have:ks.length*1<=ks.length*fit:=Nat.mul_le_mul_left _ (by omega);rw[Nat.succ_mul];omega
 apply zdW;unfold S135;refine zs fun r1 w1 hb1 he1 hr1 hz1=>?_;have hb1:Blk w1 r1 (ndV 5 x y z) 215:=hb1;refine yi (fun _ w'=>Ext w1 w') ?_ (fun J hJ=>?_);rotate_left
 ·refine zk 1 x hb1 (by rfl) ?_;refine zd (beq_eq_false_iff_ne.2 (by omega)) ?_;refine zR (ls:=jf) (ndT 5 x y z) hb1 (by rfl) ?_;refine zb qB ?_;rintro _ w2 ⟨rfl,he2⟩;refine⟨_,rfl,zd (by rfl) ?_⟩;exact zd (by decide) (hJ _ _ he2)
 rintro _ w2 he2;have he:=he1.trans he2;refine zR (ls:=jf) (ndT 5 x y z) (hb1.ext he2) (by rfl) ?_;have hs:=he.size;refine zb (zdE (h.ext he) (t:=5) (by decide) (by decide) hg (by omega) (hkx.ext he) hxc (hvz.ext he) hzc (fun a ha=>⟨(hxF a ha).1,by have:=(hxF a ha).2;omega⟩) (fun a ha=>⟨(hzF a ha).1,by have:=(hzF a ha).2;omega⟩) hlen h64 (by rw[hft];exact hN) hN1 hN2 hNn (by omega)) ?_;rintro _ w3 ⟨S',F',ps,A,A2,c,c2,rfl,hpl,hMk,hG,hPg,hS3,hF3,hO3,hoA,hoB,hAF,hBF⟩;refine⟨((A,N,c),(A2,N,c2),0,()),rfl,zd (by rfl) ?_⟩;dsimp only;rw[show wrap .i64 (1+1)=((2:Nat):Int) by decide];have hst3:yI w b db F S' w3:=⟨F',hS3,fun k hk=>by rcases hF3 k hk with e|e;exact .inl e;exact .inr (by omega),Only.trans (Only.zG he) hO3 (fun j hj=>.inl hj)⟩;show ze _ _ [.agg (ndV 3 (A,N,c) (none,0,0) (A2,N,c2)).toArray,_,_] _ _ w3;have hpart:∀ j,j<N->jH S' (ps.getD j 0) (prt ks.length N j ks) (prt ks.length N j vs):=fun j hj=>by
  obtain⟨l1,l2,l3⟩:=zhC (fit:=fit) (by omega) hN1 hN2 hNn (by
   rw[hN]
   have d1:=Nat.div_add_mod (ks.length+fit-1) fit
   have d2:=Nat.mod_lt (ks.length+fit-1) (show 0<fit by omega)
   rw[Nat.mul_comm]at d1
   omega) hj
  refine⟨(hPg j hj).1,?_,?_,ziC (ziD hrise _) _,fun k hk=>h64 k (zjf k hk)⟩
  ·rw[vl rfl l2 (Nat.le_of_lt l1),vl hlen.symm l2 (Nat.le_of_lt l1)]
  ·rw[vl rfl l2 (Nat.le_of_lt l1)];omega
 rcases (show N=1\/N=2 by omega) with e|e
 ·clear hN;subst e
  match ps,hpl with
  |[p],_=>
   refine zb (zhD rfl (deep:=2) hoB.sl) ?_;rintro _ w4 ⟨rfl,he4⟩;refine⟨((p:Int),0,()),rfl,S',p,[p],rfl,⟨hMk,hG,.one ?_,by simp⟩,?_⟩
   ·have:=hpart 0 (by omega);rw[zda rfl,zda hlen.symm]at this;exact this
   ·obtain⟨F4,a1,a2,a3⟩:=hst3;exact⟨F4,a1.ext he4,a2,Only.trans a3 (Only.zG (F:=F) he4) (fun j hj=>.inl hj)⟩
 ·clear hN;subst e
  match ps,hpl with
  |[p,q],_=>
   have hm:lo ks.length 2 1=ks.length / 2:=by unfold lo;rw[Nat.one_mul]
   have hm0:lo ks.length 2 0=0:=zje _ _;have hm2:lo ks.length 2 2=ks.length:=zk9 (by omega);have ekey:((List.range 2).map fun i=>ks.getD (lo ks.length 2 i) 0)=[ks.getD 0 0,ks.getD (ks.length / 2) 0]:=by
    show [ks.getD (lo ks.length 2 0) 0,ks.getD (lo ks.length 2 1) 0]=_;rw[hm,hm0]
   rw[ekey]at hoA;have hAl:=hoA.yg;have hBl:=hoB.yg;have h64':∀ i,ks.getD i 0<18446744073709551616:=fun i=>by
    rw[getD_eq_getElem?_getD];cases hq:ks[i]? with
    |none=>exact(by decide:(0:Nat)<18446744073709551616)
    |some v=>exact h64 v (mem_of_getElem? hq)
   have hsp:=hMk.sup;have hfr:=hMk.free;have hpn:=hMk.pen;have hle:A2=A2:=rfl;simp only [length_cons,length_nil]at hfr hpn;refine zb (zpu (k0:=ks.getD 0 0) (k1:=ks.getD (ks.length / 2) 0) (p:=p) (q:=q) hS3 hG (by omega) (x:=(A,2,c)) (y:=(none,0,0)) (z:=(A2,2,c2)) hoA.sl hoA.le.1 hoB.sl hoB.le.1 (fun a ha=>⟨hAF _ (by rw[show A=some a from ha];rfl),hAl _ (by rw[show A=some a from ha];rfl)⟩) (fun a ha=>⟨hBF _ (by rw[show A2=some a from ha];rfl),hBl _ (by rw[show A2=some a from ha];rfl)⟩) (h64' _) (h64' _) (by rw[hsp];omega)) ?_;rintro _ w4 ⟨S4,n,rfl,hP,hpg,hG4,hst⟩;refine⟨((n:Int),0,()),rfl,S4,n,[p,q]++[n],rfl,⟨hMk.trans hP,hG4,?_,by simp⟩,?_⟩
   ·have a0:=hpart 0 (by omega);have a1:=hpart 1 (by omega);have u0:=(hPg 0 (by omega)).2;have u1:=(hPg 1 (by omega)).2;have kp:∀ j,zO S'.sup.pages S'.now j=true->S4.page j=S'.page j:=fun j hj=>(hP.used hG.good hj).1;unfold prt at a0 a1;rw[hm0,show lo ks.length 2 (0+1)=_ from hm,List.drop_zero,List.drop_zero,Nat.sub_zero]at a0;rw[hm,show lo ks.length 2 (1+1)=_ from hm2]at a1;rw[take_of_length_le (l:=ks.drop _) (by rw[length_drop];omega),take_of_length_le (l:=vs.drop _) (by rw[length_drop];omega)]at a1;exact .two (ks.length / 2) p q (by omega) (by omega) hlen hrise h64 hpg (a0.keep (kp _ u0)) (a1.keep (kp _ u1))
   ·exact yI.trans (Only.trans (Only.zG he) hO3 (fun j hj=>.inl hj)) (fun k hk=>by
     rcases hF3 k hk with e|e
     ·exact .inl e
     ·exact .inr (by omega)) hst
theorem ziJ (h:ye w b db S F) {ks vs:List Nat} {x y:SLC} (hg:Great S (vs++R) H M) (hpen:S.dev.pen.length<=700000) (hkx:Sli (zw .u64) w x.1 x.2.1 ks) (hxc:x.2.1<=x.2.2) (hvy:Sli (zw .u64) w y.1 y.2.1 vs)
  (hxF:∀ a,x.1=some a->¬F a.block/\a.block<w.heap.size) (hyF:∀ a,y.1=some a->¬F a.block/\a.block<w.heap.size)
  (hlen:ks.length=vs.length) (h64:∀ k∈ks,k<18446744073709551616) (h1:1<=ks.length) (h2:ks.length<=2*(S.r0 / 12)) (hrise:xS ks=true) (hf:S.sup.pages.length+3<=S.z7) (h6:∀ v∈vs,S.now.getD v 0<65535):
  Calls prog 86 #[.pointer (some ⟨b,0,none⟩),.bool true,.slice x.1 x.2.1 x.2.2,.slice y.1 y.2.1 y.2.2] w (Ret fun v w'=>∃ (S':Spa) (n:Nat) (ls:List Nat),v=.tuple #[.int .u32 (n:Int),.int .i64 0]/\zjg S S' n ks vs ls R H M/\yI w b db F S' w'):=by
 obtain⟨q0,q1,q2,q3⟩:=qb hg.good.dims;have hxl:=hkx.len;have hyl:=hvy.len;have hFlt:=h.lt;have hvu:∀ v∈vs,zO S.sup.pages S.now v=true:=fun v hv=>hg.good.well.root v (mem_append_left _ hv);apply zo2;unfold S86;refine zd (by rfl) ?_;refine zd (bne_eq_false_iff_eq.2 (by omega)) ?_;refine zb (R:=fun v w'=>v=.int .u8 5/\w'=w) ?_ ?_
 ·apply zl0;unfold S133;exact zf (by rfl) ⟨rfl,rfl⟩
 rintro _ w1 ⟨rfl,rfl⟩;refine⟨_,rfl,?_⟩;refine yt (vs:=ndV 5 x y (none,0,0)) (by rfl) (jt _ _ _ _) (fun r2 w2 hb2 he2 hr2=>?_) (by rfl);have hs2:=he2.size;refine zu (fun q w'=>∃ (i:Nat) (Fi:Nat->Prop) (A:Option Addr) (c:Nat),i<=vs.length/\q=((i:Int),())/\ye w' b db S Fi/\(∀ k,Fi k->F k\/w2.heap.size<=k)/\Only F w1 w'/\w2.heap.size<=w'.heap.size/\Blk w' r2 (ndV 5 x y (A,i,c)) 215/\Owni (zw .u32) 41 w' w2.heap.size A i c (vs.take i)/\(∀ j,orow A=some j->¬Fi j)) (fun q=>(vs.length-q.1).toNat)
  ⟨0,F,none,0,by omega,rfl,h.ext he2,fun k hk=>.inl hk,Only.zG he2,Nat.le_refl _,hb2,Owni.nil _ _ _,fun j hj=>(by cases hj)⟩ ?_
 rintro _ w3 ⟨i,Fi,A,c,hi,rfl,hS3,hFi,hO3,hs3,hb3,ho3,hAF⟩;dsimp only;have hnFi:∀ j,¬F j->j<w2.heap.size->¬Fi j:=fun j h1 h2 hf=>by
  rcases hFi j hf with e|e
  ·exact h1 e
  ·omega
 have hr2l:=hb2.lt
 by_cases hlt:i<vs.length
 ·refine zf (decide_eq_true (by omega)) ?_;have hv3:=hvy.only hO3 (fun a ha=>(hyF a ha).1);have hk3:=hkx.only hO3 (fun a ha=>(hxF a ha).1);have hvi:vs.getD i 0∈vs:=by rw[getD_eq_getElem?_getD,List.getElem?_eq_getElem hlt];exact getElem_mem _
  have hvN:=hg.good.well.lt (hvu _ hvi);have hN:=hg.good.dims.n;refine yi (fun(_:Unit) w'=>∃ (Fj:Nat->Prop) (A':Option Addr) (c':Nat),ye w' b db S Fj/\(∀ k,Fj k->F k\/w2.heap.size<=k)/\Only F w1 w'/\w2.heap.size<=w'.heap.size/\Blk w' r2 (ndV 5 x y (A',i+1,c')) 215/\Owni (zw .u32) 41 w' w2.heap.size A' (i+1) c' (vs.take (i+1))/\(∀ j,orow A'=some j->¬Fj j)) ?_ (fun J hJ=>?_)
  ·rintro _ w4 ⟨Fj,A',c',g1,g2,g3,g4,g5,g6,g7⟩;exact⟨⟨i+1,Fj,A',c',by omega,by rw[wrap_i64 (by omega) (by omega)];rfl,g1,g2,g3,g4,g5,g6,g7⟩,by rw[wrap_i64 (by omega) (by omega)];omega⟩
  refine zY hv3 (by omega) (by omega) ?_;rw[Int.toNat_natCast];refine yi (fun(_:Unit) w'=>∃ (Fj:Nat->Prop),ye w' b db S Fj/\(∀ k,Fj k->Fi k\/w3.heap.size<=k)/\Only Fi w3 w') ?_ (fun J9 hJ9=>?_);rotate_left
  ·refine zK fun w4 he4 hz4 hh4=>?_;have used_:∀ {K:WP},True->ze prog 134 [.pointer (some ⟨b,0,none⟩),.int .u64 ((vs.getD i 0:Nat):Int)] (.one (.one .bool)) (fun u:Bool=>za (!u) K (J9 ())) w4:=by
    intro K _;refine zb (ziG (hS3.ext he4) hg (hvu _ hvi) (h6 _ hvi)) ?_;rintro _ w5 ⟨rfl,F5,g1,g2,g3⟩;exact⟨_,rfl,zd (by rfl) (hJ9 _ _ ⟨F5,g1,fun k hk=>by
     rcases g2 k hk with e|e
     ·exact .inl e
     ·exact .inr (by omega),Only.trans (Only.zG he4) g3 (fun j hj=>.inl hj)⟩)⟩
   by_cases h0:i=0
   ·exact zd (decide_eq_false (by omega)) (zf rfl (used_ trivial))
   ·refine zf (decide_eq_true (by omega)) ?_;rw[show wrap .i64 ((i:Int)-1)=((i-1:Nat):Int) by rw[wrap_i64 (by omega) (by omega)];omega];refine zY (hk3.ext he4) (by omega) (by omega) ?_;refine zY (hk3.ext he4) (by omega) (by omega) ?_;rw[Int.toNat_natCast,Int.toNat_natCast];have:=qV.1 hrise (i-1) (by omega);rw[show i-1+1=i by omega]at this;exact zd (decide_eq_false (by omega)) (zf rfl (used_ trivial))
  rintro _ w4 ⟨F4,hS4,hF4,hO4⟩;refine zf rfl ?_;have hS3lt:=hS3.lt;have hs4:=hO4.2.2.2.1;have hF42:∀ k,F4 k->F k\/w2.heap.size<=k:=fun k hk=>by
   rcases hF4 k hk with e|e
   ·exact hFi k e
   ·exact .inr (by omega)
  have hr2F:¬F r2:=fun hf=>by have:=hFlt _ hf;omega
  have hb4:=hb3.only hO4 (hnFi _ hr2F hr2l);refine zk 3 ((A,i,c):SLC) hb4 (by rfl) ?_;have hw32:wrap .u32 ((vs.getD i 0:Nat):Int)=((vs.getD i 0:Nat):Int):=by rw[wrap_u32];omega
  rw[hw32];have ho4:=ho3.only hO4 hAF;refine yG (E:=zw .u32) (ys:=[vs.getD i 0]) (by rfl) rfl jV ho4 (by omega) (by dsimp only;omega) (by omega) ?_;intro A' c' w5 ho5 hg5;have hs5:=hg5.grown.size;have hb5:=hb4.grown hg5.grown (fun hh=>by have:=ho3.row _ hh.symm;omega);refine stE (o:=3) hb5 (by rw[zx]) (by show 3<4;omega) ?_;intro w6 hb6 o6;have hs6:=o6.2.2.2.1;have hAF4:∀ j,orow A=some j->¬F4 j:=fun j hj hf=>by
   have:=ho3.yg j hj;rcases hF4 j hf with e|e
   ·exact hAF j hj e
   ·omega
  have h4lt:=hS4.lt;have o46:Only (fun j=>orow A=some j\/j=r2) w4 w6:=Only.trans (Only.z8 hg5.grown (fun j hj=>.inl (.inl hj))) o6 (fun j hj=>.inl (.inr hj));refine hJ _ _ ⟨F4,A',c',hS4.only o46 (fun j hj e=>by
   rcases e with e|e
   ·exact hAF4 j e hj
   ·rw[e]at hj
    rcases hF42 _ hj with e|e
    ·exact hr2F e
    ·omega),hF42,Only.trans (Only.trans hO3 hO4 (fun j hj=>by
     rcases hFi j hj with e|e
     ·exact .inl e
     ·exact .inr (by omega))) o46 (fun j hj=>.inr (by
     rcases hj with e|e
     ·have:=ho3.row j e;omega
     ·omega)),by omega,hb6,?_,fun j hj hf=>?_⟩
  ·rw[show vs.take (i+1)=vs.take i++[vs.getD i 0] by rw[take_succ_eq_append_getElem hlt,getD_eq_getElem?_getD,List.getElem?_eq_getElem hlt];rfl];exact ho5.only o6 (fun j hj e=>by have:=ho5.row j hj;have:j=r2:=e;omega)
  ·rcases hg5.next j hj with e|e
   ·exact hAF4 j e hf
   ·have:=h4lt j hf;omega
 ·obtain rfl:i=vs.length:=by omega
  refine zd (decide_eq_false (by omega)) ?_;rw[take_of_length_le (by omega)]at ho3;refine zR (ls:=jf) (ndT 5 x y (A,vs.length,c)) hb3 (by rfl) ?_;have hAl:=ho3.yg;refine zb (ziI hS3 hg hpen (z:=(A,vs.length,c)) (hkx.only hO3 (fun a ha=>(hxF a ha).1)) hxc ho3.sl ho3.le.1 (fun a ha=>⟨hnFi _ (hxF a ha).1 (by have:=(hxF a ha).2;omega),by have:=(hxF a ha).2;omega⟩) (fun a ha=>⟨hAF _ (by rw[show A=some a from ha];rfl),hAl _ (by rw[show A=some a from ha];rfl)⟩) hlen h64 h1 h2 hrise hf) ?_;rintro _ w4 ⟨S',n,ls,rfl,hB,hst⟩;refine⟨((n:Int),0,()),rfl,S',n,ls,rfl,hB,yI.trans hO3 (fun k hk=>?_) hst⟩;rcases hFi k hk with e|e
  ·exact .inl e
  ·exact .inr (by omega)
end V
end Go.Proofs.YtplgodmmmppmeaaGreat
