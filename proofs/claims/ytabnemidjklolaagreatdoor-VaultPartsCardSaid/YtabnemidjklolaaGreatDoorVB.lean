/- VB: a part of the evaluator,of its logic,or of the laws' walk in it. -/
import Derived.Test.YtabnemidjklolaaGreatDoorLC
open List renaming getElem?_eq_getElem→YA,length_append→YB,getD_eq_getElem?_getD→YD,length_cons→YG,mem_cons_of_mem→YI,nil_append→YJ,cons_append→YK,mem_singleton→YM,map_cons→YN,getElem_mem→YP,length_nil→YQ,mem_cons→YS,append_nil→YV,getElem?_eq_some_iff→YW,eq_nil_of_length_eq_zero→YX,map_nil→YY,replicate→YZ,mem_map→Ye,take_of_length_le→Yi,length_map→Yj,mem_of_getElem?→Yk,getElem?_append_right→Yl,mem_append→Yo,getElem?_append_left→Yp,getElem?_map→Yq,length_take→Yv,getElem?_take→Yy,map_append→Yz,append_assoc→WB,getElem?_drop→WG,mem_of_mem_take→WI,length_replicate→WT,map_replicate→Wc,length_set→Wg,take_length→Wi,drop_zero→Wo,take_zero→QC,findIdx?_eq_some_iff_getElem→QM,getLast?_eq_getElem?→YA2
open Nat renaming le_refl→YC,lt_of_lt_of_le→YF,zero_le→Ya,le_trans→Ys,zero_add→WH,add_zero→WM,mul_one→Wa,add_mul→We,add_sub_cancel→Wn,not_lt_zero→Wq,sub_zero→Wu,sub_self→QG,add_assoc→YB2,le_zero→YJ1,succ_ne_zero→YQ4
open Or renaming inr→YE,inl→YH
open Bool renaming false_eq_true→YT,not_true→WX,true_eq_false→Qf,false_and→Qn,and_false→Qp,or_false→YC0,and_true→YC1,not_false→YE0
open Option renaming getD_some→YU,getD_none→Ww
open Prod renaming fst→YH3,snd→YS0
set_option linter.unusedVariables false
set_option linter.unusedSimpArgs false
set_option linter.unusedSectionVars false
set_option maxHeartbeats 8000000
open Nat renaming reduceLT→ZE
section
namespace Go.Ev
def iI(A:AD)(ss:List (List UInt8)):Nat->List Wr|0=>[]|i+1=>iI A ss i++(if A.read (145+i)=tx (ss.getD i [])then[]else[(145+i,tx (ss.getD i []))])
theorem rX(A)(ss):∀i,(iI A ss i).length<=i|0=>YC _|i+1=>by have:=rX A ss i;simp only[iI,YB];split<;>simp<;>omega
theorem oK{A}{ss}:∀{i}{w},w∈iI A ss i->∃j,j<i/\w=(145+j,tx (ss.getD j []))
 |0,w,h=>by cases h|i+1,w,h=>by
  rcases Yo.1 h with h|h;.obtain⟨j,hj,e⟩:=oK h;exact⟨j,by omega,e⟩
  .split at h;.cases h
   .exact⟨i,by omega,YM.1 h⟩
theorem qS{A}{ss}:∀i,((iI A ss i).map (·.1)).Nodup
 |0=>List.nodup_nil|i+1=>by
  simp only[iI,Yz];refine List.nodup_append.2 ⟨qS i,by split<;>simp,λx hx y hy=>?_⟩;obtain⟨w,hw,rfl⟩:=Ye.1 hx;obtain⟨j,hj,rfl⟩:=oK hw;split at hy;.cases hy
  .simp only[YN,YY,YM]at hy;omega
theorem KJ{A}{ss}:∀{i j},j<i->A.read (145+j)≠tx (ss.getD j [])->((145+j,tx (ss.getD j [])):Wr)∈iI A ss i
 |0,j,h,_=>by omega|i+1,j,h,hn=>by
  simp only[iI];by_cases hj:j=i;.simp_all
  .exact List.mem_append_left _ (KJ (by omega) hn)
theorem MH{A B:AD}{ss}{n}(hB:∀k,145<=k->find B.es k=find (laid A.es (iI A ss n)) k){j}(hj:j<n):B.read (145+j)=tx (ss.getD j []):=by
 rw[AD.read,hB _ (by omega)];by_cases h:A.read (145+j)=tx (ss.getD j [])
 .have hno:145+j∉(iI A ss n).map (·.1):=λhm=>by
   obtain⟨w,hw,e⟩:=Ye.1 hm;have:∀m,((145+j,tx (ss.getD j [])):Wr)∉iI A ss m:=by intro m;induction m with|zero=>intro h;cases h|succ m ih=>intro hx;simp only[iI]at hx;simp_all
   obtain⟨i,hi,rfl⟩:=oK hw;simp_all
  rw[dz hno];exact h
 .rw[show find (laid A.es (iI A ss n)) (145+j)=some (tx (ss.getD j []))from fj (qS n) (KJ hj h)];rfl
theorem Ca{len}:∀{ws}{seen},(∀w∈ws,qD len w/\w.1∉seen)->(ws.map (·.1)).Nodup->iu len seen ws=true
 |[],_,_,_=>rfl|w::ws,seen,h,hn=>by
  rw[YN,List.nodup_cons]at hn;simp only[iu];rw[if_pos (h w (List.mem_cons_self ..))];refine Ca (λv hv=>⟨(h v (YI _ hv)).1,λhm=>?_⟩) hn.2;rcases Yo.1 hm with hm|hm;.exact(h v (YI _ hv)).2 hm
  .exact hn.1 (Ye.2 ⟨v,hv,YM.1 hm⟩)
theorem KZ{m}(h:(po m).2=0):(po m).1.length<=1530:=by
 unfold po at h⊢;split at h
 .rename_i h0;rw[if_pos h0];split at h;.omega
  .rename_i h1;rw[if_neg h1];show(bq (mW m)).length<=1530;omega
 omega
section
variable{cp:RC->au}{t:Nat->Option dr}{fuel:Nat}{H:Heap}{O:Nat->Prop}{pk:List UInt8->List (List UInt8)}{unpk:List (List UInt8)->Option (List UInt8)}
theorem yu(T:aB t)(F:bC pk unpk)(hp:t 110=some (.nat (dC pk))){m}{vl vs vi}(hw:H.wf)(M:jO H O m vl vs vi)(Y:jH m)(hfu:1000<fuel):∃H' v,(∀(d)(k),aj (aT cp t fuel (d+7)) (.func 126 []) [.agg (aS m vl vs vi)] H k=k (.cG [v,.int 3 (po m).2]) H')/\ah H H'/\v.one=true/\((po m).2=0->Own H H' v 1 (pk (po m).1).length ((pk (po m).1).map tv)):=by
 have i1:=λ{id}{k}=>aM M.live.one (id:=id) (k:=k);have i2:=λ{id}{k}=>aM (let⟨_,h,_⟩:=M.ae;h.one) (id:=id) (k:=k);have i3:=λ{id}{k}=>aM M.bP.one (id:=id) (k:=k);obtain⟨G1,hG1,f1,p1,n1⟩:=Heap.aR hw (.cells (aS m vl vs vi));obtain⟨G2,z2,f2⟩:=uq (cp:=cp) T f1.wf (M.fresh f1) Y hfu;have w2:=f2.wf;have z2:=λ{d}{k}=>z2 d k;by_cases h0:(po m).2=0
 .have hl:=KZ h0;obtain⟨G3,hG3,f3,p3,n3⟩:=Heap.aR w2 (.cells ((pk (po m).1).map tv));have hpl:∀{d}{k},aj (aT cp t fuel (d+1)) (.func 220 []) [.str (po m).1.length (enc (po m).1)] G2 k=k (.cG [.slice G2.n 0 (pk (po m).1).length 0 1,.int 3 0]) G3:=λ{d k}=>by rw[oE hp rfl rfl];simp only[dC,YV,fH];rw[if_pos ⟨by omega,iM _⟩,cE w2,hG3]
  refine⟨G3,.slice G2.n 0 (pk (po m).1).length 0 1,λd k=>?_,(f1.trans f2).trans f3,rfl,λ_=>⟨by simp,λx hx=>?_,YE ⟨_,_,_,[],rfl,by rw[YV];omega,YE ⟨rfl,rfl,rfl⟩,(f1.trans f2).n,by omega⟩⟩⟩;.rw[h0]at z2⊢;simp only[tv]at z2;simp only[aS,bu]at hG1 p1 z2;rw[aI T.k63 rfl rfl];simp only[go_sem,c63,aS,bu,↓i1,↓i2,↓i3,hw,hG1,p1,↓z2,↓hpl]
  .obtain⟨s,-,rfl⟩:=Ye.1 hx;rfl
 .refine⟨G2,.aC,λd k=>?_,f1.trans f2,rfl,λh=>absurd h h0⟩;simp only[aS,bu]at hG1 p1 z2;rw[aI T.k63 rfl rfl];simp only[go_sem,c63,aS,bu,↓i1,↓i2,↓i3,hw,hG1,p1,↓z2,h0]
end
theorem Gr.grow{H G:Heap}{v x:V}{sz n m:Nat}{row new:List V}(f:ah H G)(h:Gr H G v sz n row)(hN:∀{id:Nat}{f:Nat->List V->R},cX id sz G x f=f m new)(hl:new.length=m*sz)(hone:∀v∈new,v.one=true)(hb:n+m<1000000):∃v' G',(∀{id:Nat}{ph:dg}{e:Env}{k:K}{a y:Arg},aA a e=v->aA y e=x->aQ (.app false sz a y) id ph e G k=k v' G')/\Gr H G' v' sz (n+m) (row++new)/\ah H G'/\(∀j,j<G.n->iw v j->G'.get j=G.get j):=by
 by_cases hm:m=0
 .subst hm;have hr:new=[]:=YX (by omega);subst hr;refine⟨v,G,λ{id ph e k a y}ha hx=>?_,by rw[YV];exact h,f,λj _ _=>rfl⟩;rw[da,ha,hx,hN];obtain⟨_,_,⟨rfl,_⟩|⟨b,c,s,rfl,_⟩⟩:=h;.rw[ek,if_pos rfl]
  .rw[cq,if_pos rfl]
 have hw:=f.wf;obtain⟨h1,h2,⟨rfl,rfl⟩|⟨b,c,s,rfl,g2,g3,g4,g5,g6⟩⟩:=h
 .have hr:row=[]:=YX (by omega);subst hr;refine⟨.slice G.n 0 m 0 sz,G.new (.cells new),λ{id ph e k a y}ha hx=>?_,⟨by simp[hl],by simpa using hone,YE ⟨G.n,0,sz,by rw[WH],by omega,YE ⟨rfl,rfl⟩,?_,f.n,by rw[Heap.aO];omega⟩⟩,f.trans (ah.new hw),λj hj _=>?_⟩;.rw[da,ha,hx,hN,ek,if_neg hm,bT hone,if_pos (by omega),cE hw]
  .rw[Heap.aF hw,if_pos rfl];rfl
  .rw[Heap.aF hw,if_neg (by omega)]
 .have hlr:∀{id:Nat}{g:List V->R},eL id G b 0 (n*sz) g=g row:=λ{id g}=>by rw[pj,g4,fL,eV (Ya _),eF (by simp[h1])];rw[Wo,Yi (by omega)]
  have hlen:(row++new).length=(n+m)*sz:=by rw[YB,h1,hl,We]
  have hon:∀v∈row++new,v.one=true:=λv hv=>(Yo.1 hv).elim (h2 v) (hone v);rcases g3 with rfl|⟨rfl,rfl⟩
  .refine⟨.slice G.n 0 (n+m) 0 sz,G.new (.cells (row++new)),λ{id ph e k a y}ha hx=>?_,⟨hlen,hon,YE ⟨G.n,0,sz,rfl,by omega,YE ⟨rfl,rfl⟩,?_,f.n,by rw[Heap.aO];omega⟩⟩,f.trans (ah.new hw),λj hj _=>?_⟩;.rw[da,ha,hx,hN,cq,if_neg hm,iE (by omega),bT hone,if_pos (by omega),hlr,bT h2,cE hw]
   .rw[Heap.aF hw,if_pos rfl]
   .rw[Heap.aF hw,if_neg (by omega)]
  .have hw2:(G.put b .dead).wf:=by rw[Heap.bH];exact hw
   refine⟨.slice G.n 0 (n+m) 0 s,(G.put b .dead).new (.cells (row++new)),λ{id ph e k a y}ha hx=>?_,⟨hlen,hon,YE ⟨G.n,0,s,rfl,by omega,YE ⟨rfl,rfl⟩,?_,f.n,by rw[Heap.aO,Heap.aV];omega⟩⟩,(f.put g5 g6).trans (ah.new hw2),λj hj ho=>?_⟩;.rw[da,ha,hx,hN,cq,if_neg hm,l4,bT hone,if_pos (by omega),g4,fL,if_pos h1,eW hw g6,cE hw2,Heap.aV]
   .rw[Heap.aF hw2,if_pos (by rw[Heap.aV])]
   .rw[Heap.aF hw2,if_neg (by rw[Heap.aV];omega),Heap.aG hw g6,if_neg (ho _ _ _ _ _ rfl)]
theorem tG{ph}{e}{H H'}{kn:KE}{n0 id}{l}{fl st}{dd}{i bf}{ad}{op}{v w}{x}(hb:aA ad e=w)(hw:w=.aC\/∃b o n c s,w=.slice b o n c s/\∀k:R,dM id bf b fl k=k)(hop:∀k:K,aQ op id ph e H k=k v H')(hx:∀st',bQ ph n0 l (dD dd v e) H' fl st' kn=x):bQ ph n0 (⟨id,dd,none,3,i,bf,ad,op⟩::l) e H fl st kn=x:=by
 show aJ ad e (λa=>nE id a λob=>Option.rec (aQ op id ph e H λv H'=>cj dd v e λe'=>bQ ph n0 l e' H' fl st kn) (λb=>dM id bf b fl (aQ op id ph e H λv H'=>cj dd v e λe'=>bQ ph n0 l e' H' fl ((i,b)::st) kn)) ob)=_;rw[aq,hb];rcases hw with rfl|⟨b,o,n,c,s,rfl,h⟩;.show aQ op id ph e H (λv H'=>cj dd v e λe'=>bQ ph n0 l e' H' fl st kn)=_;rw[hop,ck];simp_all
 .show dM id bf b fl (aQ op id ph e H λv H'=>cj dd v e λe'=>bQ ph n0 l e' H' fl ((i,b)::st) kn)=_;rw[h,hop,ck];simp_all
def Ka(cp:RC->au)(t:Nat->Option dr)(fuel B bt:Nat):List V->Heap->Heap->Prop|[],G,G'=>G'=G|f::fs,G,G'=>∃G1,(∀(d:Nat)(k:K),aj (aT cp t fuel (d+5)) f [.ptr B 0] G k=k (.cG []) G1)/\G1.get bt=G.get bt/\Ka cp t fuel B bt fs G1 G'
def vc(m:MT)(vl vs vi:V)(dp:Nat)(lost:Bool):List V:=aS m vl vs vi++[.ptr dp 0,.bool lost]
section
variable{cp:RC->au}{t:Nat->Option dr}{fuel:Nat}{H:Heap}
theorem kU(T:aB t){B bt c z vp}{vb}{all}(hn:all.length<1000)(ha:∀f∈all,f.one=true):∀(fs pre)(G G'),all=pre++fs->Ka cp t fuel B bt fs G G'->G.get bt=.cells all->∀(d)(kx)(r)(e),fs.length<r->af s000 e=.ptr vp 0->af s001 e=vb->af s007 e=.ptr B 0->af s026 e=.slice bt 0 all.length c z->af s027 e=.int 3 all.length->af s030 e=.int 3 pre.length->∀x:R,(∀e',af s000 e'=.ptr vp 0->af s001 e'=vb->af s007 e'=.ptr B 0->kx 1 e' G'=x)->kf Kr fuel (aT cp t fuel (d+7)) kx r e G=x
 |[],pre,G,G',hal,hT,hg,d,kx,r,e,hr,q0,q1,q7,q26,q27,q30,x,hk=>by
  obtain⟨r,rfl⟩:=s_ r;rw[YV]at hal;subst hal;obtain rfl:G'=G:=hT;have e1:¬all.length<all.length:=by omega
  have e2:=n_ all.length;rw[ak];simp only[go_sem,Kr,q27,q30,e1,e2];exact hk _ q0 q1 q7|f::fs,pre,G,G',hal,⟨G1,z1,h1,hT⟩,hg,d,kx,r,e,hr,q0,q1,q7,q26,q27,q30,x,hk=>by
  obtain⟨r,rfl⟩:=s_ r;have hl:all.length=pre.length+(fs.length+1):=by rw[hal];simp
  have hget:all[pre.length]?=some f:=by rw[hal];simp
  have hf1:=ha f (Yk hget);have hrd:∀{id}{k},nth id all pre.length k=k f:=iV hget;have e1:pre.length<all.length:=by omega
  have e2:=n_ all.length;have e3:=n_ pre.length;have e4:=l_ pre.length;have e5:=m_ (pre.length+1);have e6:=by omega
  have i1:=λ{id}{k}=>aM hf1 (id:=id) (k:=k);have z1:=λ{d}{k}=>z1 d k;rw[ak];simp only[go_sem,Kr,q7,q26,q27,q30,e1,e2,e3,e4,e5,hg,↓hrd,↓z1];refine kU (c:=c) (z:=z) T hn ha fs (pre++[f]) G1 G' (by rw[hal];simp) hT (h1.trans hg) d kx r _ (by simp at hr;omega) ?_ ?_ ?_ ?_ ?_ ?_ x hk;.exact q0
  .exact q1
  .exact q7
  .exact q26
  .exact q27
  .simp only[go_sem,YB,YG,YQ]
theorem MI(T:aB t)(hc:aP t){vp dp B:Nat}{m:MT}{vl vs vi vS vb:V}{lost:Bool}{A:AD}{O Q:Nat->Prop}{ss:List (List UInt8)}(hD:cN H dp A O)(ho:A.off=false)(hV:H.get vp=.cells (vc m vl vs vi dp lost))(hVn:vp<H.n)(hvs:Row H Q vS 1 ss.length (ss.map tv))(hN:ss.length<=48)(hA:193<=A.len)(hA2:A.len<=1024):∀(m i:Nat)(G:Heap)(vw:V),i+m=ss.length->ah H G->Gr H G vw 2 (iI A ss i).length (bK (iI A ss i))->∃G' vw',ah H G'/\Gr H G' vw' 2 (iI A ss ss.length).length (bK (iI A ss ss.length))/\∀(d:Nat)(kx:Nat->KE)(r:Nat)(e:Env),m<r->af s000 e=.ptr vp 0->af s001 e=vb->af s007 e=.ptr B 0->af s014 e=vw->af s047 e=vS->af s050 e=.int 3 ss.length->af s051 e=.int 3 i->∀x:R,(∀e',af s000 e'=.ptr vp 0->af s001 e'=vb->af s007 e'=.ptr B 0->af s014 e'=vw'->kx 3 e' G'=x)->
  kf DL fuel (aT cp t fuel (d+3)) kx r e G=x:=by intro mm;induction mm with|zero=>
  intro i G vw hi f hg;obtain rfl:i=ss.length:=by omega
  refine⟨G,vw,f,hg,λd kx r e hr q0 q1 q7 q14 q47 q50 q51 x hT=>?_⟩;obtain⟨r,rfl⟩:=s_ r;have e1:¬ss.length<ss.length:=by omega
  have e2:=n_ ss.length;rw[ak];simp only[go_sem,DL,q50,q51,e1,e2];exact hT _ q0 q1 q7 q14|succ mm ih=>
  intro i G vw hi f hg;have hlt:i<ss.length:=by omega
  have hget:ss[i]?=some ss[i]:=YA hlt;have hgd:ss.getD i []=ss[i]:=by rw[YD,hget];rfl
  have hdif:iI A ss (i+1)=iI A ss i++(if A.read (145+i)=tx ss[i]then[]else[(145+i,tx ss[i])]):=by rw[<-hgd];rfl
  generalize ss[i]=sx at hget hdif;have hrow:(ss.map tv)[i*1]?=some (tv sx):=by rw[Wa,Yq,hget];rfl
  obtain⟨bs,os,cs,zs,rfl,hbn,-,hop⟩:=hvs.open hlt;have hrd:∀{id:Nat}{k:V->R},FO id (G.get bs) (os+i) k=k (tv sx):=λ{id k}=>by have:=(hop (f.same bs hbn)).2 hrow (id:=id) (k:=k);rwa[Wa]at this
  have gK:G.get vp=.cells (vc m vl vs vi dp lost):=(f.same vp hVn).trans hV;obtain⟨G1,z1,f1⟩:=pD (cp:=cp) (fuel:=fuel) (a:=145+i) (T.jl hc) (hD.fresh f) ho (by omega);have w1:=f1.wf;have e1:=n_ i;have e2:=n_ ss.length;have e3:=l_ i;have e9:=m_ (i+1);have e10:=m_ (145+i);have z1':=λ{d:Nat}{k:K}=>z1 d k;generalize hq:A.read (145+i)=q at z1' hdif;simp only[vc,aS,bu,YK,YJ]at gK;by_cases hqs:q=tx sx
  .rw[if_pos hqs,YV]at hdif;obtain⟨G',vw',f',hg',hL⟩:=ih (i+1) G1 vw (by omega) (f.trans f1) (by rw[hdif];exact hg.fresh f1);refine⟨G',vw',f',hg',λd kx r e hr q0 q1 q7 q14 q47 q50 q51 x hT=>?_⟩;obtain⟨r,rfl⟩:=s_ r;rw[hqs]at z1';simp only[sv,tx]at z1';simp only[tv]at hrd;rw[ak];simp only[go_sem,DL,q0,q47,q50,q51,hlt,e1,e2,e3,e9,e10,↓hrd,gK,↓z1',and_self];refine hL d kx r _ (by omega) ?_ ?_ ?_ ?_ ?_ ?_ ?_ x hT;.exact q0
   .exact q1
   .exact q7
   .exact q14
   .exact q47
   .exact q50
   .rfl
  .rw[if_neg hqs]at hdif;obtain⟨G2,hG2,f2,p2,n2⟩:=Heap.aR w1 (.cells [.int 3 (145+i),tv sx]);obtain⟨v',G3,hap,hg3,f3,_,_,_⟩:=Gr.app (cx:=2) (sx:=0) ((f.trans f1).trans f2) ((hg.fresh f1).fresh f2) p2 rfl (by simp[tv,V.one]) (by have:=rX A ss i;omega);have hl1:(iI A ss (i+1)).length=(iI A ss i).length+1:=by rw[hdif];simp
   have hl2:bK (iI A ss (i+1))=bK (iI A ss i)++[.int 3 (145+i),tv sx]:=by rw[hdif,dP];rfl
   obtain⟨G',vw',f',hg',hL⟩:=ih (i+1) G3 v' (by omega) f3 (by rw[hl1,hl2];exact hg3);refine⟨G',vw',f',hg',λd kx r e hr q0 q1 q7 q14 q47 q50 q51 x hT=>?_⟩;obtain⟨r,rfl⟩:=s_ r;have hne:(q.1=sx.length/\q.2=enc sx)=False:=eq_false λh=>hqs (Prod.ext h.1 h.2);simp only[sv]at z1';simp only[tv]at hrd hG2;rw[ak];simp only[go_sem,DL,q0,q14,q47,q50,q51,hlt,e1,e2,e3,e9,e10,↓hrd,gK,↓z1',hne,w1,hG2,↓hap];refine hL d kx r _ (by omega) ?_ ?_ ?_ ?_ ?_ ?_ ?_ x hT;.exact q0
   .exact q1
   .exact q7
   .rfl
   .exact q47
   .exact q50
   .rfl
end
def bz(O:Nat->Prop)(kp:Nat):Nat->Prop:=λb=>O b\/b=kp
theorem Step.iW{H:Heap}{P:Nat->Prop}{kp:Nat}{x:eB}(hw:H.wf)(hk:kp<H.n)(hp:P kp):Step H P (H.put kp x) P:=⟨by rw[Heap.bH];exact hw,by rw[Heap.aV];exact YC _,λb hb ho=>⟨by rw[Heap.aG hw hk,if_neg (λe=>ho (by rw[e];exact hp))],ho⟩,λlo h1 h2 h3=>⟨Heap.eS h1 (h3 kp hp),h3⟩⟩
theorem Step.Bk{H H':Heap}{O O':Nat->Prop}{kp:Nat}(s:Step H O H' O'):Step H (bz O kp) H' (bz O' kp):=⟨s.wf,s.n,λb hb ho=>⟨(s.same b hb λh=>ho (YH h)).1,λh=>h.elim (λh=>(s.same b hb λh=>ho (YH h)).2 h) λh=>ho (YE h)⟩,λlo h1 h2 h3=>⟨(s.lo lo h1 h2 λb hb=>h3 b (YH hb)).1,λb hb=>hb.elim (λhb=>(s.lo lo h1 h2 λb hb=>h3 b (YH hb)).2 b hb) λhb=>h3 b (YE hb)⟩⟩
theorem fC.mK{H:Heap}{O Q:Nat->Prop}{v:V}{ss:List Sn}(h:fC H O v ss)(h0:∀b,b<H.n->Q b->O b):fC H Q v ss:=let⟨xs,h1,h2,h3⟩:=h;⟨xs,h1.mK h0,h2,λi s hs=>let⟨x,g1,g2⟩:=h3 i s hs;⟨x,g1,Row.mK g2 h0⟩⟩
theorem jO.mK{H:Heap}{O Q:Nat->Prop}{m:MT}{vl vs vi:V}(h:jO H O m vl vs vi)(h0:∀b,b<H.n->Q b->O b):jO H Q m vl vs vi:=⟨Row.mK h.live h0,h.ae.mK h0,Row.mK h.bP h0⟩
def Rq(pk:List UInt8->List (List UInt8))(A:AD)(m:MT)(bw:List Wr):List Wr:=iI A (pk (po m).1) (pk (po m).1).length++bw
def j8(pk:List UInt8->List (List UInt8))(A:AD)(a:Nat)(m:MT)(bw:List Wr):AD×Nat:=if(po m).2=0then A.ep pk a (Rq pk A m bw)else(A,(po m).2)
section
variable{cp:RC->au}{t:Nat->Option dr}{fuel:Nat}{H:Heap}{pk:List UInt8->List (List UInt8)}{unpk:List (List UInt8)->Option (List UInt8)}
set_option maxRecDepth 4000in theorem DZ(T:aB t)(hc:aP t)(F:bC pk unpk)(hp:t 110=some (.nat (dC pk))){dp vp a n bt c z:Nat}{A:AD}{O:Nat->Prop}{m m':MT}{vl vs vi vb:V}{lost:Bool}{bw:List Wr}{fs:List V}{Hb:Heap}(f0:ah Hb H)(hD:cN Hb dp A O)(ho:A.off=false)(C:pN A a n)(hA:193<=A.len)(hA2:A.len<=1024)(hV:Hb.get vp=.cells (vc m vl vs vi dp lost))(hVn:vp<Hb.n)(hVO:¬O vp)(M:jO Hb (bz O vp) m vl vs vi)(Y:jH m)(Y':jH m')(hbw:∀w∈bw,w.1<18446744073709551616/\w.2.1<1000000/\sO w.2)(hbl:bw.length<1000)(hbt:H.get bt=.cells fs)(hbn:bt<H.n)(hfl:fs.length<1000)(hf1:∀f∈fs,f.one=true)(ht:∀(G1 G:Heap)(vl1 vs1 vi1:V),ah H G1->MO H G1 m vl1 vs1 vi1->ah G1 G->G.get G1.n=.cells (aS m vl1 vs1 vi1)->G.n=G1.n+1->∃G' vl2 vs2 vi2,Ka cp t fuel G1.n bt fs G G'/\ah Hb G'/\G1.n<G'.n/\G'.get G1.n=.cells (aS m' vl2 vs2 vi2)/\jO G' (λb=>b<Hb.n) m' vl2 vs2 vi2/\Row G' (bz O vp) vb 2 bw.length (bK bw))(hfu:1000000<fuel):∃H' O',(∀(d:Nat)(k:K),aj (aT cp t fuel (d+8)) (.func 112 []) [.ptr vp 0,vb,.slice bt 0 fs.length c z] H k=k (.int 3 (j8 pk A a m' bw).2) H')/\Step Hb (bz O vp) H' (bz O' vp)/\cN H' dp (j8 pk A a m' bw).1 O'/\¬O' vp/\vp<H'.n/\(((j8 pk A a m' bw).2=0/\∃vl2 vs2 vi2,H'.get vp=.cells (vc m' vl2 vs2 vi2 dp lost)/\jO H' (bz O' vp) m' vl2 vs2 vi2/\∀X:Nat->Prop,(∀b,X b->b<Hb.n)->jO H' (λb=>X b\/bz O' vp b) m' vl2 vs2 vi2)\/((j8 pk A a m' bw).2≠0/\H'.get vp=.cells (vc m vl vs vi dp (lost||((po m').2==0&&(j8 pk A a m' bw).2==6)))/\jO H' (bz O' vp) m vl vs vi/\∀X:Nat->Prop,jO Hb (λb=>X b\/bz O vp b) m vl vs vi->jO H' (λb=>X b\/bz O' vp b) m vl vs vi)):=by
 have hw:=f0.wf;have m0:=f0.n;have hWn:∀b,bz O vp b->b<Hb.n:=λb h=>h.elim (hD.lt b) λh=>by rw[h];exact hVn
 have i1:=λ{id:Nat}{k:R}=>aM M.live.one (id:=id) (k:=k);have i2:=λ{id:Nat}{k:R}=>aM (let⟨_,h,_⟩:=M.ae;h.one) (id:=id) (k:=k);have i3:=λ{id:Nat}{k:R}=>aM M.bP.one (id:=id) (k:=k);obtain⟨G1,vl1,vs1,vi1,z1,f1,o1⟩:=Ov (cp:=cp) (fuel:=fuel) T hw (M.fresh f0) Y (by omega);obtain⟨o1a,o1b,o1c⟩:=o1.one;have j1:=λ{id:Nat}{k:R}=>aM o1a (id:=id) (k:=k);have j2:=λ{id:Nat}{k:R}=>aM o1b (id:=id) (k:=k);have j3:=λ{id:Nat}{k:R}=>aM o1c (id:=id) (k:=k);have w1:=f1.wf;obtain⟨G2,hG2,f2,p2,n2⟩:=Heap.aR w1 (.cells [.aC,.aC,.int 7 0,.int 7 0,.int 7 0,.int 7 0,.int 3 0,.int 3 0,.aC]);have w2:=f2.wf;have hB2:G1.n<G2.n:=by omega
 obtain⟨G3,hG3,f3,p3,n3,w3,k3⟩:=Heap.aZ (b:=G1.n) f2 (YC _) hB2 (.cells (aS m vl1 vs1 vi1));obtain⟨G4,vl2,vs2,vi2,hT,f4,hB4,p4,M4',R4⟩:=ht G1 G3 vl1 vs1 vi1 f1 o1 f3 p3 (by omega);have M4:jO G4 (bz O vp) m' vl2 vs2 vi2:=M4'.mK λb _ h=>hWn b h;have hbt3:G3.get bt=.cells fs:=(f3.same _ (by have:=f1.n;omega)).trans ((f1.same _ hbn).trans hbt);obtain⟨G5,vS,z5,f5,hS1,hS⟩:=yu (cp:=cp) (fuel:=fuel) T F hp f4.wf M4 Y' (by omega);have m1:=f1.n;have m4:=f4.n;have m5:=f5.n;have f45:=f4.trans f5;have z1:=λ{d:Nat}{k:K}=>z1 (d+4) k;have z5:=λ{d:Nat}{k:K}=>z5 d k;have hV':=(f0.same _ hVn).trans hV;simp only[vc,aS,bu,YK,YJ]at hV';have gB4':=p4;have hVs:∀{x:eB},Hb.get vp=x->G5.get vp=x:=λh=>(f45.same _ hVn).trans h;simp only[aS,bu]at z1 hG3 gB4' z5;have hcz:=l_ fs.length;unfold j8;by_cases h0:(po m').2=0
 .rw[if_pos h0];have hS:=hS h0;have hlen:=KZ h0;have hsz:=F.size (po m').1 (by omega);rw[h0]at z5;have h32:=F.len (po m').1 (by omega);generalize hws:Rq pk A m' bw=ws;unfold Rq at hws;generalize pk (po m').1=ss at hS hsz h32 hws;have hSr:Row G5 (bz O vp) vS 1 ss.length (ss.map tv):=hS.toRow λb h=>YF (hWn b h) m4;have hsS:=λ{id:Nat}{f:Nat->R}=>hS.sn (id:=id) (f:=f);have e1:=l_ ss.length;obtain⟨G6,vw,f6,hvw,hL⟩:=MI (cp:=cp) (fuel:=fuel) (B:=G1.n) (vb:=vb) T hc (hD.fresh f45) ho (hVs hV) (by omega) hSr (by omega) hA hA2 ss.length 0 G5 .aC (by omega) (ah.refl f5.wf) Gr.aC;have hdl:=rX A ss ss.length;have f46:=f45.trans f6;have m6:=f6.n;obtain⟨vws,G7,hop,hvws,f7,k7⟩:=Gr.grow (x:=vb) f6 hvw (λ{id f}=>R4.nc λb hb _=>(f5.trans f6).same b hb) (by rw[dj]) (λv hv=>R4.2.1 v hv) (by omega);have f47:=f45.trans f7;have gV6:=(f46.same _ hVn).trans hV;have gV7:=(f47.same _ hVn).trans hV;have gV6':=gV6;simp only[vc,aS,bu,YK,YJ]at gV6';have hoff:vw=.aC\/∃b o n c s,vw=.slice b o n c s/\∀k:R,dM 0 48 b [(3,vp)] k=k:=by
   obtain⟨_,_,⟨h,_⟩|⟨b,c,s,h,_,_,_,g,_⟩⟩:=hvw;.exact YH h
   .exact YE ⟨b,0,_,c,s,h,λk=>by rw[Dr,if_neg (by decide),if_neg (by omega),mO]⟩
  rw[<-YB,<-dP,hws]at hvws;have hws':∀w∈ws,w.1<18446744073709551616/\w.2.1<1000000/\sO w.2:=by
   intro w hw;rw[<-hws]at hw;rcases Yo.1 hw with h|h;.obtain⟨j,hj,rfl⟩:=oK h;have:(ss.getD j []).length=32:=h32 _ (by rw[YD,YA hj];exact YP _);exact⟨by show 145+j<_;omega,by show(ss.getD j []).length<_;omega,iM _⟩
   .exact hbw w h
  have hwl:ws.length<10000:=by rw[<-hws,YB];omega
  have hwsAt:mN G7 vws ws O:=by
   obtain⟨p1,p2,⟨p3,p4⟩|⟨b,c,s,p3,p4,p5,p6,p7,p8⟩⟩:=hvws;.exact YH ⟨p3,YX p4⟩
   .exact YE ⟨b,c,s,p3,p6,p8,λhb=>by have:=hD.lt b hb;omega⟩
  obtain⟨G8,O8,z8,s8,D8⟩:=uk (cp:=cp) (fuel:=fuel) T hc F hp (hD.fresh f47) C hwsAt hws' hwl (by omega);have z8:=λ{d:Nat}{k:K}=>z8 d k;have hn47:=f47.n;have hs8:=s8.n;have hV8:G8.get vp=.cells (vc m vl vs vi dp lost):=(s8.same _ (by omega) hVO).1.trans gV7;have hVO8:¬O8 vp:=(s8.same _ (by omega) hVO).2;have M48:jO G8 (bz O8 vp) m' vl2 vs2 vi2:=(M4.fresh (f5.trans f7)).cm s8.Bk;have M08:jO G8 (bz O8 vp) m vl vs vi:=(M.fresh f47).cm s8.Bk;have s08:Step Hb (bz O vp) G8 (bz O8 vp):=f47.step.trans s8.Bk;have hBO:¬O G1.n:=λh=>by have:=hD.lt _ h;omega
  have hB8:G8.get G1.n=.cells (aS m' vl2 vs2 vi2):=(s8.same _ (by have:=f7.n;omega) hBO).1.trans (((f5.trans f7).same _ hB4).trans p4);have w8:=s8.wf;have hp8:vp<G8.n:=by omega
  have hV8':=hV8;simp only[vc,aS,bu,YK,YJ]at hV8';have hB8':=hB8;simp only[aS,bu]at hB8';have y1:=λ{id:Nat}{k:R}=>aM M48.live.one (id:=id) (k:=k);have y2:=λ{id:Nat}{k:R}=>aM (let⟨_,h,_⟩:=M48.ae;h.one) (id:=id) (k:=k);have y3:=λ{id:Nat}{k:R}=>aM M48.bP.one (id:=id) (k:=k);generalize(A.ep pk a ws).2=cd at z8⊢;by_cases c0:cd=0
  .subst c0;obtain⟨G9,hG9,-,p9,n9,w9,k9⟩:=Heap.aZ (b:=vp) (ah.refl w8|>λf=>(⟨f.wf,Ya _,λj hj=>absurd hj (Wq _),λlo _ h=>by rw[show lo=0from YJ1.1 h];exact Ya _⟩:ah (.mk 0 0 .e) G8)) (Ya _) hp8 (.cells (vc m' vl2 vs2 vi2 dp lost));have s9:Step G8 (bz O8 vp) G9 (bz O8 vp):=by rw[<-hG9];exact Step.iW w8 hp8 (YE rfl)
   refine⟨G9,O8,λd k=>?_,s08.trans s9,?_,hVO8,by omega,YH ⟨rfl,vl2,vs2,vi2,p9,M48.cm s9,λX hX=>(((M4'.mK λb _ h=>h.elim (hX b) (hWn b)).fresh (f5.trans f7)).cm s8.Bk.or).cm s9.or⟩⟩
   .simp only[vc,aS,bu,YK,YJ]at hG9;rw[aI T.k56 rfl rfl];simp only[go_sem,c56,DM,hV',↓z1,↓j1,↓j2,↓j3,w1,hG2,p2,w2,hB2,hG3];simp only[go_sem,DN,hcz];refine kU (cp:=cp) (fuel:=fuel) (vp:=vp) (vb:=vb) (c:=c) (z:=z) T hfl hf1 fs [] G3 G4 rfl hT hbt3 d _ fuel _ (by omega) ?_ ?_ ?_ ?_ ?_ ?_ _ λe' q0 q1 q7=>?_;.rfl
    .rfl
    .rfl
    .rfl
    .rfl
    .simp only[go_sem,YQ]
    simp only[go_sem,DO,DP,q7,gB4',↓z5];simp only[go_sem,Ks,Kt,↓hsS,e1];refine hL (d+4) _ fuel _ (by omega) ?_ ?_ ?_ ?_ ?_ ?_ ?_ _ λe'' q0 q1 q7 q14=>?_;.exact q0
    .exact q1
    .exact q7
    .rfl
    .rfl
    .rfl
    .rfl
    simp only[go_sem,Ku,xd,ia,q0];refine(xg (b:=vp) (o:=9) (v:=.ptr dp 0) rfl (by omega) (λk=>by simp only[go_sem,gV6']) (λk=>mO)).trans ?_;simp only[go_sem,ia,q1,q14];refine tG (v:=vws) (H':=G7) (w:=vw) rfl hoff (λk=>hop rfl rfl) λst'=>?_;simp only[go_sem,ia,qV,↓z8];simp only[go_sem,Kv,q0,q7,hB8',↓y1,↓y2,↓y3,hV8',w8,hp8,hG9];simp only[go_sem,Kw,Bv]
   .rw[<-hG9];exact(D8.cm (Q:=λb=>b=vp) (Step.iW w8 hp8 rfl) λb hb e=>hVO8 (by rw[<-e];exact hb)).1
  .by_cases c6:cd=6
   .subst c6;obtain⟨G9,hG9,-,p9,n9,w9,k9⟩:=Heap.aZ (b:=vp) (ah.refl w8|>λf=>(⟨f.wf,Ya _,λj hj=>absurd hj (Wq _),λlo _ h=>by rw[show lo=0from YJ1.1 h];exact Ya _⟩:ah (.mk 0 0 .e) G8)) (Ya _) hp8 (.cells (vc m vl vs vi dp true));have s9:Step G8 (bz O8 vp) G9 (bz O8 vp):=by rw[<-hG9];exact Step.iW w8 hp8 (YE rfl)
    refine⟨G9,O8,λd k=>?_,s08.trans s9,?_,hVO8,by omega,YE ⟨c0,?_,M08.cm s9,λX hX=>((hX.fresh f47).cm s8.Bk.or).cm s9.or⟩⟩
    .simp only[vc,aS,bu,YK,YJ]at hG9;rw[aI T.k56 rfl rfl];simp only[go_sem,c56,DM,hV',↓z1,↓j1,↓j2,↓j3,w1,hG2,p2,w2,hB2,hG3];simp only[go_sem,DN,hcz];refine kU (cp:=cp) (fuel:=fuel) (vp:=vp) (vb:=vb) (c:=c) (z:=z) T hfl hf1 fs [] G3 G4 rfl hT hbt3 d _ fuel _ (by omega) ?_ ?_ ?_ ?_ ?_ ?_ _ λe' q0 q1 q7=>?_;.rfl
     .rfl
     .rfl
     .rfl
     .rfl
     .simp only[go_sem,YQ]
     simp only[go_sem,DO,DP,q7,gB4',↓z5];simp only[go_sem,Ks,Kt,↓hsS,e1];refine hL (d+4) _ fuel _ (by omega) ?_ ?_ ?_ ?_ ?_ ?_ ?_ _ λe'' q0 q1 q7 q14=>?_;.exact q0
     .exact q1
     .exact q7
     .rfl
     .rfl
     .rfl
     .rfl
     simp only[go_sem,Ku,xd,ia,q0];refine(xg (b:=vp) (o:=9) (v:=.ptr dp 0) rfl (by omega) (λk=>by simp only[go_sem,gV6']) (λk=>mO)).trans ?_;simp only[go_sem,ia,q1,q14];refine tG (v:=vws) (H':=G7) (w:=vw) rfl hoff (λk=>hop rfl rfl) λst'=>?_;simp only[go_sem,ia,qV,↓z8];simp only[go_sem,Kv,q0,hV8',w8,hp8,hG9];simp only[go_sem,Kw,Bv]
    .rw[<-hG9];exact(D8.cm (Q:=λb=>b=vp) (Step.iW w8 hp8 rfl) λb hb e=>hVO8 (by rw[<-e];exact hb)).1
    .rw[p9,h0];simp
   .refine⟨G8,O8,λd k=>?_,s08,D8,hVO8,by omega,YE ⟨c0,?_,M08,λX hX=>(hX.fresh f47).cm s8.Bk.or⟩⟩
    .rw[aI T.k56 rfl rfl];simp only[go_sem,c56,DM,hV',↓z1,↓j1,↓j2,↓j3,w1,hG2,p2,w2,hB2,hG3];simp only[go_sem,DN,hcz];refine kU (cp:=cp) (fuel:=fuel) (vp:=vp) (vb:=vb) (c:=c) (z:=z) T hfl hf1 fs [] G3 G4 rfl hT hbt3 d _ fuel _ (by omega) ?_ ?_ ?_ ?_ ?_ ?_ _ λe' q0 q1 q7=>?_;.rfl
     .rfl
     .rfl
     .rfl
     .rfl
     .simp only[go_sem,YQ]
     simp only[go_sem,DO,DP,q7,gB4',↓z5];simp only[go_sem,Ks,Kt,↓hsS,e1];refine hL (d+4) _ fuel _ (by omega) ?_ ?_ ?_ ?_ ?_ ?_ ?_ _ λe'' q0 q1 q7 q14=>?_;.exact q0
     .exact q1
     .exact q7
     .rfl
     .rfl
     .rfl
     .rfl
     simp only[go_sem,Ku,xd,ia,q0];refine(xg (b:=vp) (o:=9) (v:=.ptr dp 0) rfl (by omega) (λk=>by simp only[go_sem,gV6']) (λk=>mO)).trans ?_;simp only[go_sem,ia,q1,q14];refine tG (v:=vws) (H':=G7) (w:=vw) rfl hoff (λk=>hop rfl rfl) λst'=>?_;simp only[go_sem,ia,qV,↓z8];simp only[go_sem,Kv,c0,c6];simp only[go_sem,Kw,Bv]
    .rw[hV8,show(cd==6)=false from beq_eq_false_iff_ne.2 c6,Qp,YC0]
 .rw[if_neg h0];generalize(po m').2=en at z5 h0;refine⟨G5,O,λd k=>?_,f45.step,hD.fresh f45,hVO,by omega,YE ⟨h0,?_,M.fresh f45,λX hX=>hX.fresh f45⟩⟩
  .rw[aI T.k56 rfl rfl];simp only[go_sem,c56,DM,hV',↓z1,↓j1,↓j2,↓j3,w1,hG2,p2,w2,hB2,hG3];simp only[go_sem,DN,hcz];refine kU (cp:=cp) (fuel:=fuel) (vp:=vp) (vb:=vb) (c:=c) (z:=z) T hfl hf1 fs [] G3 G4 rfl hT hbt3 d _ fuel _ (by omega) ?_ ?_ ?_ ?_ ?_ ?_ _ λe' q0 q1 q7=>?_;.rfl
   .rfl
   .rfl
   .rfl
   .rfl
   .simp only[go_sem,YQ]
   simp only[go_sem,DO,DP,q7,gB4',↓z5];simp only[go_sem,h0]
  .rw[hVs hV,show(en==0)=false from beq_eq_false_iff_ne.2 h0,Qn,YC0]
end
def dJ(a b:Gd):Bool:=decide (b.1<a.1)||(decide (a.1=b.1)&&decide (b.2<a.2))
def su(m:MT)(block:Nat)(data:List UInt8):Bool:=decide (block<m.live.length)&&decide (data.length=32)
section
variable{cp:RC->au}{t:Nat->Option dr}{fuel:Nat}{H:Heap}{O:Nat->Prop}
theorem wq(T:aB t){a b:Gd}(hw:H.wf)(ha:jN a)(hb:jN b):∃H',(∀(d:Nat)(k:K),aj (aT cp t fuel (d+1)) (.func 150 []) [.agg (aY a),.agg (aY b)] H k=k (.bool (dJ a b)) H')/\ah H H':=by
 obtain⟨G1,hG1,f1,p1,n1⟩:=Heap.aR hw (.cells (aY a));obtain⟨G2,hG2,f2,p2,n2⟩:=Heap.jW (m:=H.n+1) n1 f1.wf (.cells (aY b));have q1:G2.get H.n=.cells (aY a):=(f2.same _ (by omega)).trans p1;have w1:=f1.wf;obtain⟨a1,a2⟩:=a;obtain⟨b1,b2⟩:=b;obtain⟨u1,u2⟩:=ha;obtain⟨u3,u4⟩:=hb;refine⟨G2,λd k=>?_,f1.trans f2⟩;simp only[aY]at hG1 p1 hG2 p2 q1;rw[aI T.k75 rfl rfl];unfold dJ;have g1:=nI u1 u3;have g2:=nI u2 u4;have ne:¬H.n=H.n+1:=by omega
 simp only at g1 g2⊢;by_cases h2:a1=b1
 .subst h2;have h1:¬a1<a1:=by omega
  by_cases h3:b2<a2<;>simp only[go_sem,c75,aY,hw,hG1,n1,w1,hG2,p2,q1,g1,g2,h1,h3,decide_true,decide_false,Bool.or_true,YC0,YC1,Qp]
 .by_cases h1:b1<a1<;>by_cases h3:b2<a2<;>simp only[go_sem,↓sh,c75,aY,hw,hG1,n1,w1,hG2,p2,q1,g1,h1,h2,h3,decide_true,decide_false,YC0,YC1,Qp]
theorem Ou(T:aB t){m:MT}{vl vs vi:V}{vp dp block:Nat}{lost:Bool}{data:List UInt8}(hV:H.get vp=.cells (vc m vl vs vi dp lost))(M:jO H O m vl vs vi)(hl:m.live.length<1000000)(hb:block<18446744073709551616)(hd:data.length<1000000)(d:Nat)(k:K):aj (aT cp t fuel (d+1)) (.func 136 []) [.ptr vp 0,.int 3 block,tv data] H k=k (.bool (decide (block<9223372036854775808)&&su m block data)) H:=by
 simp only[vc,aS,bu,YK,YJ]at hV;have sn:=λ{id:Nat}{f:Nat->R}=>M.live.sn (id:=id) (f:=f);have e1:=l_ m.live.length;have e2:=n_ m.live.length;have e3:=l_ data.length;rw[aI T.k68 rfl rfl];unfold su;simp only[tv];by_cases h1:block<9223372036854775808;.have e4:=n_ block;by_cases h2:block<m.live.length<;>by_cases h3:data.length=32<;>simp only[go_sem,ZE,c68,hV,↓sn,e1,e2,e3,e4,h1,h2,h3,decide_true,decide_false,YC1,Qp,Ya]
 .have e5:¬dW (.ge 9223372036854775808 18446744073709551616) block 0=true:=by rw[KA];omega
  simp only[go_sem,c68,e5,h1,decide_false,Qn]
theorem ju(T:aB t)(hc:aP t){m:MT}{vl vs vi:V}{vp dp:Nat}{lost:Bool}{A:AD}(hD:cN H dp A O)(hV:H.get vp=.cells (vc m vl vs vi dp lost))(hVn:vp<H.n)(hVO:¬O vp):∃H',(∀(d:Nat)(k:K),aj (aT cp t fuel (d+3)) (.func 102 []) [.ptr vp 0] H k=k (.int 3 (if lost=true\/A.off=true then 6 else 0)) H')/\Step H (bz O vp) H' (bz O vp)/\cN H' dp A O/\H'.n=H.n/\H'.get vp=.cells (vc m vl vs vi dp (lost||A.off))/\∀j,j≠vp->H'.get j=H.get j:=by
 have hw:=hD.wf;obtain⟨G,hG,-,p,n,w,k'⟩:=Heap.aZ (b:=vp) (ah.refl hw|>λf=>(⟨f.wf,Ya _,λj hj=>absurd hj (Wq _),λlo _ h=>by rw[show lo=0from YJ1.1 h];exact Ya _⟩:ah (.mk 0 0 .e) H)) (Ya _) hVn (.cells (vc m vl vs vi dp (lost||A.off)));have hon:=λ{d:Nat}{k:K}=>Jb (cp:=cp) (fuel:=fuel) (T.jl hc) (d:=d) (k:=k) hD;refine⟨G,λd k=>?_,by rw[<-hG];exact Step.iW hw hVn (YE rfl),?_,n,p,k'⟩;.simp only[vc,aS,bu,YK,YJ]at hV hG p;rw[aI T.k51 rfl rfl];generalize hoff:A.off=off at hon hG p;cases lost<;>cases off<;>simp only[WX,YE0,Bool.or_true,YC0,YT,or_self,or_true,or_false]at hon hG p⊢<;>simp only[go_sem,c51,hV,hw,hVn,↓hon,hG,p]
 .rw[<-hG];exact(hD.cm (Q:=λb=>b=vp) (Step.iW hw hVn rfl) λb hb e=>hVO (by rw[<-e];exact hb)).1
def cz(m:MT):Sn:=m.ae.getLast?.getD ⟨(0,0),YZ m.live.length 0,false⟩
end
def cw(A:AD)(p:Nat):Tx:=if p=0then(32,0)else A.read p
theorem TH{α:Type}{f:Nat->α}{z:α}{l:List Nat}{i:Nat}(h:i<l.length):((l.take i).map f++YZ (l.length-i) z).set i (f l[i])=(l.take (i+1)).map f++YZ (l.length-(i+1)) z:=by
 have e:((l.take i).map f).length=i:=by simp;omega
 rw[List.set_append_right _ _ (by omega),e,QG,show l.length-i=(l.length-(i+1))+1by omega,List.replicate_succ,List.set_cons_zero,List.take_succ_eq_append_getElem h,Yz,WB];rfl
section
variable{cp:RC->au}{t:Nat->Option dr}{fuel:Nat}{H:Heap}{O:Nat->Prop}
theorem Ue(T:aB t)(hc:aP t){m:MT}{vl vs vi v:V}{vp dp B:Nat}{lost:Bool}{A:AD}{Q:Nat->Prop}{l:List Nat}{G0:Heap}(hD:cN H dp A O)(ho:A.off=false)(hV:H.get vp=.cells (vc m vl vs vi dp lost))(hVn:vp<H.n)(h:cF H Q v l)(hl:l.length<1000)(hlp:∀p∈l,p<A.len)(hA:A.len<=1024)(f0:ah H G0)(hBH:H.n<=B)(hB:B<G0.n)(gB:G0.get B=.cells (YZ l.length (.str 0 0)))(hfu:1000<fuel):∃G',ah H G'/\G'.get B=.cells (l.map λp=>sv (cw A p))/\B<G'.n/\∀(d:Nat)(kx:Nat->KE)(e:Env)(x:R),af s000 e=.ptr vp 0->af s006 e=.slice B 0 l.length (l.length+1) 0->af s016 e=v->af s017 e=.int 3 l.length->af s020 e=.int 3 0->(∀e',af s006 e'=.slice B 0 l.length (l.length+1) 0->kx 1 e' G'=x)->kf Ae fuel (aT cp t fuel (d+3)) kx fuel e G0=x:=by
 have nl:=n_ l.length;obtain⟨_,G',⟨f',g',hB'⟩,z⟩:=bG (c:=Ae) (fuel:=fuel) (ph:=λd=>aT cp t fuel (d+3)) (σ:=Unit) (n:=l.length) (I:=λi _ G=>ah H G/\G.get B=.cells ((l.take i).map (λp=>sv (cw A p))++YZ (l.length-i) (.str 0 0))/\B<G.n) (S:=λi _ e=>af s000 e=.ptr vp 0/\af s006 e=.slice B 0 l.length (l.length+1) 0/\af s016 e=v/\af s017 e=.int 3 l.length/\af s020 e=.int 3 i) (λi _ G hil⟨f,g,hBn⟩=>by
   have hset:=TH (f:=λp=>sv (cw A p)) (z:=V.str 0 0) hil;have hpl:=hlp _ (YP hil);obtain⟨b,o,c,s,rfl,hbn,-,hrd⟩:=h.open hil;have hrd:=λ{id:Nat}{k:V->R}=>hrd (f.same _ hbn) (id:=id) (k:=k);have hxl:((l.take i).map (λp=>sv (cw A p))++YZ (l.length-i) (V.str 0 0)).length=l.length:=by simp;omega
   generalize l[i]=p at hset hpl hrd;generalize(l.take i).map (λp=>sv (cw A p))++YZ (l.length-i) (V.str 0 0)=X at g hset hxl;obtain⟨G1,hG1,f1,p1,n1⟩:=Heap.aR f.wf (.bytes 32 0);have g1:G1.get B=.cells X:=(f1.same _ hBn).trans g;obtain⟨G2,hG2,f2,p2,n2,w2,k2⟩:=Heap.aZ (b:=B) (f.trans f1) hBH (by omega) (.cells (X.set i (.str 32 0)));have gV2:=(f2.same _ hVn).trans hV;simp only[vc,aS,bu,YK,YJ]at gV2;have a1:=n_ i;have a2:=l_ i;have a3:=m_ (i+1);have a4:i<X.length:=by omega
   have a5:B<G1.n:=by omega
   have w0:=f.wf;have w1:=f1.wf;by_cases hp:p=0;.rw[show sv (cw A p)=.str 32 0 by unfold cw;rw[if_pos hp];rfl]at hset;refine⟨(),G2,⟨f2,by rw[<-hset];exact p2,by omega⟩,λd kx r e x⟨q0,q6,q16,q17,q20⟩hk=>?_⟩;rw[ak];simp only[go_sem,Ae,q6,q16,q17,q20,hil,nl,a1,a2,a3,a4,a5,↓hrd,w0,hG1,p1,g1,w1,hG2,hp];exact hk _ (by simp only[go_sem,q0,q6,q16,q17])
   .rw[show sv (cw A p)=sv (A.read p)by unfold cw;rw[if_neg hp]]at hset;obtain⟨G3,z3,f3⟩:=pD (cp:=cp) (fuel:=fuel) (a:=p) (T.jl hc) (hD.fresh f2) ho (by omega);have z3:=λ{d:Nat}{k:K}=>z3 d k;have m3:=f3.n;obtain⟨G4,hG4,f4,p4,n4,w4,k4⟩:=Heap.aZ (b:=B) (f2.trans f3) hBH (by omega) (.cells (X.set i (sv (A.read p))));have g3:G3.get B=.cells (X.set i (.str 32 0)):=(f3.same _ (by omega)).trans p2;have w3:=f3.wf;have a6:B<G3.n:=by omega
    have hss:(X.set i (.str 32 0)).set i (sv (A.read p))=X.set i (sv (A.read p)):=List.set_set ..;refine⟨(),G4,⟨f4,by rw[<-hset];exact p4,by omega⟩,λd kx r e x⟨q0,q6,q16,q17,q20⟩hk=>?_⟩;have a7:i<(X.set i (.str 32 0)).length:=by rw[Wg];exact a4
    generalize A.read p=tq at z3 hG4 hss;simp only[sv]at z3 hG4 hss;generalize X.set i (.str tq.1 tq.2)=Y at hG4 hss;rw[ak];simp only[go_sem,Ae,q0,q6,q16,q17,q20,hil,nl,a1,a2,a3,a4,a5,a6,↓hrd,w0,hG1,p1,g1,w1,hG2,hp,gV2,↓z3,g3,a7,hss,w3,hG4];exact hk _ (by simp only[go_sem,q0,q6,q16,q17])) l.length 0 () G0 (by omega) ⟨f0,by rw[QC,YY,YJ,Wu];exact gB,hB⟩;rw[Wi,QG,List.replicate_zero,YV]at g';refine⟨G',f',g',hB',λd kx e x q0 q6 q16 q17 q20 hk=>z d kx fuel e x (by omega) ⟨q0,q6,q16,q17,q20⟩ λr e'⟨q0,q6,q16,q17,q20⟩=>?_⟩;have e6:¬l.length<l.length:=by omega
 rw[ak];simp only[go_sem,Ae,q17,q20,nl,e6];exact hk _ q6
theorem lF(T:aB t)(hc:aP t){m:MT}{vl vs vi v:V}{vp dp:Nat}{lost:Bool}{A:AD}{Q:Nat->Prop}{l:List Nat}(hD:cN H dp A O)(ho:A.off=false)(hV:H.get vp=.cells (vc m vl vs vi dp lost))(hVn:vp<H.n)(h:cF H Q v l)(hl:l.length<1000)(hlp:∀p∈l,p<A.len)(hA:A.len<=1024)(hfu:1000<fuel):∃H' v',(∀(d:Nat)(k:K),aj (aT cp t fuel (d+4)) (.func 134 []) [.ptr vp 0,v] H k=k (.cG [v',.int 3 0]) H')/\ah H H'/\Own H H' v' 1 l.length (l.map λp=>sv (cw A p)):=by
 obtain⟨G1,f1,o1,g1,n1,z1⟩:=tM (n:=l.length) (kl:=3) (x:=V.str 0 0) (a:=lX) rfl hD.wf rfl (by omega) (YC _);obtain⟨G2,f2,g2,n2,z2⟩:=Ue (cp:=cp) (fuel:=fuel) T hc hD ho hV hVn h hl hlp hA f1 (YC _) (by omega) g1 hfu;have sn:=λ{id:Nat}{f:Nat->R}=>h.sn (id:=id) (f:=f);have e1:=l_ l.length;refine⟨G2,.slice H.n 0 l.length (l.length+1) 0,λd k=>?_,f2,⟨by simp,λx hx=>?_,YE ⟨_,_,_,[],rfl,by rw[YV];exact g2,YH rfl,YC _,n2⟩⟩⟩
 .have z1:=λ{id:Nat}{ph:dg}{e:Env}{k:K}(h:aA lX e=.int 3 l.length)=>z1 (id:=id) (ph:=ph) (e:=e) (k:=k) h;rw[aI T.k67 rfl rfl];simp only[go_sem,c67,↓sn,e1,↓z1];refine z2 d _ _ _ ?_ ?_ ?_ ?_ ?_ λe' q6=>?_;.rfl
  .rfl
  .rfl
  .rfl
  .rfl
  simp only[go_sem,q6]
 .obtain⟨p,-,rfl⟩:=Ye.1 hx;rfl
end
def cU(m:MT):List (List Nat):=m.live::m.tok.bP::m.ae.map (·.bP)
theorem jS:∀{cs:List Wr}{i:Nat}{c:Wr},cs[i]?=some c->((bK cs).drop (i*2)).take 2=[.int 3 c.1,.str c.2.1 c.2.2]|[],i,c,h=>by simp at h|a::cs,0,c,h=>by simp at h;subst h;rfl|a::cs,i+1,c,h=>by rw[show(i+1)*2=i*2+2by omega];exact jS (cs:=cs) (by simpa using h)
def fv(cs:List Wr):Nat->Nat|0=>0|i+1=>fv cs i+(if(cs.getD i (0,(32,0))).2=(32,0)then 0 else 1)
theorem kM(cs:List Wr):∀i,fv cs i<=i|0=>YC _|i+1=>by have:=kM cs i;simp only[fv];split<;>omega
theorem xS{cs:List Wr}{i:Nat}:∀{j:Nat},i<=j->fv cs i<=fv cs j
 |0,h=>by rw[YJ1.1 h];exact YC _|j+1,h=>by
  rcases Nat.lt_or_ge i (j+1)with h|h;.exact Ys (xS (Nat.lt_succ_iff.1 h)) (by simp only[fv];omega)
  .rw[show i=j+1by omega];exact YC _
def xY(cs:List Wr)(fr:List Nat):Nat->List Nat|0=>[]|i+1=>xY cs fr i++[if(cs.getD i (0,(32,0))).2=(32,0)then 0 else fr.getD (fv cs i) 0]
def Dd(cs:List Wr)(fr:List Nat):Nat->List Wr|0=>[]|i+1=>Dd cs fr i++(if(cs.getD i (0,(32,0))).2=(32,0)then[]else[(fr.getD (fv cs i) 0,(cs.getD i (0,(32,0))).2)])
theorem nh(cs:List Wr)(fr:List Nat):∀i,(xY cs fr i).length=i|0=>rfl|i+1=>by simp only[xY,YB,nh cs fr i];rfl
theorem vR(cs:List Wr)(fr:List Nat):∀i,(Dd cs fr i).length=fv cs i|0=>rfl|i+1=>by simp only[Dd,fv,YB,vR cs fr i];split<;>rfl
theorem xT{v w:V}(h:∀b o n c s,w=.slice b o n c s->iw v b):∀b o n c s,v=.slice b o n c s->iw w b:=λb o n c s e b' o' n' c' s' e' he=>h _ _ _ _ _ e' _ _ _ _ _ e he.symm
section
variable{cp:RC->au}{t:Nat->Option dr}{fuel:Nat}{H:Heap}{O:Nat->Prop}
theorem Nf(T:aB t){vp:Nat}{vl vi vs vx:V}{ss:List Sn}{G0:Heap}{v0:V}(hS:fC H O vs ss)(hn:ss.length<1000)(f0:ah H G0)(o0:Own H G0 v0 1 2 [vl,vi])(hfu:1000<fuel):∃G' v' ns,ah H G'/\Own H G' v' 1 (2+ss.length) (vl::vi::ns)/\(∀(j:Nat)(s:Sn),ss[j]?=some s->∃x,ns[j]?=some x/\cF H O x s.bP)/\∀(d:Nat)(kx:Nat->KE)(e:Env)(x:R),af s000 e=.ptr vp 0->af s001 e=vx->af s004 e=.aC->af s005 e=.aC->af s007 e=v0->af s042 e=vs->af s043 e=.int 3 ss.length->af s044 e=.int 3 0->(∀e',af s000 e'=.ptr vp 0->af s001 e'=vx->af s004 e'=.aC->af s005 e'=.aC->af s007 e'=v'->kx 1 e' G'=x)->kf DK fuel (aT cp t fuel d) kx fuel e G0=x:=by
 have nl:=n_ ss.length;obtain⟨⟨ns,v'⟩,G',⟨f',o',nl',hx'⟩,z⟩:=bG (c:=DK) (fuel:=fuel) (ph:=λd=>aT cp t fuel d) (σ:=List V×V) (n:=ss.length) (I:=λi s G=>ah H G/\Own H G s.2 1 (2+i) (vl::vi::s.1)/\s.1.length=i/\∀(j:Nat)(q:Sn),j<i->ss[j]?=some q->∃x,s.1[j]?=some x/\cF H O x q.bP) (S:=λi s e=>af s000 e=.ptr vp 0/\af s001 e=vx/\af s004 e=.aC/\af s005 e=.aC/\af s007 e=s.2/\af s042 e=vs/\af s043 e=.int 3 ss.length/\af s044 e=.int 3 i) (λi s G hil⟨f,o,hl,hx⟩=>by
   obtain⟨ns,v⟩:=s;obtain⟨b,ob,c,z,y,rfl,hbn,-,hy,hrd⟩:=hS.open hil;have hsi:ss[i]?=some ss[i]:=YA hil;have hrd:=λ{id:Nat}{k:List V->R}=>hrd (f.same _ hbn) (id:=id) (k:=k);generalize ss[i]=s at hsi hy hrd;have w0:=f.wf;obtain⟨G1,hG1,f1,p1,n1⟩:=Heap.aR w0 (.cells [.int 7 0,.int 7 0,.aC,.bool false]);obtain⟨G2,hG2,f2,p2,n2,w2,k2⟩:=Heap.aZ (b:=G.n) f1 (YC _) (by omega) (.cells (bN s y));obtain⟨G3,hG3,f3,p3,n3⟩:=Heap.aR w2 (.cells [y]);have f03:=(f.trans f2).trans f3;obtain⟨v',G4,hap,o4,f4,-⟩:=Own.app (w:=v) (x:=.slice G2.n 0 1 2 0) (m:=1) (new:=[y]) f03 ((o.fresh f2).fresh f3) (λ{id f}=>fT p3 rfl) rfl (λx hx=>by rw[YM.1 hx];exact hy.one) (by omega);have i1:=λ{id:Nat}{k:R}=>aM hy.one (id:=id) (k:=k);have cx:=λ{id:Nat}{f:List V->R}=>Bh hy.one (id:=id) (f:=f);have w1:=f1.wf;have a1:=n_ i;have a2:=l_ i;have a3:=m_ (i+1);have a4:G.n<G1.n:=by omega
   refine⟨(ns++[y],v'),G4,⟨f4,by have:=o4;rwa[show 2+i+1=2+(i+1)by omega]at this,by simp[hl],λj q hj hq=>?_⟩,λd kx r e x⟨q0,q1,q4,q5,q7,q42,q43,q44⟩hk=>?_⟩
   .show∃x,(ns++[y])[j]?=some x/\_;have hl':ns.length=i:=hl;by_cases hji:j<i;.obtain⟨x,b1,b2⟩:=hx j q hji hq;exact⟨x,by rw[Yp (by omega)];exact b1,b2⟩
    .obtain rfl:j=i:=by omega
     rw[hsi]at hq;cases hq;exact⟨y,by rw[Yl (by omega),hl',QG];rfl,hy⟩
   .simp only[bN]at hG2 p2 hrd;rw[ak];simp only[go_sem,DK,q7,q42,q43,q44,hil,nl,a1,a2,a3,a4,↓hrd,w0,hG1,p1,w1,hG2,p2,↓i1,↓cx,w2,hG3,↓hap];refine hk _ ?_;simp only[go_sem,q0,q1,q4,q5,q42,q43,and_self]) ss.length 0 ([],v0) G0 (by omega) ⟨f0,o0,rfl,λj s hj=>by omega⟩;refine⟨G',v',ns,f',o',λj s hs=>hx' j s (YW.1 hs).1 hs,λd kx e x q0 q1 q4 q5 q7 q42 q43 q44 hk=>z d kx fuel e x (by omega) ⟨q0,q1,q4,q5,q7,q42,q43,q44⟩ λr e'⟨q0,q1,q4,q5,q7,q42,q43,q44⟩=>?_⟩;have e6:¬ss.length<ss.length:=by omega
 rw[ak];simp only[go_sem,DK,q43,q44,nl,e6];exact hk _ q0 q1 q4 q5 q7
theorem VD(T:aB t){vx vcn:V}{cs:List Wr}{G0:Heap}(hX:Row H O vx 2 cs.length (bK cs))(hn:cs.length<1000)(f0:ah H G0)(hfu:1000<fuel):∃G',ah H G'/\ah G0 G'/\∀(d:Nat)(kx:Nat->KE)(e:Env)(x:R),af s001 e=vx->af s004 e=.aC->af s005 e=.aC->af s012 e=vcn->af s013 e=.str 32 0->af s014 e=.int 3 0->af s075 e=vx->af s076 e=.int 3 cs.length->af s077 e=.int 3 0->(∀e',af s001 e'=vx->af s004 e'=.aC->af s005 e'=.aC->af s012 e'=vcn->af s013 e'=.str 32 0->af s014 e'=.int 3 (fv cs cs.length)->kx 3 e' G'=x)->kf Ac fuel (aT cp t fuel d) kx fuel e G0=x:=by
 have nl:=n_ cs.length;obtain⟨_,G',⟨f',f0'⟩,z⟩:=bG (c:=Ac) (fuel:=fuel) (ph:=λd=>aT cp t fuel d) (σ:=Unit) (n:=cs.length) (I:=λi _ G=>ah H G/\ah G0 G) (S:=λi _ e=>af s001 e=vx/\af s004 e=.aC/\af s005 e=.aC/\af s012 e=vcn/\af s013 e=.str 32 0/\af s014 e=.int 3 (fv cs i)/\af s075 e=vx/\af s076 e=.int 3 cs.length/\af s077 e=.int 3 i) (λi _ G hil⟨f,f0⟩=>by
   have hsi:cs[i]?=some cs[i]:=YA hil;have hgd:cs.getD i (0,(32,0))=cs[i]:=by rw[YD,hsi];rfl
   have hnz:fv cs (i+1)=fv cs i+(if cs[i].2=(32,0)then 0 else 1):=by rw[<-hgd];rfl
   have hle:=kM cs i;have hrow:=jS hsi;obtain⟨b,ob,c,z,hvx,hbn,-,hrd⟩:=hX.open hil;have hrd:=λ{id:Nat}{k:List V->R}=>(hrd (f.same _ hbn)).1 (id:=id) (k:=k);rw[hrow]at hrd;generalize cs[i]=w at hnz hrd;obtain⟨wb,wl,wn⟩:=w;have w0:=f.wf;obtain⟨G1,hG1,f1,p1,n1⟩:=Heap.aR w0 (.cells [.int 3 0,.str 0 0]);obtain⟨G2,hG2,f2,p2,n2,w2,k2⟩:=Heap.aZ (b:=G.n) f1 (YC _) (by omega) (.cells [.int 3 wb,.str wl wn]);have w1:=f1.wf;have a1:=n_ i;have a2:=l_ i;have a3:=m_ (i+1);have a4:G.n<G1.n:=by omega
   have a5:=m_ (fv cs i+1);refine⟨(),G2,⟨f.trans f2,f0.trans f2⟩,λd kx r e x⟨q1,q4,q5,q12,q13,q14,q75,q76,q77⟩hk=>?_⟩;subst hvx;by_cases hz:wl=32/\wn=0;.obtain⟨rfl,rfl⟩:=hz;rw[if_pos rfl,WM]at hnz;rw[ak];simp only[go_sem,Ac,q13,q75,q76,q77,hil,nl,a1,a2,a3,a4,↓hrd,w0,hG1,p1,w1,hG2,p2,and_self];exact hk _ (by simp only[go_sem,q1,q4,q5,q12,q13,q14,q75,q76,hnz,and_self])
   .have hz':(wl=32/\wn=0)=False:=eq_false hz;rw[if_neg (λh=>hz ⟨congrArg YH3 h,congrArg YS0 h⟩)]at hnz;rw[ak];simp only[go_sem,Ac,q13,q14,q75,q76,q77,hil,nl,a1,a2,a3,a4,a5,↓hrd,w0,hG1,p1,w1,hG2,p2,hz'];exact hk _ (by simp only[go_sem,q1,q4,q5,q12,q13,q75,q76,hnz,and_self])) cs.length 0 () G0 (by omega) ⟨f0,ah.refl f0.wf⟩;refine⟨G',f',f0',λd kx e x q1 q4 q5 q12 q13 q14 q75 q76 q77 hk=>z d kx fuel e x (by omega) ⟨q1,q4,q5,q12,q13,q14,q75,q76,q77⟩ λr e'⟨q1,q4,q5,q12,q13,q14,q75,q76,q77⟩=>?_⟩;have e6:¬cs.length<cs.length:=by omega
 rw[ak];simp only[go_sem,Ac,q76,q77,nl,e6];exact hk _ q1 q4 q5 q12 q13 q14
theorem Tj(T:aB t){vx vf:V}{cs:List Wr}{fr:List Nat}(hw:H.wf)(hX:Row H O vx 2 cs.length (bK cs))(hF:cF H O vf fr)(hfl:fr.length=fv cs cs.length)(hn:cs.length<1000)(hfu:1000<fuel):∃G' va vw,ah H G'/\Own H G' va 1 cs.length ((xY cs fr cs.length).map (V.int 3))/\Own H G' vw 2 (fv cs cs.length) (bK (Dd cs fr cs.length))/\∀(d:Nat)(kx:Nat->KE)(e:Env)(x:R),af s004 e=.aC->af s005 e=.aC->af s013 e=.str 32 0->af s017 e=vf->af s123 e=vx->af s124 e=.int 3 cs.length->af s125 e=.int 3 0->(∀e',af s004 e'=va->af s005 e'=vw->kx 5 e' G'=x)->kf Ad fuel (aT cp t fuel d) kx fuel e H=x:=by
 have nl:=n_ cs.length;obtain⟨⟨va,vw⟩,G',⟨f',oa',ow',-⟩,z⟩:=bG (c:=Ad) (fuel:=fuel) (ph:=λd=>aT cp t fuel d) (σ:=V×V) (n:=cs.length) (I:=λi s G=>ah H G/\Own H G s.1 1 i ((xY cs fr i).map (V.int 3))/\Own H G s.2 2 (fv cs i) (bK (Dd cs fr i))/\∀b o n c z,s.2=.slice b o n c z->iw s.1 b) (S:=λi s e=>af s004 e=s.1/\af s005 e=s.2/\af s013 e=.str 32 0/\af s017 e=vf/\af s123 e=vx/\af s124 e=.int 3 cs.length/\af s125 e=.int 3 i) (λi s G hil⟨f,oa,ow,oo⟩=>by
   obtain⟨va,vw⟩:=s;have oo:∀b o n c z,vw=.slice b o n c z->iw va b:=oo;have oa:Own H G va 1 i ((xY cs fr i).map (V.int 3)):=oa;have ow:Own H G vw 2 (fv cs i) (bK (Dd cs fr i)):=ow;have hsi:cs[i]?=some cs[i]:=YA hil;have hgd:cs.getD i (0,(32,0))=cs[i]:=by rw[YD,hsi];rfl
   have hnz:fv cs (i+1)=fv cs i+(if cs[i].2=(32,0)then 0 else 1):=by rw[<-hgd];rfl
   have hpa:xY cs fr (i+1)=xY cs fr i++[if cs[i].2=(32,0)then 0 else fr.getD (fv cs i) 0]:=by rw[<-hgd];rfl
   have hpw:Dd cs fr (i+1)=Dd cs fr i++(if cs[i].2=(32,0)then[]else[(fr.getD (fv cs i) 0,cs[i].2)]):=by rw[<-hgd];rfl
   have hle:=kM cs i;have hmo:=xS (cs:=cs) (show i+1<=cs.length by omega);have hrow:=jS hsi;obtain⟨b,ob,c,z,hvx,hbn,-,hrd⟩:=hX.open hil;have hrd:=λ{id:Nat}{k:List V->R}=>(hrd (f.same _ hbn)).1 (id:=id) (k:=k);rw[hrow]at hrd;generalize cs[i]=w at hnz hrd hpa hpw;obtain⟨wb,wl,wn⟩:=w;have w0:=f.wf;obtain⟨G1,hG1,f1,p1,n1⟩:=Heap.aR w0 (.cells [.int 3 0,.str 0 0]);obtain⟨G2,hG2,f2,p2,n2,w2,k2⟩:=Heap.aZ (b:=G.n) f1 (YC _) (by omega) (.cells [.int 3 wb,.str wl wn]);have w1:=f1.wf;have a1:=n_ i;have a2:=l_ i;have a3:=m_ (i+1);have a4:G.n<G1.n:=by omega
   by_cases hz:wl=32/\wn=0;.obtain⟨rfl,rfl⟩:=hz;rw[if_pos rfl]at hpa;rw[if_pos rfl,YV]at hpw;rw[if_pos rfl,WM]at hnz;obtain⟨G3,hG3,f3,p3,n3⟩:=Heap.aR w2 (.cells [.int 3 0]);obtain⟨va',G4,hap,oa4,f4,k4,n4,off4⟩:=Own.app (w:=va) (x:=.slice G2.n 0 1 2 0) (m:=1) (new:=[.int 3 0]) ((f.trans f2).trans f3) ((oa.fresh f2).fresh f3) (λ{id f}=>fT p3 rfl) rfl (λx hx=>by rw[YM.1 hx];rfl) (by omega);refine⟨(va',vw),G4,⟨f4,by rw[hpa,Yz];exact oa4,by rw[hnz,hpw];exact((ow.fresh f2).fresh f3).fR n4 k4 oo,λb o n c z e=>off4 b (by have:=(ow.cV e).2;omega) (oo _ _ _ _ _ e)⟩,λd kx r e x⟨q4,q5,q13,q17,q123,q124,q125⟩hk=>?_⟩;subst hvx;rw[ak];simp only[go_sem,Ad,q4,q13,q123,q124,q125,hil,nl,a1,a2,a3,a4,↓hrd,w0,hG1,p1,w1,hG2,p2,and_self,w2,hG3,↓hap];exact hk _ (by simp only[go_sem,q5,q13,q17,q123,q124,and_self])
   .have hz':(wl=32/\wn=0)=False:=eq_false hz;have hz2:¬((wl,wn):Tx)=(32,0):=λh=>hz ⟨congrArg YH3 h,congrArg YS0 h⟩;rw[if_neg hz2]at hpa hpw hnz;have hj:fv cs i<fr.length:=by omega
    obtain⟨fb,fo,fc,fz,rfl,Sq,-,hfr⟩:=hF.open hj;have hfr2:=λ{id:Nat}{k:V->R}=>hfr ((f.trans f2).same _ Sq) (id:=id) (k:=k);have hfd:fr.getD (fv cs i) 0=fr[fv cs i]:=by rw[YD,YA hj];rfl
    rw[hfd]at hpa hpw;generalize fr[fv cs i]=q at hpa hpw hfr hfr2;obtain⟨G3,hG3,f3,p3,n3⟩:=Heap.aR w2 (.cells [.int 3 q]);obtain⟨va',G4,hap,oa4,f4,k4,n4,off4⟩:=Own.app (w:=va) (x:=.slice G2.n 0 1 2 0) (m:=1) (new:=[.int 3 q]) ((f.trans f2).trans f3) ((oa.fresh f2).fresh f3) (λ{id f}=>fT p3 rfl) rfl (λx hx=>by rw[YM.1 hx];rfl) (by omega);have ow4:=((ow.fresh f2).fresh f3).fR n4 k4 oo;have p4:G4.get G.n=.cells [.int 3 wb,.str wl wn]:=(k4 _ (by omega) (oa.Ch (YC _))).trans ((f3.same _ (by omega)).trans p2);have hfr4:=λ{id:Nat}{k:V->R}=>hfr (f4.same _ Sq) (id:=id) (k:=k);have oo4:∀b o n c z,vw=.slice b o n c z->iw va' b:=λb o n c z e=>off4 b (by have:=(ow.cV e).2;omega) (oo _ _ _ _ _ e);obtain⟨G5,hG5,f5,p5,n5⟩:=Heap.aR f4.wf (.cells [.int 3 q,.str wl wn]);have f45:=f4.trans f5;obtain⟨vw',G6,hap6,ow6,f6,k6,n6,off6⟩:=Own.app (w:=vw) (x:=.slice G4.n 0 1 2 0) (m:=1) (new:=[.int 3 q,.str wl wn]) f45 (ow4.fresh f5) (λ{id f}=>fT p5 rfl) rfl (λx hx=>by rcases YS.1 hx with rfl|hx;rfl;rw[YM.1 hx];rfl) (by omega);have sw:=λ{id:Nat}{f:Nat->R}=>ow.sn (id:=id) (f:=f);have w4:=f4.wf;have w5:=f5.wf;have a5:=n_ (fv cs i);have a6:=l_ (fv cs i);have hle2:=kM cs cs.length;have a7:=n_ fr.length;refine⟨(va',vw'),G6,⟨f6,?_,by rw[hnz,hpw,dP];exact ow6,?_⟩,λd kx r e x⟨q4,q5,q13,q17,q123,q124,q125⟩hk=>?_⟩;.rw[hpa,Yz];exact(oa4.fresh f5).fR n6 k6 (xT oo4)
    .exact xT λb o n c z e=>off6 b (by have:=(oa4.cV e).2;omega) (xT oo4 _ _ _ _ _ e)
    subst hvx;rw[ak];simp only[go_sem,Ad,q4,q5,q13,q17,q123,q124,q125,hil,hj,nl,a1,a2,a3,a4,a6,↓hrd,w0,hG1,p1,w1,hG2,p2,hz',↓sw,↓hfr2,w2,hG3,↓hap,↓hfr4,p4,w4,hG5,↓hap6];exact hk _ (by simp only[go_sem,q13,q17,q123,q124,and_self])) cs.length 0 (.aC,.aC) H (by omega) ⟨ah.refl hw,Own.nil,Own.nil,λb o n c z e=>by cases e⟩;refine⟨G',va,vw,f',oa',ow',λd kx e x q4 q5 q13 q17 q123 q124 q125 hk=>z d kx fuel e x (by omega) ⟨q4,q5,q13,q17,q123,q124,q125⟩ λr e'⟨q4,q5,q13,q17,q123,q124,q125⟩=>?_⟩;have e6:¬cs.length<cs.length:=by omega
 rw[ak];simp only[go_sem,Ad,q124,q125,nl,e6];exact hk _ q4 q5
end
open Go.Proofs
def eK(m:MT)(n:Nat):List Nat:=qv n (nz (cU m).flatten)
section
variable{t:Nat->Option dr}{fuel:Nat}{H:Heap}{O Q:Nat->Prop}
set_option maxRecDepth 4000in theorem xZ(T:aB t)(hc:aP t){m:MT}{vl vs vi vx:V}{vp dp:Nat}{lost:Bool}{A:AD}{cs:List Wr}(hD:cN H dp A O)(hV:H.get vp=.cells (vc m vl vs vi dp lost))(hVn:vp<H.n)(M:jO H Q m vl vs vi)(Y:jH m)(hX:Row H Q vx 2 cs.length (bK cs))(hn:cs.length<1000)(hA:A.len<=1024)(hok:∀l∈cU m,∀a∈l,a≠0->193<=a/\a<A.len)(hQ:∀b,Q b->b<H.n)(hfl:(cU m).flatten.length<1000000)(hfu:1000000<fuel):∃H' va vw,(∀(d:Nat)(k:K),aj (aT (aN Tryz.prog) t fuel (d+5)) (.func 106 []) [.ptr vp 0,vx] H k=k (.cG [va,vw,.int 3 (if(cI (eK m A.len)).length<fv cs cs.length then 7 else 0)]) H')/\ah H H'/\va.one=true/\vw.one=true/\(¬(cI (eK m A.len)).length<fv cs cs.length->Own H H' va 1 cs.length ((xY cs ((cI (eK m A.len)).take (fv cs cs.length)) cs.length).map (V.int 3))/\Own H H' vw 2 (fv cs cs.length) (bK (Dd cs ((cI (eK m A.len)).take (fv cs cs.length)) cs.length))):=by
 have hw:=hD.wf;have l1:=Y.live.1;have l2:=Y.num;have l3:=Y.tok.2.2.2.2.1;obtain⟨Ml,Ms,Mi⟩:=M;have j1:=λ{id:Nat}{k:R}=>aM Ml.one (id:=id) (k:=k);have j2:=λ{id:Nat}{k:R}=>aM Mi.one (id:=id) (k:=k);have x1:=λ{id:Nat}{f:List V->R}=>Bh Ml.one (id:=id) (f:=f);have x2:=λ{id:Nat}{f:List V->R}=>Bh Mi.one (id:=id) (f:=f);have sn:=λ{id:Nat}{f:Nat->R}=>(let⟨_,h,_⟩:=Ms;h.sn (id:=id) (f:=f):bD id vs (λ_ _ len _ _=>f len) (f 0)=f m.ae.length);have sx:=λ{id:Nat}{f:Nat->R}=>hX.sn (id:=id) (f:=f);have hV':=hV;simp only[vc,aS,bu,YK,YJ]at hV';obtain⟨G1,hG1,f1,p1,n1⟩:=Heap.aR hw (.cells [vl,vi]);have o1:Own H G1 (.slice H.n 0 2 3 0) 1 2 [vl,vi]:=⟨rfl,λx hx=>by rcases YS.1 hx with rfl|hx;exact Ml.one;rw[YM.1 hx];exact Mi.one,YE ⟨_,_,_,[],rfl,p1,YH rfl,YC _,by omega⟩⟩;obtain⟨G2,vg,ns,f2,o2,hns,zi⟩:=Nf (cp:=aN Tryz.prog) (fuel:=fuel) (vp:=vp) (vx:=vx) T Ms l2 f1 o1 (by omega);have hV1:=(f1.same _ hVn).trans hV';have hV2:=(f2.same _ hVn).trans hV';have hims:OE G2 Q vg (cU m):=by
  refine⟨vl::vi::ns,?_,λi l hl=>?_⟩;.have:=o2.toRow hQ;rwa[show 2+m.ae.length=(cU m).length by simp[cU];omega]at this
  .match i,hl with|0,hl=>cases hl;exact⟨vl,rfl,Ml.fresh f2⟩|1,hl=>cases hl;exact⟨vi,rfl,Mi.fresh f2⟩|i+2,hl=>have hl:(m.ae.map (·.bP))[i]?=some l:=hl;rw[Yq]at hl;obtain⟨s,hs,rfl⟩:=Option.map_eq_some_iff.1 hl;obtain⟨x,hx,hI⟩:=hns i s hs;exact⟨x,hx,hI.fresh f2⟩
 have hlen:∀l∈cU m,l.length<1000000:=λl hl=>by have:l.length<=(cU m).flatten.length:=(List.sublist_flatten_of_mem hl).length_le;omega
 have zl:=λ{d:Nat}{k:K}=>sm (cp:=aN Tryz.prog) (fuel:=fuel) (T.jl hc) (d:=d) (k:=k) (hD.fresh f2);obtain⟨G3,vcn,zc,f3,o3⟩:=Eb (t:=t) (fuel:=fuel) T f2.wf hims (by simp[cU];omega) hlen hfu hA hok hfl;have zc:=λ{d:Nat}{k:K}=>zc d k;have w3:=f3.wf;obtain⟨G4,hG4,f4,p4,n4⟩:=Heap.aR w3 (.bytes 32 0);have f24:=f2.trans (f3.trans f4);obtain⟨G5,f5,f45,zn⟩:=VD (cp:=aN Tryz.prog) (fuel:=fuel) (vcn:=vcn) T hX hn f24 (by omega);have hcn:cF G5 Q vcn (eK m A.len):=((o3.toRow (O:=Q) λb h=>YF (hQ b h) f2.n).fresh (f4.trans f45):Row G5 Q vcn 1 A.len _)|>λh=>by unfold cF eK;rw[dB];exact h
 have hnle:=kM cs cs.length;obtain⟨G6,vf,zt,f6,o6⟩:=Xy (t:=t) (fuel:=fuel) (n:=fv cs cs.length) T f5.wf hcn (by unfold eK;rw[dB];omega) hfu (by omega);have zt:=λ{d:Nat}{k:K}=>zt d k;have e1:=l_ m.ae.length;have e2:=l_ cs.length;by_cases hlt:(cI (eK m A.len)).length<fv cs cs.length
 .rw[if_pos hlt]at zt⊢;refine⟨G6,.aC,.aC,λd k=>?_,f5.trans f6,rfl,rfl,λh=>absurd hlt h⟩;rw[aI T.k53 rfl rfl];simp only[go_sem,c53,Rb,hV',↓j1,↓j2,↓x1,↓x2,hw,hG1];simp only[go_sem,Rf,hV1,↓sn,e1];refine zi (d+4) _ _ _ ?_ ?_ ?_ ?_ ?_ ?_ ?_ ?_ λe' q0 q1 q4 q5 q7=>?_;.rfl
  .rfl
  .rfl
  .rfl
  .rfl
  .rfl
  .rfl
  .rfl
  simp only[go_sem,Rg,q0,q7,hV2,↓zl,↓zc];simp only[go_sem,Rh,Ri,Rj,Rk,q1,w3,hG4,p4,↓sx,e2];refine zn (d+4) _ _ _ ?_ ?_ ?_ ?_ ?_ ?_ ?_ ?_ ?_ λe' q1 q4 q5 q12 q13 q14=>?_;.exact q1
  .exact q4
  .exact q5
  .rfl
  .rfl
  .rfl
  .rfl
  .rfl
  .rfl
  simp only[go_sem,Rl,q12,q14,↓zt];simp only[go_sem,Rm]
 .rw[if_neg hlt]at zt⊢;have o6:=o6 hlt;have hfrl:((cI (eK m A.len)).take (fv cs cs.length)).length=fv cs cs.length:=by rw[Yv];omega
  generalize(cI (eK m A.len)).take (fv cs cs.length)=fr at o6 hfrl⊢;obtain⟨G7,va,vw,f7,oa,ow,zp⟩:=Tj (cp:=aN Tryz.prog) (fuel:=fuel) (vf:=vf) (fr:=fr) T f6.wf (hX.fresh (f5.trans f6)) (by unfold cF;rw[hfrl];exact o6.toRow λb h=>YF (hQ b h) f5.n) hfrl hn (by omega);have f56:=f5.trans f6;refine⟨G7,va,vw,λd k=>?_,f56.trans f7,oa.one,ow.one,λ_=>⟨oa.sub f56.n,ow.sub f56.n⟩⟩;rw[aI T.k53 rfl rfl];simp only[go_sem,c53,Rb,hV',↓j1,↓j2,↓x1,↓x2,hw,hG1];simp only[go_sem,Rf,hV1,↓sn,e1];refine zi (d+4) _ _ _ ?_ ?_ ?_ ?_ ?_ ?_ ?_ ?_ λe' q0 q1 q4 q5 q7=>?_;.rfl
  .rfl
  .rfl
  .rfl
  .rfl
  .rfl
  .rfl
  .rfl
  simp only[go_sem,Rg,q0,q7,hV2,↓zl,↓zc];simp only[go_sem,Rh,Ri,Rj,Rk,q1,w3,hG4,p4,↓sx,e2];refine zn (d+4) _ _ _ ?_ ?_ ?_ ?_ ?_ ?_ ?_ ?_ ?_ λe' q1 q4 q5 q12 q13 q14=>?_;.exact q1
  .exact q4
  .exact q5
  .rfl
  .rfl
  .rfl
  .rfl
  .rfl
  .rfl
  simp only[go_sem,Rl,q12,q14,↓zt];simp only[go_sem,Rm,Rc,q1,↓sx,e2];refine zp (d+4) _ _ _ ?_ ?_ ?_ ?_ ?_ ?_ ?_ λe' q4 q5=>?_;.exact q4
  .exact q5
  .exact q13
  .rfl
  .rfl
  .rfl
  .rfl
  simp only[go_sem,Rd,Re,q4,q5]
end
end Go.Ev
end
section
namespace Go.Ev
structure TS(H G:Heap)(B:Nat)(m:MT)(vl vs vi:V):Prop where
 f:ah H G
 g:G.get B=.cells (aS m vl vs vi)hi:B<G.n
 base:∃G1,ah H G1/\MO H G1 m vl vs vi/\G1.n<=B/\ah G1 G
theorem MO.fresh{H G G':Heap}{m:MT}{vl vs vi:V}(h:MO H G m vl vs vi)(f:ah G G'):MO H G' m vl vs vi:=⟨h.live.fresh f,let⟨xs,s⟩:=h.ae;⟨xs,s.1.fresh f,s.2.1,λi q hq=>let⟨x,a,b,c⟩:=s.2.2 i q hq;⟨x,a,b.fresh f,c⟩⟩,h.bP.fresh f,h.dl,h.di⟩
theorem TS.of{H G1 G:Heap}{m:MT}{vl vs vi:V}(f1:ah H G1)(o:MO H G1 m vl vs vi)(f:ah G1 G)(g:G.get G1.n=.cells (aS m vl vs vi))(n:G.n=G1.n+1):TS H G G1.n m vl vs vi:=⟨f1.trans f,g,by omega,G1,f1,o,YC _,f⟩
theorem TS.mo{H G:Heap}{B:Nat}{m:MT}{vl vs vi:V}(h:TS H G B m vl vs vi):MO H G m vl vs vi:=let⟨_,_,o,_,f⟩:=h.base;o.fresh f
theorem TS.lo{H G:Heap}{B:Nat}{m:MT}{vl vs vi:V}(h:TS H G B m vl vs vi):H.n<=B:=let⟨_,f,_,n,_⟩:=h.base;Ys f.n n
def nY:Tk:=⟨(0,0),(0,0),0,0,[]⟩
theorem tD:∀{ss}{xs}{s}{x},xs.length=ss.length->dy (ss++[s]) (xs++[x])=dy ss xs++bN s x|[],[],s,x,_=>by rfl|[],_::_,_,_,h=>by simp_all|_::_,[],_,_,h=>by simp_all|a::ss,b::xs,s,x,h=>by show bN a b++dy (ss++[s]) (xs++[x])=_;rw[tD (by simp_all),<-WB];rfl
theorem Am:∀{ss}{xs}{i}{s},ss[i]?=some s->xs.length=ss.length->(dy ss xs).set (i*4+3) (.bool true)=dy (ss.set i {s with hid:=true}) xs|[],_,i,_,h,_=>by rfl|_::_,[],i,_,_,h=>by simp_all|a::ss,b::xs,0,s,h,_=>by simp at h;subst h;rfl|a::ss,b::xs,i+1,s,h,h'=>by rw[show(i+1)*4+3=(i*4+3)+4by omega];show bN a b++(dy ss xs).set (i*4+3) (.bool true)=_;rw[Am (by simpa using h) (by simp_all)];rfl
theorem Heap.Cb{H:Heap}(hw:H.wf)(x:eB):∃Gm G,H.mark.new x=Gm/\Gm.dY H.bF=G/\H.n<=Gm.bF/\ah H G/\G.get H.n=x/\G.n=H.n+1:=by
 have hm:H.mark.wf:=by rw[Heap.eE];exact hw
 have f:=ah.new hm (x:=x);refine⟨_,_,rfl,rfl,f.dY.2,f.dY.1,?_,?_⟩;.show(H.mark.new x).get H.mark.n=x;rw[Heap.aF hm,if_pos rfl]
 .show(H.mark.new x).n=H.mark.n+1;exact Heap.aO
section
variable{cp:RC->au}{t:Nat->Option dr}{fuel:Nat}{H G:Heap}{Q:Nat->Prop}{B:Nat}{m:MT}{vl vs vi:V}
theorem nB(T:aB t)(S:TS H G B m vl vs vi):∃G',(∀(d)(k),aj (aT cp t fuel (d+1)) (.func 114 []) [.ptr B 0] G k=k (.cG []) G')/\TS H G' B {m with tok:=nY} vl vs .aC/\∀j,j≠B->G'.get j=G.get j:=by obtain⟨f,g,hi,G1,f1,o1,n1,f13⟩:=S;obtain⟨G2,hG2,f2,p2,n2,w2,k2⟩:=Heap.aZ f13 n1 hi (.cells (aS {m with tok:=nY} vl vs .aC));have w:=f.wf;refine⟨G2,λd k=>?_,⟨f1.trans f2,p2,by omega,G1,f1,⟨o1.live,o1.ae,Own.nil,o1.dl,λb o n c s e=>by cases e⟩,n1,f2⟩,k2⟩;simp only[aS,bu,nY]at g hG2;rw[aI T.k57 rfl rfl];simp only[go_sem,c57,g,w,hi,hG2]
theorem TS.put{G2:Heap}(S:TS H G B m vl vs vi)(f2:ah G G2)(l:List V):∃G3,G2.put B (.cells l)=G3/\ah H G3/\G3.get B=.cells l/\G3.n=G2.n/\G3.wf/\(∀j,j≠B->G3.get j=G2.get j)/\MO H G3 m vl vs vi:=by obtain⟨f,g,hi,G1,f1,o1,n1,f13⟩:=S;obtain⟨G3,hG3,f3,p3,n3,w3,k3⟩:=Heap.aZ (b:=B) (f13.trans f2) n1 (by have:=f2.n;omega) (.cells l);exact⟨G3,hG3,f1.trans f3,p3,n3,w3,k3,o1.fresh f3⟩
theorem J7(T:aB t){Q1}{cb ca block p}{va}{at_}(S:TS H G B m vl vs vi)(Y:jH m)(gb:G.get cb=.cells [.int 3 block])(ga:G.get ca=.cells [va])(hva:cF G Q1 va at_)(hp:at_[0]?=some p)(hpn:nn p)(hbl:block<m.live.length)(hQ:∀b,Q b->b<H.n):∃G' vl',(∀(d)(k),aj (aT cp t fuel (d+3)) (.func 138 [.ptr cb 0,.ptr ca 0]) [.ptr B 0] G k=k (.cG []) G')/\ah H G'/\B<G'.n/\G'.get B=.cells (aS {m with live:=m.live.set block p} vl' vs vi)/\jO G' Q {m with live:=m.live.set block p} vl' vs vi/\∀j,j<G.n->j≠B->G'.get j=G.get j:=by
 have l1:=Y.live.1;have o:=S.mo;have w:=S.f.wf;have hi:=S.hi;have g:=S.g;have hal:=(YW.1 hp).1;have hp0:=(YW.1 hp).2;obtain⟨ab,ao,ac,az,hvae,hab,-,hrd⟩:=hva.open hal;have hrd:=λ{id}{k}=>hrd rfl (id:=id) (k:=k);rw[hp0,WM]at hrd;obtain⟨G2,vl',z2,f2,o2⟩:=BY (cp:=cp) (fuel:=fuel) T w (cF.eY o.live λb h=>h) (by omega) hbl hpn;have z2:=λ{d}{k}=>z2 d k;have m2:=f2.n;obtain⟨G3,hG3,f3,p3,n3,w3,k3,o3⟩:=S.put f2 (aS {m with live:=m.live.set block p} vl' vs vi);have g2:=(f2.same _ hi).trans g;have i1:=λ{id}{k}=>aM o.live.one (id:=id) (k:=k);have i2:=λ{id}{k}=>aM o2.one (id:=id) (k:=k);have i3:=λ{id}{k}=>aM hva.one (id:=id) (k:=k);refine⟨G3,vl',λd k=>?_,f3,by omega,p3,⟨?_,(o3.at_ hQ).ae,(o3.at_ hQ).bP⟩,λj hj hne=>(k3 j hne).trans (f2.same _ hj)⟩
 .have w2:=f2.wf;have u2:B<G2.n:=by omega
  simp only[aS,bu]at g hG3 g2;subst hvae;rw[ay T.k69 rfl rfl];simp only[go_sem,ZE,c69,g,gb,ga,↓hrd,hal,↓z2,↓i2,g2,w2,u2,hG3]
 .have:=o2.fR (v:=.slice B 0 0 0 0) (by omega) (λj hj ho=>k3 j (ho _ _ _ _ _ rfl)) λb o n c s e b' o' n' c' s' e'=>by cases e';have:=(o2.cV e).1;omega
  have h:=this.toRow λb h=>by have:=hQ b h;have:=S.f.n;omega
  unfold cF;simp_all
theorem Nc(T:aB t){ca a}(S:TS H G B m vl vs vi)(Y:jH m)(ga:G.get ca=.cells [.int 3 a]){s}(hs:m.ae[a]?=some s)(hQ:∀b,Q b->b<H.n):∃G',(∀(d)(k),aj (aT cp t fuel (d+1)) (.func 158 [.ptr ca 0]) [.ptr B 0] G k=k (.cG []) G')/\ah H G'/\B<G'.n/\G'.get B=.cells (aS {m with ae:=m.ae.set a {s with hid:=true}} vl vs vi)/\jO G' Q {m with ae:=m.ae.set a {s with hid:=true}} vl vs vi/\∀j,j<H.n->G'.get j=G.get j:=by
 have l2:=Y.num;have w:=S.f.wf;have hi:=S.hi;have g:=S.g;obtain⟨f,-,-,G1,f1,o1,n1,f13⟩:=S;have o:=o1.fresh f13;obtain⟨xs,ho,hxl,hx⟩:=o.ae;obtain⟨xs1,ho1,-⟩:=o1.ae;have hlt:=(YW.1 hs).1;have hel:=tE hxl;obtain⟨y,hy,oy,offy⟩:=hx a s hs;obtain⟨bs,c,z,l,rfl,gbs,hbs,hbn,hll,hput⟩:=ho.put w (by intro e;rw[e]at hel;simp at hel;omega);have hbB:=(ho1.cV rfl).2;obtain⟨np,op,kp⟩:=hput (a*4+3) (.bool true) (by omega) rfl;have fp:ah H (G.put bs (.cells (l.set (a*4+3) (.bool true)))):=f.put hbs hbn;generalize hG2:G.put bs (.cells (l.set (a*4+3) (.bool true)))=G2 at np op kp fp;have hset:=Am hs hxl;rw[hset]at op;have keepO:∀{v}{sz n}{row},Own H G v sz n row->(∀b o n q s,v=.slice b o n q s->iw (.slice bs 0 m.ae.length c z) b)->Own H G2 v sz n row:=λh hh=>h.fR (v:=.slice bs 0 m.ae.length c z) (by omega) (λq hq ho=>kp q (ho _ _ _ _ _ rfl)) (λb o n c' s e b' o' n' c'' s' e'=>by cases e';exact hh _ _ _ _ _ e _ _ _ _ _ rfl);have hBb:B≠bs:=by omega
 refine⟨G2,λd k=>?_,fp,by omega,(kp B hBb).trans g,⟨cF.eY (keepO o.live o1.dl) hQ,⟨xs,?_,by simpa using hxl,λi s' hs'=>?_⟩,cF.eY (keepO o.bP o1.di) hQ⟩,λj hj=>kp j (by omega)⟩
 .have a1:=n_ m.ae.length;have a2:=n_ a;have a3:=l_ a;have a4:a*4+3<l.length:=by omega
  simp only[aS,bu]at g;rw[ay T.k79 rfl rfl];simp only[go_sem,c79,g,ga,a3,a4,hlt,gbs,w,hbn,hG2]
 .have:=op.toRow hQ;rw[Wg];omega
 .by_cases hia:i=a;.subst hia;rw[List.getElem?_set_self hlt]at hs';cases hs';exact⟨y,hy,cF.eY (keepO oy offy) hQ⟩
  .rw[List.getElem?_set_ne (λe=>hia e.symm)]at hs';obtain⟨x,hx1,hx2,hx3⟩:=hx i s' hs';exact⟨x,hx1,cF.eY (keepO hx2 hx3) hQ⟩
theorem Ob(T:aB t){ca:Nat}{gd:Gd}(S:TS H G B m vl vs vi)(Y:jH m)(ga:G.get ca=.cells (aY gd))(hca:ca<G.n)(hcB:ca≠B)(hQ:∀b,Q b->b<H.n):∃G' vs',(∀(d:Nat)(k:K),aj (aT cp t fuel (d+2)) (.func 152 [.ptr ca 0]) [.ptr B 0] G k=k (.cG []) G')/\ah H G'/\B<G'.n/\G'.get B=.cells (aS {m with ae:=m.ae++[⟨gd,m.live,false⟩]} vl vs' vi)/\jO G' Q {m with ae:=m.ae++[⟨gd,m.live,false⟩]} vl vs' vi/\∀j,j<H.n->G'.get j=G.get j:=by
 have l1:=Y.live.1;have l2:=Y.num;have o:=S.mo;have w:=S.f.wf;have hi:=S.hi;have lo:=S.lo;have g:=S.g;have f:=S.f;obtain⟨-,-,-,G1,f1,o1,n1,f13⟩:=S;obtain⟨xs,ho1,hxl,hx1⟩:=o1.ae;have ho:=ho1.fresh f13;have hvB:iw vs B:=ho1.Ch n1;obtain⟨Gm,G2,y,z2,hu2,hl2,f2,oy⟩:=ZK (eJ (cp:=cp) (fuel:=fuel) (H:=G.mark) (O:=Q) T (by rw[Heap.eE];exact w) ((cF.eY o.live hQ).fresh (ah.Fp w)) (by omega));have m2:=f2.n;obtain⟨Gn,G3,hGn,hu3,hl3,f3,p3,n3⟩:=Heap.Cb f2.wf (.cells [.int 7 gd.1,.int 7 gd.2,y,.bool false]);have f23:=f2.trans f3;obtain⟨vs',G4,hap,o4,f4,k4,n4,off4⟩:=Own.app (w:=vs) (x:=.slice G2.n 0 1 2 0) (m:=1) (new:=[.int 7 gd.1,.int 7 gd.2,y,.bool false]) (f.trans f23) (ho.fresh f23) (λ{id f}=>fT p3 rfl) rfl (λx hx=>by rcases YS.1 hx with rfl|hx;rfl;rcases YS.1 hx with rfl|hx;rfl;rcases YS.1 hx with rfl|hx;exact oy.one;rw[YM.1 hx];rfl) (by omega);have o4:Own H G4 vs' 4 (m.ae.length+1) (dy m.ae xs++bN ⟨gd,m.live,false⟩ y):=o4;rw[<-tD hxl]at o4;have g4:G4.get B=.cells (aS m vl vs vi):=(k4 B (by omega) hvB).trans ((f23.same _ hi).trans g);have hB4:B<G4.n:=by have:=f3.n;omega
 obtain⟨G5,hG5,f5,p5,n5,w5,k5⟩:=Heap.aZ (b:=B) f4 lo hB4 (.cells (aS {m with ae:=m.ae++[⟨gd,m.live,false⟩]} vl vs' vi));have off5:iw vs' B:=off4 B (by have:=f3.n;omega) hvB;have keepO:∀{v:V}{sz n:Nat}{row:List V},Own H G v sz n row->(∀b o n c s,v=.slice b o n c s->iw vs b)->(∀b o n c s,v=.slice b o n c s->b≠B)->Own H G5 v sz n row:=λh hh hb=>((h.fresh f23).fR (v:=vs) n4 k4 hh).fR (v:=.slice B 0 0 0 0) (by omega) (λj hj ho=>k5 j (ho _ _ _ _ _ rfl)) λb o n c s e b' o' n' c' s' e'=>by cases e';exact hb _ _ _ _ _ e
 have keep5:∀{H1:Heap}{v:V}{sz n:Nat}{row:List V},Own H1 G4 v sz n row->(∀b o n c s,v=.slice b o n c s->b≠B)->Own H1 G5 v sz n row:=λh hb=>h.fR (v:=.slice B 0 0 0 0) (by omega) (λj hj ho=>k5 j (ho _ _ _ _ _ rfl)) λb o n c s e b' o' n' c' s' e'=>by cases e';exact hb _ _ _ _ _ e
 have offB:∀{v:V}{sz n:Nat}{row:List V},Own H G1 v sz n row->∀b o n c s,v=.slice b o n c s->b≠B:=λh b o n c s e=>by have:=(h.cV e).2;omega
 refine⟨G5,vs',λd k=>?_,f5,by omega,p5,⟨cF.eY (keepO o.live o1.dl (offB o1.live)) hQ,⟨xs++[y],?_,by simp[hxl],λi s' hs'=>?_⟩,cF.eY (keepO o.bP o1.di (offB o1.bP)) hQ⟩,λj hj=>?_⟩
 .have j1:=λ{id:Nat}{k:R}=>aM o.live.one (id:=id) (k:=k);have j2:=λ{id:Nat}{k:R}=>aM o.bP.one (id:=id) (k:=k);have j3:=λ{id:Nat}{k:R}=>aM oy.one (id:=id) (k:=k);have j4:=λ{id:Nat}{k:R}=>aM ho.one (id:=id) (k:=k);have j5:=λ{id:Nat}{k:R}=>aM o4.one (id:=id) (k:=k);have x3:=λ{id:Nat}{f:List V->R}=>Bh oy.one (id:=id) (f:=f);have z2:=λ{d:Nat}{k:K}=>z2 d k;have w4:=f4.wf;have wm:G2.mark.wf:=by rw[Heap.eE];exact f2.wf
  have nm:G2.mark.n=G2.n:=rfl;simp only[aS,bu,aY]at g g4 ga hG5;rw[ay T.k76 rfl rfl];simp only[YK,YJ];simp only[go_sem,c76,g,ga,↓j3,↓j5,↓x3,↓z2,hu2,hl2,wm,nm,hGn,hu3,hl3,↓hap,g4,w4,hB4,hG5]
 .have:=(keep5 o4 λb o n c s e he=>off5 _ _ _ _ _ e he.symm).toRow hQ;show Row G5 Q _ 4 (m.ae++[_]).length _;rw[YB];exact this
 .have hs':(m.ae++[⟨gd,m.live,false⟩])[i]?=some s':=hs';by_cases hil:i<m.ae.length;.rw[Yp hil]at hs';obtain⟨x,b1,b2,b3⟩:=hx1 i s' hs';exact⟨x,by rw[Yp (by omega)];exact b1,cF.eY (keepO (b2.fresh f13) b3 (offB b2)) hQ⟩
  .rw[Yl (by omega)]at hs';have hi0:i-m.ae.length=0:=by have:=(YW.1 hs').1;simp at this;omega
   rw[hi0]at hs';cases hs';refine⟨y,by rw[Yl (by omega),hxl,hi0];rfl,?_⟩;have oy4:Own G G4 y 1 m.live.length (m.live.map (V.int 3)):=(oy.fresh f3).fR (v:=vs) n4 k4 λb o n c s e=>ho.Ch (oy.cV e).1;exact cF.eY (keep5 oy4 λb o n c s e=>by have:=(oy4.cV e).1;omega) λb h=>by have:=hQ b h;have:=f.n;omega
 .rw[k5 j (by omega),k4 j (by have:=f.n;have:=f3.n;omega) (ho.off hj),f23.same j (by have:=f.n;omega)]
end
section
variable{id:Nat}{ph:dg}{e:Env}{H:Heap}{k:K}{O:Nat->Prop}
theorem S8{s}{n b c z}{row l}{a y}(ha:aA a e=.slice b 0 n c z)(hy:aA y e=s)(hw:H.wf)(hb:b<H.n)(g:H.get b=.cells l)(hl:l.length=n)(h:Row H O s 1 n row)(h0:0<n)(hn:n<9223372036854775808):aQ (.copy 1 a y) id ph e H k=k (.int 3 n) (H.put b (.cells row)):=by
 have hN:=λ{id}{f}=>h.nc (id:=id) (f:=f) λ_ _ _=>rfl;have hrow:=by omega
 have hone:=h.2.1;obtain⟨_,_,h|⟨q,o,c',z',l',rfl,_⟩⟩:=h;.omega
 show aJ a e (λd=>aJ y e λs=>bD id d (λb o dl _ _=>Sx id s λsl=>Nr sl dl λn=>cX id 1 H s λ_ l=>takeN id l (Nat.mul n 1) λm=>Nat.rec (k (.int 3 0) H) (λ_ _=>dS id H b o m λH=>kX id n H k) n) (cX id 1 H s λ_ _=>k (.int 3 0) H))=_;rw[aq,ha,aq,hy,cq];show Nr n n (λn=>cX id 1 H (.slice q o n c' z') λ_ l=>takeN id l (Nat.mul n 1) λm=>Nat.rec (k (.int 3 0) H) (λ_ _=>dS id H b 0 m λH=>kX id n H k) n)=_;have hmin:∀f,Nr n n f=f n:=λf=>by unfold Nr;rw[bI];simp
 rw[hmin];show cX id 1 H (.slice q o n c' z') (λ_ l=>takeN id l (n*1) λm=>Nat.rec (k (.int 3 0) H) (λ_ _=>dS id H b 0 m λH=>kX id n H k) n)=_;rw[hN,eF (by omega),nv,if_neg (by omega),Od g,Yi (by omega),bT hone,sF (by omega),eW hw hb,KW,if_pos hn,QC,YJ,List.drop_of_length_le (by omega),YV]
def yU(v:V)(n:Nat):V:=match v with|.slice b o _ c s=>if c=0then .slice b o n 0 s else if c-1=0then .slice b o n 1 0 else .slice b o n c 0|v=>v
theorem K6{H0 H'}{v}{sz N n}{row}(h:Own H0 H' v sz N row)(hn:n<=N)(hO:∀b,O b->b<H0.n):Row H' O (yU v n) sz n (row.take (n*sz)):=by
 obtain⟨h1,h2,⟨rfl,rfl⟩|⟨b,c,s,rest,rfl,g,hc,hb1,hb2⟩⟩:=h
 .obtain rfl:n=0:=by omega
  exact⟨by simp,λx hx=>by simp_all,YH ⟨YH rfl,rfl⟩⟩
 .have hle:n*sz<=row.length:=by rw[h1];exact Nat.mul_le_mul_right _ hn
  have hrow:∀c s,Row H' O (.slice b 0 n c s) sz n (row.take (n*sz)):=λc s=>⟨by simp_all,λx hx=>h2 x (WI hx),YE ⟨b,0,c,s,row++rest,rfl,YH g,hb2,λh=>by have:=hO b h;omega,by rw[YB];omega,by rw[Wo,List.take_append_of_le_length hle]⟩⟩;unfold yU;split;.rename_i h;cases h;split;exact hrow _ _;split;exact hrow _ _;simp_all
  .rename_i h;exact absurd rfl (h _ _ _ _ _)
end
theorem xa:∀{ss}{xs}{n},xs.length=ss.length->(dy ss xs).take (n*4)=dy (ss.take n) (xs.take n)|[],[],n,_=>by simp[dy]|[],_::_,_,h=>by simp_all|_::_,[],_,h=>by simp_all|a::ss,b::xs,0,_=>by rfl|a::ss,b::xs,n+1,h=>by have:=xa (n:=n) (by simpa using h);show(bN a b++dy ss xs).take ((n+1)*4)=bN a b++dy (ss.take n) (xs.take n);rw[<-this,show(n+1)*4=(bN a b).length+n*4by simp[bN];omega,List.take_length_add_append]
def OA(m:MT)(n:Nat):MT:={m with ae:=m.ae.take n,live:=(cz {m with ae:=m.ae.take n}).bP}
theorem IQ{m:MT}{n}{s}(hs:m.ae[n]?=some s):(cz {m with ae:=m.ae.take (n+1)}).bP=s.bP:=by have hlt:=(YW.1 hs).1;show((m.ae.take (n+1)).getLast?.getD _).bP=_;rw[YA2,Yv,Nat.min_eq_left (by omega),Wn,Yy,if_pos (by omega),hs];rfl
section
variable{cp:RC->au}{t:Nat->Option dr}{fuel:Nat}{H G:Heap}{Q:Nat->Prop}{B:Nat}{m:MT}{vl vs vi:V}
theorem zG(T:aB t){ca n:Nat}(S:TS H G B m vl vs vi)(Y:jH m)(ga:G.get ca=.cells [.int 3 n])(hcn:ca<H.n)(hn:n<=m.ae.length)(hQ:∀b,Q b->b<H.n)(himg:∀s∈m.ae,s.bP.length=m.live.length)(hpos:0<m.live.length):∃G' vl' vs',(∀(d:Nat)(k:K),aj (aT cp t fuel (d+1)) (.func 156 [.ptr ca 0]) [.ptr B 0] G k=k (.cG []) G')/\ah H G'/\B<G'.n/\G'.get B=.cells (aS (OA m n) vl' vs' vi)/\jO G' Q (OA m n) vl' vs' vi/\∀j,j<H.n->G'.get j=G.get j:=by
 have l1:=Y.live.1;have l2:=Y.num;obtain⟨f,g,hi,G1,f1,o1,n1,f13⟩:=S;have w:=f.wf;have o:=o1.fresh f13;obtain⟨xs,ho1,hxl,hx1⟩:=o1.ae;have ho:=ho1.fresh f13;have mf:=f1.n;have hc1:(yU vs n).one=true:=(K6 ho hn hQ).one;generalize hv2:yU vs n=vs2 at hc1;obtain⟨G2,hG2,f2,p2,n2,w2,k2⟩:=Heap.aZ (b:=B) f13 n1 hi (.cells (aS m vl vs2 vi));obtain⟨G3,f3,o3,g3,n3,z3⟩:=tM (n:=m.live.length) (kl:=3) (x:=V.int 3 0) (a:=uR) rfl w2 rfl (by omega) (YC _);have p3:G3.get B=.cells (aS m vl vs2 vi):=(f3.same _ (by omega)).trans p2;have hB3:B<G3.n:=by omega
 obtain⟨G4,hG4,f4,p4,n4,w4,k4⟩:=Heap.aZ (b:=B) (f2.trans f3) n1 hB3 (.cells (aS m (.slice G2.n 0 m.live.length (m.live.length+1) 0) vs2 vi));have g4:G4.get G2.n=.cells (YZ m.live.length (V.int 3 0)):=(k4 _ (by omega)).trans g3;have ca4:G4.get ca=.cells [.int 3 n]:=(k4 _ (by omega)).trans ((f3.same _ (by omega)).trans ((k2 _ (by omega)).trans ga));have j1:=λ{id:Nat}{k:R}=>aM o.live.one (id:=id) (k:=k);have j2:=λ{id:Nat}{k:R}=>aM o.bP.one (id:=id) (k:=k);have j3:=λ{id:Nat}{k:R}=>aM hc1 (id:=id) (k:=k);have sn:=λ{id:Nat}{f:Nat->R}=>o.live.sn (id:=id) (f:=f);have w3:=f3.wf;have a1:=l_ m.live.length;have a2:=n_ n;have a3:=n_ 0;have z3:=λ{id:Nat}{ph:dg}{e:Env}{k:K}(h1:aA uR e=.int 3 m.live.length)=>z3 (id:=id) (ph:=ph) (e:=e) (k:=k) h1;have snapsAt:∀{G':Heap},ah G1 G'->fC G' Q vs2 (m.ae.take n):=λ{G'}f'=>by
  refine⟨xs.take n,?_,by rw[Yv,Yv,hxl],λi s hs=>?_⟩;.have:=K6 (ho1.fresh f') hn hQ;rw[xa hxl,hv2]at this;rwa[show(m.ae.take n).length=n by rw[Yv];omega]
  .rw[Yy]at hs;split at hs;.rename_i hin;obtain⟨x,b1,b2,b3⟩:=hx1 i s hs;exact⟨x,by rw[Yy,if_pos hin];exact b1,cF.eY (b2.fresh f') hQ⟩
   .cases hs
 by_cases h0:n=0
 .subst h0;refine⟨G4,.slice G2.n 0 m.live.length (m.live.length+1) 0,vs2,λd k=>?_,f1.trans f4,by omega,p4,⟨?_,snapsAt f4,cF.eY (o1.fresh f4).bP hQ⟩,λj hj=>?_⟩
  .simp only[aS,bu]at g hG2 p2 p3 hG4;rw[ay T.k78 rfl rfl];simp only[YK,YJ];obtain⟨-,-,⟨hvs,hN⟩|⟨b,c,s,rest,hvs,-,rfl|⟨rfl,rfl,-⟩,-⟩⟩:=ho;.subst hvs;simp only[yU]at hv2;subst hv2;simp only[go_sem,ZE,c78,g,ga,↓j3,w,hi,hG2,p2,↓sn,a1,↓z3,p3,w3,hB3,hG4,ca4,a2]
   .subst hvs;by_cases hN:m.ae.length=0;.simp only[yU,hN,WH,QG,if_neg Nat.one_ne_zero,if_true]at hv2;subst hv2;simp only[go_sem,ZE,c78,g,ga,↓j3,w,hi,hG2,p2,↓sn,a1,↓z3,p3,w3,hB3,hG4,ca4,a2,hN]
    .simp only[yU,Wn,if_neg (YQ4 _),if_neg hN]at hv2;subst hv2;simp only[go_sem,ZE,Wn,Wu,c78,g,ga,↓j3,w,hi,hG2,p2,↓sn,a1,↓z3,p3,w3,hB3,hG4,ca4,a2,hN]
   .subst hvs;simp only[yU,if_true]at hv2;subst hv2;simp only[go_sem,ZE,c78,g,ga,↓j3,w,hi,hG2,p2,↓sn,a1,↓z3,p3,w3,hB3,hG4,ca4,a2]
  .show cF G4 Q _ (YZ m.live.length 0);have:Own G2 G4 (.slice G2.n 0 m.live.length (m.live.length+1) 0) 1 m.live.length (YZ m.live.length (V.int 3 0)):=o3.fR (v:=.slice B 0 0 0 0) (by omega) (λj hj ho=>k4 j (ho _ _ _ _ _ rfl)) λb o n c s e b' o' n' c' s' e'=>by cases e';cases e;omega
   have h:=this.toRow (O:=Q) λb h=>by have:=hQ b h;have:=f13.n;omega
   unfold cF;rw[WT,Wc];exact h
  .rw[k4 j (by omega),f3.same j (by have:=f13.n;omega),k2 j (by omega)]
 .obtain⟨q,rfl⟩:=s_ n;have hq:q<m.ae.length:=by omega
  have hs:m.ae[q]?=some m.ae[q]:=YA hq;have hlen:=himg _ (YP hq);have hlast:=IQ hs;obtain⟨x,hxq,ox,ofx⟩:=hx1 q _ hs;have hrow:=pV hs hxq;generalize m.ae[q]=sq at hs hlen hlast ox hrow;have hx4:cF G4 (λb=>b<H.n) x sq.bP:=cF.eY (ox.fresh f4) λb h=>h;have w4':=f4.wf;have hx4':Row G4 (λb=>b<H.n) x 1 m.live.length (sq.bP.map (V.int 3)):=by have:=hx4;unfold cF at this;rwa[hlen]at this
  obtain⟨G5,hG5,f5,p5,n5,w5,k5⟩:=Heap.aZ (b:=G2.n) f4 (by omega) (by omega) (.cells (sq.bP.map (V.int 3)));have So:=λ{id:Nat}{ph:dg}{e:Env}{k:K}(h1:aA uS e=.slice G2.n 0 m.live.length (m.live.length+1) 0)(h2:aA yP e=x)=>S8 (id:=id) (ph:=ph) (e:=e) (k:=k) h1 h2 w4' (show G2.n<G4.n by omega) g4 (WT ..) hx4' hpos (by omega);rw[hG5]at So;have p5B:G5.get B=.cells (aS m (.slice G2.n 0 m.live.length (m.live.length+1) 0) vs2 vi):=(k5 B (by omega)).trans p4;refine⟨G5,.slice G2.n 0 m.live.length (m.live.length+1) 0,vs2,λd k=>?_,f1.trans f5,by omega,p5B,⟨?_,snapsAt f5,cF.eY (o1.fresh f5).bP hQ⟩,λj hj=>?_⟩
  .have hxx:(dy m.ae xs)[q*4+2]?=some x:=by
    have:(((dy m.ae xs).drop (q*4)).take 4)[2]?=some x:=by rw[hrow];rfl
    rwa[Yy,if_pos (by omega),WG]at this
   have jx:=λ{id:Nat}{k:R}=>aM ox.one (id:=id) (k:=k);have a5:=n_ q;have a6:=l_ q;have a7:(q+1+18446744073709551615)%18446744073709551616=q:=by omega
   have a8:=l_ (q+1);have a9:0<q+1:=by omega
   have a10:q<q+1:=by omega
   simp only[aS,bu]at g hG2 p2 p3 hG4 p4;rw[ay T.k78 rfl rfl];simp only[YK,YJ];obtain⟨-,-,⟨hvs,hN⟩|⟨b,c,s,rest,hvs,gb,hc,-⟩⟩:=ho;.omega
   .have hb1:b<G1.n:=(ho1.cV hvs).2;have gb4:G4.get b=.cells (dy m.ae xs++rest):=(f4.same _ hb1).trans ((f13.same _ hb1).symm.trans gb);have hrd:∀{id:Nat}{k:V->R},nth id (dy m.ae xs++rest) (q*4+2) k=k x:=iV (by rw[Yp (YW.1 hxx).1];exact hxx);subst hvs;rcases hc with rfl|⟨rfl,rfl,-⟩
    .have hN:¬m.ae.length=0:=by omega
     simp only[yU,Wn,if_neg (YQ4 _),if_neg hN]at hv2;subst hv2;simp only[go_sem,Wn,Wu,c78,g,ga,↓j3,w,hi,hG2,p2,↓sn,a1,↓z3,p3,w3,hB3,hG4,ca4,a2,a3,hN,hn,p4,a6,a7,a8,a9,a10,gb4,↓hrd,↓So]
    .simp only[yU,if_true]at hv2;subst hv2;simp only[go_sem,Wu,c78,g,ga,↓j3,w,hi,hG2,p2,↓sn,a1,↓z3,p3,w3,hB3,hG4,ca4,a2,a3,hn,p4,a6,a7,a8,a9,a10,gb4,↓hrd,↓So]
  .show cF G5 Q _ (cz _).bP;rw[hlast];have:Own G2 G5 (.slice G2.n 0 m.live.length (m.live.length+1) 0) 1 m.live.length (sq.bP.map (V.int 3)):=⟨by simp[hlen],λy hy=>by obtain⟨p,-,rfl⟩:=Ye.1 hy;rfl,YE ⟨_,_,_,[],rfl,by rw[YV];exact p5,YH rfl,YC _,by omega⟩⟩;have h:=this.toRow (O:=Q) λb h=>by have:=hQ b h;have:=f13.n;omega
   unfold cF;rw[hlen];exact h
  .rw[k5 j (by have:=f13.n;omega),k4 j (by omega),f3.same j (by have:=f13.n;omega),k2 j (by omega)]
end
def stM(m:MT)(tk:Tk)(l:List Nat):MT:=if tk.next<tk.all then{m with tok:={tk with bP:=l}}else{m with ae:=m.ae++[⟨tk.t,l,false⟩],live:=l}
section
variable{cp:RC->au}{t:Nat->Option dr}{fuel:Nat}{H G:Heap}{Q:Nat->Prop}{B:Nat}{m:MT}{vl vs vi:V}
theorem JM(T:aB t){ca cb:Nat}{tk:Tk}{x0 vL:V}{l:List Nat}{Hb:Heap}(f0:ah Hb H)(S:TS H G B m vl vs vi)(Y:jH m)(ga:G.get ca=.cells [vL])(gc:G.get cb=.cells (bu tk x0))(hca:ca<H.n)(hcb:cb<H.n)(hcc:ca≠cb)(hb:Hb.n<=cb)(hx0:x0.one=true)(hvL:vL.one=true)(hn1:nn tk.next)(hn2:nn tk.all)(hll:l.length<1000)(hL:∀{G':Heap},(∀j,j<H.n->j≠cb->G'.get j=G.get j)->G.n<=G'.n->cF G' Q vL l)(hQ:∀b,Q b->b<Hb.n):∃G' vl' vs' vi',(∀(d:Nat)(k:K),aj (aT cp t fuel (d+2)) (.func 116 [.ptr cb 0,.ptr ca 0]) [.ptr B 0] G k=k (.cG []) G')/\ah Hb G'/\B<G'.n/\G'.get B=.cells (aS (stM m tk l) vl' vs' vi')/\jO G' Q (stM m tk l) vl' vs' vi'/\(∀j,j<H.n->j≠cb->G'.get j=G.get j)/\G.n<=G'.n:=by
 have l1:=Y.live.1;have l2:=Y.num;obtain⟨f,g,hi,G1,f1,o1,n1,f13⟩:=S;have hQH:=λb h=>YF (hQ b h) f0.n;have w:=f.wf;have mf:=f1.n;have m13:=f13.n;have m0:=f0.n;obtain⟨xs,ho1,hxl,hx1⟩:=o1.ae;have offB:∀{v}{sz n}{row},Own H G1 v sz n row->∀b o n c s,v=.slice b o n c s->b≠B:=λh b o n c s e=>by have:=(h.cV e).2;omega
 have offC:∀{v}{sz n}{row},Own H G1 v sz n row->∀b o n c s,v=.slice b o n c s->b≠cb:=λh b o n c s e=>by have:=(h.cV e).1;omega
 have jL:=λ{id}{k}=>aM hvL (id:=id) (k:=k);have j1:=λ{id}{k}=>aM o1.live.one (id:=id) (k:=k);have j2:=λ{id}{k}=>aM o1.bP.one (id:=id) (k:=k);have j4:=λ{id}{k}=>aM ho1.one (id:=id) (k:=k);have jx:=λ{id}{k}=>aM hx0 (id:=id) (k:=k);unfold stM;by_cases hlt:tk.next<tk.all
 .rw[if_pos hlt];have fb:=f0.trans f;obtain⟨G2,hG2,f2,p2,n2,w2,k2⟩:=Heap.aZ fb hb (by omega) (.cells (bu tk vL));have g2:=(k2 B (by omega)).trans g;obtain⟨G3,hG3,f3,p3,n3,w3,k3⟩:=Heap.aZ (b:=B) f2 (by omega) (by omega) (.cells (aS {m with tok:={tk with bP:=l}} vl vs vL));have keepO:∀{v}{sz n}{row},Own H G1 v sz n row->Own H G3 v sz n row:=λh=>((h.fresh f13).fR (v:=.slice cb 0 0 0 0) (by omega) (λj hj ho=>k2 j (ho _ _ _ _ _ rfl)) (λb o n c s e b' o' n' c' s' e'=>by cases e';exact offC h _ _ _ _ _ e)).fR (v:=.slice B 0 0 0 0) (by omega) (λj hj ho=>k3 j (ho _ _ _ _ _ rfl)) λb o n c s e b' o' n' c' s' e'=>by cases e';exact offB h _ _ _ _ _ e
  have hsame:∀j,j<H.n->j≠cb->G3.get j=G.get j:=λj hj hne=>(k3 j (by omega)).trans (k2 j hne);refine⟨G3,vl,vs,vL,λd k=>?_,f3,by omega,p3,⟨cF.eY (keepO o1.live) hQH,⟨xs,(keepO ho1).toRow hQH,hxl,λi s hs=>let⟨x,b1,b2,b3⟩:=hx1 i s hs;⟨x,b1,cF.eY (keepO b2) hQH⟩⟩,hL hsame (by omega)⟩,hsame,by omega⟩;have hcn:cb<G.n:=by omega
  have hBn:B<G2.n:=by omega
  simp only[aS,bu]at g gc hG2 g2 hG3 p2;rw[ay T.k58 rfl rfl];simp only[YK,YJ];simp only[go_sem,c58,gc,ga,hn1,hn2,hlt,↓jL,w,hcn,hG2,p2,g2,w2,hBn,hG3]
 .rw[if_neg hlt];have ho:=ho1.fresh f13;have hvB:=ho1.Ch n1;obtain⟨Gn,G3,hGn,hu3,hl3,f3,p3,n3⟩:=Heap.Cb w (.cells [.int 7 tk.t.1,.int 7 tk.t.2,vL,.bool false]);obtain⟨vs',G4,hap,o4,f4,k4,n4,off4⟩:=Own.app (w:=vs) (x:=.slice G.n 0 1 2 0) (f.trans f3) (ho.fresh f3) (λ{id f}=>fT p3 rfl) rfl (λx hx=>by rcases YS.1 hx with rfl|hx;rfl;rcases YS.1 hx with rfl|hx;rfl;rcases YS.1 hx with rfl|hx;exact hvL;rw[YM.1 hx];rfl) (by omega);have o4:Own H G4 vs' 4 (m.ae.length+1) (dy m.ae xs++bN ⟨tk.t,l,false⟩ vL):=o4;rw[<-tD hxl]at o4;have g4:=(k4 B (by omega) hvB).trans ((f3.same _ hi).trans g);have hB4:B<G4.n:=by omega
  have lo:H.n<=B:=by omega
  obtain⟨G5,hG5,f5,p5,n5,w5,k5⟩:=Heap.aZ f4 lo hB4 (.cells (aS m vl vs' vi));have off5:=off4 B (by omega) hvB;have same5:=λj hj=>(k5 j (by omega)).trans ((k4 j (by omega) (ho.off hj)).trans (f3.same j (by omega)));obtain⟨G6,vl',z6,f6,o6⟩:=eJ (cp:=cp) (fuel:=fuel) T w5 (hL (λj hj _=>same5 j hj) (by omega)) (by omega);have m6:=f6.n;obtain⟨G7,hG7,f7,p7,n7,w7,k7⟩:=Heap.aZ (f5.trans f6) lo (by omega) (.cells (aS {m with ae:=m.ae++[⟨tk.t,l,false⟩],live:=l} vl' vs' vi));have p6:=(f6.same _ (by omega)).trans p5;have keep7:∀{H1}{v}{sz n}{row},Own H1 G4 v sz n row->(∀b o n c s,v=.slice b o n c s->b≠B)->Own H1 G7 v sz n row:=λh hb=>((h.fR (v:=.slice B 0 0 0 0) (by omega) (λj hj ho=>k5 j (ho _ _ _ _ _ rfl)) (λb o n c s e b' o' n' c' s' e'=>by cases e';exact hb _ _ _ _ _ e)).fresh f6).fR (v:=.slice B 0 0 0 0) (by omega) (λj hj ho=>k7 j (ho _ _ _ _ _ rfl)) λb o n c s e b' o' n' c' s' e'=>by cases e';exact hb _ _ _ _ _ e
  have keepO:∀{v}{sz n}{row},Own H G1 v sz n row->(∀b o n c s,v=.slice b o n c s->iw vs b)->Own H G7 v sz n row:=λh hh=>keep7 (((h.fresh f13).fresh f3).fR n4 k4 hh) (offB h);have same7:=λj hj=>(k7 j (by omega)).trans ((f6.same j (by omega)).trans (same5 j hj));have w6:=f6.wf;have hB6:B<G6.n:=by omega
  have hvl:=o6.fR (v:=.slice B 0 0 0 0) (by omega) (λj hj ho=>k7 j (ho _ _ _ _ _ rfl)) λb o n c s e b' o' n' c' s' e'=>by cases e';have:=(o6.cV e).1;omega
  refine⟨G7,vl',vs',vi,λd k=>?_,f0.trans f7,by omega,p7,⟨cF.eY hvl (λb h=>by have:=hQH b h;omega),⟨xs++[vL],?_,by simp[hxl],λi s' hs'=>?_⟩,cF.eY (keepO o1.bP o1.di) hQH⟩,λj hj _=>same7 j hj,by omega⟩
  .have j6:=λ{id}{k}=>aM o4.one (id:=id) (k:=k);have j7:=λ{id}{k}=>aM o6.one (id:=id) (k:=k);have xL:=λ{id}{f}=>Bh hvL (id:=id) (f:=f);have z6:=λ{d}{k}=>z6 d k;have w4:=f4.wf;have wm:G.mark.wf:=by rw[Heap.eE];exact w
   have nm:G.mark.n=G.n:=rfl;have ga5:=(same5 ca hca).trans ga;simp only[aS,bu]at g gc g4 hG5 p6 hG7;rw[ay T.k58 rfl rfl];simp only[YK,YJ];simp only[go_sem,c58,g,gc,ga,hn1,hn2,hlt,↓jL,↓j6,↓j7,↓xL,wm,nm,hGn,hu3,hl3,↓hap,g4,w4,hB4,hG5,ga5,↓z6,p6,w6,hB6,hG7]
  .have:=(keep7 o4 λb o n c s e he=>off5 _ _ _ _ _ e he.symm).toRow hQH;show Row G7 Q _ 4 (m.ae++[_]).length _;rw[YB];exact this
  .have hs':=hs';by_cases hil:i<m.ae.length;.rw[Yp hil]at hs';obtain⟨x,b1,b2,b3⟩:=hx1 i s' hs';exact⟨x,by rw[Yp (by omega)];exact b1,cF.eY (keepO b2 b3) hQH⟩
   .rw[Yl (by omega)]at hs';have hi0:=by have:=(YW.1 hs').1;simp at this;omega
    rw[hi0]at hs';cases hs';exact⟨vL,by rw[Yl (by omega),hxl,hi0];rfl,hL (λj hj _=>same7 j hj) (by omega)⟩
end
structure VP(H:Heap)(dp vp a n:Nat)(A:AD)(O:Nat->Prop)(m:MT)(vl vs vi:V):Prop where
 cO:cN H dp A O
 off:A.off=false
 can:pN A a n
 lo:193<=A.len
 hi:A.len<=1024get:H.get vp=.cells (vc m vl vs vi dp false)vn:vp<H.n
 vo:¬O vp
 lO:jO H (bz O vp) m vl vs vi
 ok:jH m
def nD(H H':Heap)(dp vp:Nat)(O O':Nat->Prop)(m:MT)(vl vs vi:V)(A':AD)(m':MT)(lost:Bool):Prop:=Step H (bz O vp) H' (bz O' vp)/\cN H' dp A' O'/\¬O' vp/\vp<H'.n/\∃vl' vs' vi',H'.get vp=.cells (vc m' vl' vs' vi' dp lost)/\jO H' (bz O' vp) m' vl' vs' vi'/\∀X:Nat->Prop,(∀b,X b->b<H.n)->jO H (λb=>X b\/bz O vp b) m vl vs vi->jO H' (λb=>X b\/bz O' vp b) m' vl' vs' vi'
theorem VP.fresh{H H':Heap}{dp vp a n:Nat}{A:AD}{O:Nat->Prop}{m:MT}{vl vs vi:V}(S:VP H dp vp a n A O m vl vs vi)(f:ah H H'):VP H' dp vp a n A O m vl vs vi:=⟨S.cO.fresh f,S.off,S.can,S.lo,S.hi,(f.same _ S.vn).trans S.get,YF S.vn f.n,S.vo,S.lO.fresh f,S.ok⟩
theorem VP.lt{H:Heap}{dp vp a n:Nat}{A:AD}{O:Nat->Prop}{m:MT}{vl vs vi:V}(S:VP H dp vp a n A O m vl vs vi):∀b,bz O vp b->b<H.n:=λb h=>h.elim (S.cO.lt b) λh=>by rw[h];exact S.vn
theorem VP.done{H:Heap}{dp vp a n:Nat}{A:AD}{O:Nat->Prop}{m:MT}{vl vs vi:V}(S:VP H dp vp a n A O m vl vs vi):nD H H dp vp O O m vl vs vi A m false:=⟨(ah.refl S.cO.wf).step,S.cO,S.vo,S.vn,vl,vs,vi,S.get,S.lO,λX _ h=>h⟩
theorem nD.before{H0 H H':Heap}{dp vp:Nat}{O O1 O':Nat->Prop}{A':AD}{m m':MT}{vl vs vi:V}{lost:Bool}(h:nD H H' dp vp O1 O' m vl vs vi A' m' lost)(s:Step H0 (bz O vp) H (bz O1 vp)):nD H0 H' dp vp O O' m vl vs vi A' m' lost:=let⟨h1,h2,h3,h4,vl',vs',vi',h5,h6,h7⟩:=h;⟨s.trans h1,h2,h3,h4,vl',vs',vi',h5,h6,λX hX hM=>h7 X (λb hb=>YF (hX b hb) s.n) (hM.cm s.or)⟩
def HX(pk:List UInt8->List (List UInt8))(A:AD)(a:Nat)(m m':MT)(bw:List Wr):MT:=if(j8 pk A a m' bw).2=0then m' else m
def Rp(pk:List UInt8->List (List UInt8))(A:AD)(a:Nat)(m':MT)(bw:List Wr):Bool:=(po m').2==0&&(j8 pk A a m' bw).2==6
section
variable{cp:RC->au}{t:Nat->Option dr}{fuel:Nat}{H:Heap}{pk:List UInt8->List (List UInt8)}{unpk:List (List UInt8)->Option (List UInt8)}
theorem jg(T:aB t)(hc:aP t)(F:bC pk unpk)(hp:t 110=some (.nat (dC pk))){Hb}{dp vp a n bt c z}{A}{O}{m m'}{vl vs vi vb}{bw}{fs}(f0:ah Hb H)(S:VP Hb dp vp a n A O m vl vs vi)(Y':jH m')(hbw:∀w∈bw,w.1<18446744073709551616/\w.2.1<1000000/\sO w.2)(hbl:bw.length<1000)(hbt:H.get bt=.cells fs)(hbn:bt<H.n)(hfl:fs.length<1000)(hf1:∀f∈fs,f.one=true)(ht:∀(G1 G:Heap)(vl1 vs1 vi1:V),ah H G->TS H G G1.n m vl1 vs1 vi1->∃G' vl2 vs2 vi2,Ka cp t fuel G1.n bt fs G G'/\ah Hb G'/\G1.n<G'.n/\G'.get G1.n=.cells (aS m' vl2 vs2 vi2)/\jO G' (λb=>b<Hb.n) m' vl2 vs2 vi2/\Row G' (bz O vp) vb 2 bw.length (bK bw))(hfu:1000000<fuel):∃H' O',(∀(d:Nat)(k:K),aj (aT cp t fuel (d+8)) (.func 112 []) [.ptr vp 0,vb,.slice bt 0 fs.length c z] H k=k (.int 3 (j8 pk A a m' bw).2) H')/\nD Hb H' dp vp O O' m vl vs vi (j8 pk A a m' bw).1 (HX pk A a m m' bw) (Rp pk A a m' bw):=by
 obtain⟨H',O',z1,s,D,v1,v2,h⟩:=DZ T hc F hp f0 S.cO S.off S.can S.lo S.hi S.get S.vn S.vo S.lO S.ok Y' hbw hbl hbt hbn hfl hf1 (λG1 G vl1 vs1 vi1 f1 o f g hn=>ht G1 G vl1 vs1 vi1 (f1.trans f) (TS.of f1 o f g hn)) hfu;refine⟨H',O',z1,s,D,v1,v2,?_⟩;rcases h with⟨h0,vl2,vs2,vi2,h1,h2,h3⟩|⟨h0,h1,h2,h3⟩;.exact⟨vl2,vs2,vi2,by unfold HX Rp;simp_all,by unfold HX;simp_all,λX hX _=>by unfold HX;simp_all⟩
 .exact⟨vl,vs,vi,by unfold HX Rp;simp_all,by unfold HX;simp_all,λX _ hM=>by unfold HX;simp_all⟩
theorem jK:jN nY.b/\jN nY.t/\nn nY.next/\nn nY.all/\Cj nY.bP:=by
 have z:(0:Nat)<18446744073709551616:=by omega
 have z2:=n_ 0;exact⟨⟨z,z⟩,⟨z,z⟩,z2,z2,⟨by show 0<100;omega,λp hp=>by cases hp⟩⟩
theorem jH.drop{m:MT}(h:jH m):jH {m with tok:=nY}:=⟨h.live,h.num,h.ae,jK⟩
theorem zE(T:aB t)(hc:aP t)(F:bC pk unpk)(hp:t 110=some (.nat (dC pk))){dp vp a n q}{A}{O}{m}{vl vs vi}(S:VP H dp vp a n A O m vl vs vi)(hq:nn q)(himg:∀s∈m.ae,s.bP.length=m.live.length)(hpos:0<m.live.length)(Y':jH (OA {m with tok:=nY} q))(hfu:1000000<fuel):∃H' O',(∀(d)(k),aj (aT cp t fuel (d+9)) (.func 66 []) [.ptr vp 0,.int 3 q] H k=k (.int 3 (if m.ae.length<q then 2 else(j8 pk A a (OA {m with tok:=nY} q) []).2)) H')/\nD H H' dp vp O O' m vl vs vi (if m.ae.length<q then A else(j8 pk A a (OA {m with tok:=nY} q) []).1) (if m.ae.length<q then m else HX pk A a m (OA {m with tok:=nY} q) []) (if m.ae.length<q then false else Rp pk A a (OA {m with tok:=nY} q) []):=by
 have hn0:=S.ok.num;obtain⟨G0,hG0,f0,p0,n0⟩:=Heap.aR S.cO.wf (.cells [.int 3 q]);have S0:=S.fresh f0;obtain⟨G1,z1,s1,D1,n1,g1,k1⟩:=ju (cp:=cp) (fuel:=fuel) T hc S0.cO S0.get S0.vn S0.vo;rw[S.off]at z1 g1;have z1:=λ{d}{k}=>z1 (d+5) k;have S1:VP G1 dp vp a n A O m vl vs vi:=⟨D1,S.off,S.can,S.lo,S.hi,g1,by rw[n1];exact S0.vn,S.vo,S0.lO.cm s1,S.ok⟩;have hne:H.n≠vp:=by have:=S.vn;omega
 have p1:=(k1 _ hne).trans p0;have s01:=f0.step.trans s1;have w0:=S.cO.wf;have g1':=g1;simp only[vc,aS,bu,YK,YJ]at g1';have sn:=λ{id}{f:Nat->R}=>(let⟨_,h,_⟩:=S1.lO.ae;h.sn:bD id vs (λ_ _ len _ _=>f len) (f 0)=f m.ae.length);have a1:=l_ m.ae.length;have a2:=n_ m.ae.length;have a3:=n_ 0;have a4:¬q<0:=by omega
 by_cases h0:m.ae.length<q;.simp only[if_pos h0];refine⟨G1,O,λd k=>?_,S1.done.before s01⟩;rw[aI T.k33 rfl rfl];simp only[go_sem,c33,w0,hG0,↓z1,p1,g1',↓sn,a1,a2,a3,a4,hq,h0,YT,or_self]
 .simp only[if_neg h0];obtain⟨G2,hG2,f2,p2,n2⟩:=Heap.aR D1.wf (.cells [.func 114 [],.func 156 [.ptr H.n 0]]);have p12:=(f2.same _ (by omega)).trans p1;obtain⟨H',O',z3,hd⟩:=jg (bw:=[]) T hc F hp f2 S1 Y' (λw h=>by cases h) (by decide) p2 (by omega) (by show 2<1000;omega) (λf hf=>by rcases YS.1 hf with rfl|hf;rfl;rw[YM.1 hf];rfl) (λB G vl1 vs1 vi1 fG ts=>by obtain⟨G',zt,ts',kt⟩:=nB T ts;have hlo:=ts.lo;have hQ:∀b,b<G1.n->b<G2.n:=λb h=>YF h f2.n;obtain⟨G'',vl2,vs2,zr,fr,hr,pr,mr,kr⟩:=zG (cp:=cp) T ts' S.ok.drop ((kt _ (by omega)).trans ((fG.same _ (by omega)).trans p12)) (by omega) (Nat.le_of_not_lt h0) hQ himg hpos;exact⟨G'',vl2,vs2,.aC,⟨G',λd k=>zt (d+4) k,kt _ (by omega),G'',λd k=>zr (d+4) k,kr _ (by omega),rfl⟩,f2.trans fr,hr,pr,mr,rfl,λx hx=>(by cases hx),YH ⟨YH rfl,rfl⟩⟩) hfu;have z3:∀{d}{k},aj (aT cp t fuel (d+8)) (.func 112 []) [.ptr vp 0,.aC,.slice G1.n 0 2 3 0] G2 k=k (.int 3 (j8 pk A a (OA {m with tok:=nY} q) []).2) H':=λ{d k}=>z3 d k;refine⟨H',O',λd k=>?_,hd.before s01⟩;have w1:=D1.wf;rw[aI T.k33 rfl rfl];simp only[go_sem,c33,w0,hG0,↓z1,p1,g1',↓sn,a1,a2,a3,a4,hq,h0,w1,hG2,↓z3,YT,or_self]
end
theorem dG{m}{q}{s}(hs:m.ae[q]?=some s)(hq:m.ae.length=q+1):cz m=s:=by show m.ae.getLast?.getD _=_;rw[YA2,hq,Wn,hs];rfl
theorem ee{m}(h:m.ae.length=0):cz m=⟨(0,0),YZ m.live.length 0,false⟩:=by show m.ae.getLast?.getD _=_;simp_all
theorem xU{m}(h:jH m):jN (cz m).g:=by
 rcases hm:m.ae.getLast? with _|s
 .have:cz m=⟨(0,0),YZ m.live.length 0,false⟩:=by unfold cz;simp_all
  rw[this];have z:(0:Nat)<18446744073709551616:=by omega
  exact⟨z,z⟩
 .have:cz m=s:=by unfold cz;simp_all
  rw[this];exact(h.ae s (List.mem_of_getLast? hm)).1
def Ut(m:MT)(g:Gd):MT:={m with tok:=nY,ae:=m.ae++[⟨g,m.live,false⟩]}
section
variable{cp:RC->au}{t:Nat->Option dr}{fuel:Nat}{H:Heap}{pk:List UInt8->List (List UInt8)}{unpk:List (List UInt8)->Option (List UInt8)}
theorem tL(T:aB t){m:MT}{vl vs vi:V}{vp dp:Nat}{lost:Bool}{Q:Nat->Prop}(hw:H.wf)(hV:H.get vp=.cells (vc m vl vs vi dp lost))(hVn:vp<H.n)(M:jO H Q m vl vs vi)(Y:jH m)(hQ:∀b,Q b->b<H.n):∃H' x,(∀(d:Nat)(k:K),aj (aT cp t fuel (d+1)) (.func 108 []) [.ptr vp 0] H k=k (.agg (bN (cz m) x)) H')/\ah H H'/\cF H' Q x (cz m).bP:=by
 have l1:=Y.live.1;have l2:=Y.num;have hV':=hV;simp only[vc,aS,bu,YK,YJ]at hV';have sn:=λ{id}{f:Nat->R}=>(let⟨_,h,_⟩:=M.ae;h.sn:bD id vs (λ_ _ len _ _=>f len) (f 0)=f m.ae.length);have sl:=λ{id}{f}=>M.live.sn (id:=id) (f:=f);have a1:=by omega
 have a2:=n_ m.ae.length;have a3:=n_ 0;have a4:=l_ m.live.length;obtain⟨G1,hG1,f1,p1,n1⟩:=Heap.aR hw (.cells [.int 7 0,.int 7 0,.aC,.bool false]);have g1:=(f1.same _ hVn).trans hV';have w1:=f1.wf;have b1:H.n<G1.n:=by omega
 by_cases h0:m.ae.length=0
 .rw[ee h0];obtain⟨G2,f2,o2,g2,n2,z2⟩:=tM (n:=m.live.length) (x:=V.int 3 0) rfl w1 rfl (by omega) (YC _);obtain⟨G3,hG3,f3,p3,n3,w3,k3⟩:=Heap.aZ (f1.trans f2) (YC _) (by omega) (.cells [.int 7 0,.int 7 0,.slice G1.n 0 m.live.length (m.live.length+1) 0,.bool false]);have p2:=(f2.same _ (by omega)).trans p1;have w2:=f2.wf;have b2:H.n<G2.n:=by omega
  have z2:=λ{id}{ph}{e}{k}(h1:aA uS e=.int 3 m.live.length)=>z2 (id:=id) (ph:=ph) (k:=k) h1;have nz:=by omega
  refine⟨G3,.slice G1.n 0 m.live.length (m.live.length+1) 0,λd k=>?_,f3,?_⟩;.rw[aI T.k54 rfl rfl];simp only[go_sem,ZE,c54,hw,hG1,g1,↓sn,a1,a3,a4,h0,↓z2,p2,w2,b2,hG3,↓dR,p3,bN]
  .have:=o2.fR (v:=.slice H.n 0 0 0 0) (by omega) (λj hj ho=>k3 j (ho _ _ _ _ _ rfl)) λb o n c s e b' o' n' c' s' e'=>by cases e';cases e;omega
   have h:=this.toRow λb h=>by have:=hQ b h;omega
   unfold cF;rw[WT,Wc];exact h
 .obtain⟨q,hq⟩:∃q,m.ae.length=q+1:=⟨m.ae.length-1,by omega⟩;have hlt:q<m.ae.length:=by omega
  obtain⟨b,o,c,z,x,hvs,hbn,hbQ,hI,hrd⟩:=M.ae.open hlt;have hsq:=YA hlt;rw[dG hsq hq];generalize m.ae[q]=s at hI hrd;have hrd:=λ{id}{k}=>hrd (f1.same _ hbn) (id:=id) (k:=k);obtain⟨G2,hG2,f2,p2,n2,w2,k2⟩:=Heap.aZ f1 (YC _) b1 (.cells (bN s x));have jx:=λ{id}{k}=>aM hI.one (id:=id) (k:=k);refine⟨G2,x,λd k=>?_,f2,hI.fresh f2⟩;have a5:=n_ q;have a6:=l_ q;have a7:(q+1+18446744073709551615)%18446744073709551616=q:=by omega
  have a8:=l_ (q+1);have a9:0<q+1:=by omega
  have a10:q<q+1:=by omega
  have a11:=n_ (q+1);simp only[bN]at hrd hG2 p2⊢;rw[hq]at sn hvs;subst hvs;rw[aI T.k54 rfl rfl];simp only[go_sem,c54,hw,hG1,g1,a3,a6,a7,a8,a9,a10,a11,↓hrd,↓jx,p1,w1,b1,hG2,↓dR,p2]
theorem N7(T:aB t)(hc:aP t)(F:bC pk unpk)(hp:t 110=some (.nat (dC pk))){dp vp a n:Nat}{g:Gd}{A:AD}{O:Nat->Prop}{m:MT}{vl vs vi:V}(S:VP H dp vp a n A O m vl vs vi)(hg:jN g)(Y':jH (Ut m g))(hfu:1000000<fuel):∃H' O',(∀(d:Nat)(k:K),aj (aT cp t fuel (d+9)) (.func 60 []) [.ptr vp 0,.agg (aY g)] H k=k (.int 3 (if dJ g (cz m).g=false then 2 else if 20<=m.ae.length then 3 else(j8 pk A a (Ut m g) []).2)) H')/\nD H H' dp vp O O' m vl vs vi (if dJ g (cz m).g=false\/20<=m.ae.length then A else(j8 pk A a (Ut m g) []).1) (if dJ g (cz m).g=false\/20<=m.ae.length then m else HX pk A a m (Ut m g) []) (if dJ g (cz m).g=false\/20<=m.ae.length then false else Rp pk A a (Ut m g) []):=by
 have hn0:=S.ok.num;obtain⟨G0,hG0,f0,p0,n0⟩:=Heap.aR S.cO.wf (.cells (aY g));have S0:=S.fresh f0;obtain⟨G1,z1,s1,D1,n1,g1,k1⟩:=ju (cp:=cp) (fuel:=fuel) T hc S0.cO S0.get S0.vn S0.vo;rw[S.off]at z1 g1;have z1:=λ{d}{k}=>z1 (d+5) k;have S1:VP G1 dp vp a n A O m vl vs vi:=⟨D1,S.off,S.can,S.lo,S.hi,g1,by rw[n1];exact S0.vn,S.vo,S0.lO.cm s1,S.ok⟩;have hne:H.n≠vp:=by have:=S.vn;omega
 have p1:=(k1 _ hne).trans p0;have s01:=f0.step.trans s1;have w0:=S.cO.wf;have wm:G1.mark.wf:=by exact D1.wf
 obtain⟨Gm',x,zl',fl',-⟩:=tL T wm g1 S1.vn (S1.lO.fresh (ah.Fp D1.wf)) S.ok S1.lt;obtain⟨Gm,G2,zl,hu2,hl2,f2⟩:=qx (cp:=cp) (fuel:=fuel) ⟨Gm',zl',fl'⟩;obtain⟨G3,za,f3⟩:=wq (cp:=cp) (fuel:=fuel) T f2.wf hg (xU S.ok);have zl:=λ{d}{k}=>zl d k;have za:=λ{d}{k}=>za d k;have f13:=f2.trans f3;have S3:=S1.fresh f13;have p3:=(f13.same _ (by omega)).trans p1;have g3':=S3.get;simp only[vc,aS,bu,YK,YJ]at g3';have sn:=λ{id}{f:Nat->R}=>(let⟨_,h,_⟩:=S1.lO.ae;h.sn:bD id vs (λ_ _ len _ _=>f len) (f 0)=f m.ae.length);have a1:=l_ m.ae.length;have a2:=n_ m.ae.length;have a3:=n_ 20;have p1':=p1;simp only[aY]at p1' za;have s13:=s01.trans f13.step;simp only[bN]at zl;simp only[aY]at hG0;rcases hab:dJ g (cz m).g with _|_;.rw[hab]at za;refine⟨G3,O,λd k=>?_,S3.done.before s13⟩;rw[aI T.k30 rfl rfl];simp only[go_sem,c30,aY,w0,hG0,↓z1,p1',↓zl,hu2,hl2,↓za,YT,or_self,YE0]
 .rw[hab]at za;by_cases h20:20<=m.ae.length;.simp only[Qf,if_false,h20,or_true,if_true];refine⟨G3,O,λd k=>?_,S3.done.before s13⟩;rw[aI T.k30 rfl rfl];simp only[go_sem,c30,aY,w0,hG0,↓z1,p1',↓zl,hu2,hl2,↓za,g3',↓sn,a1,a2,a3,h20,YT,or_self,WX]
  .simp only[Qf,if_false,h20,or_self];obtain⟨G4,hG4,f4,p4,n4⟩:=Heap.aR f3.wf (.cells [.func 114 [],.func 152 [.ptr H.n 0]]);have m3:=f3.n;have m2:=f2.n;have p34:=(f4.same _ (by omega)).trans p3;obtain⟨H',O',z3,hd⟩:=jg (bw:=[]) T hc F hp f4 S3 Y' (λw h=>by cases h) (by decide) p4 (by omega) (by show 2<1000;omega) (λf hf=>by rcases YS.1 hf with rfl|hf;rfl;rw[YM.1 hf];rfl) (λB G vl1 vs1 vi1 fG ts=>by obtain⟨G',zt,ts',kt⟩:=nB T ts;have hlo:=ts.lo;have hQ:∀b,b<G3.n->b<G4.n:=λb h=>YF h f4.n;have mt:=ts'.f.n;obtain⟨G'',vs2,zr,fr,hr,pr,mr,kr⟩:=Ob (cp:=cp) T ts' S.ok.drop ((kt _ (by omega)).trans ((fG.same _ (by omega)).trans p34)) (by omega) (by omega) hQ;exact⟨G'',vl1,vs2,.aC,⟨G',λd k=>zt (d+4) k,kt _ (by omega),G'',λd k=>zr (d+3) k,kr _ (by omega),rfl⟩,f4.trans fr,hr,pr,mr,rfl,λx hx=>(by cases hx),YH ⟨YH rfl,rfl⟩⟩) hfu;have z3:∀{d}{k},aj (aT cp t fuel (d+8)) (.func 112 []) [.ptr vp 0,.aC,.slice G3.n 0 2 3 0] G4 k=k (.int 3 (j8 pk A a (Ut m g) []).2) H':=λ{d k}=>z3 d k;refine⟨H',O',λd k=>?_,hd.before s13⟩;have w3:=f3.wf;rw[aI T.k30 rfl rfl];simp only[go_sem,c30,aY,w0,hG0,↓z1,p1',↓zl,hu2,hl2,↓za,g3',↓sn,a1,a2,a3,h20,w3,hG4,↓z3,YT,or_self,WX]
end
open Go.Proofs
theorem EG{cs}{x}(h:x∈cI cs):x<cs.length:=List.mem_range.1 (List.mem_filter.1 h).1
def fZ(m:MT)(n:Nat)(cs:List Wr):List Nat:=(cI (eK m n)).take (fv cs cs.length)
theorem KQ{m}{n i}{cs}(hn:n<=1024):(fZ m n cs).getD i 0<1024:=by
 rw[YD];rcases h:(fZ m n cs)[i]?with _|x;.simp
 .have h1:=EG (WI (Yk h));rw[eK,dB]at h1;show x<1024;omega
theorem Jp{cs}{m}{n}(hn:n<=1024)(hc:∀c∈cs,c.2.1<1000000/\sO c.2):∀i,i<=cs.length->∀w∈Dd cs (fZ m n cs) i,w.1<18446744073709551616/\w.2.1<1000000/\sO w.2
 |0,_,w,h=>by cases h|i+1,hi,w,h=>by
  rcases Yo.1 h with h|h;.exact Jp hn hc i (by omega) w h
  .split at h;.cases h
   .rw[YM.1 h];have hl:=KQ (m:=m) (i:=fv cs i) (cs:=cs) hn;have hm:cs.getD i (0,(32,0))∈cs:=by rw[YD,YA (show i<cs.length by omega)];simp
    exact⟨by omega,hc (cs.getD i (0,(32,0))) hm⟩
def OB(m:MT)(n block:Nat)(d:Tx):MT:={m with live:=m.live.set block ((xY [(block,d)] (fZ m n [(block,d)]) 1).getD 0 0)}
def OC(m:MT)(n block:Nat)(d:Tx):List Wr:=Dd [(block,d)] (fZ m n [(block,d)]) 1
def iU(m:MT)(n block:Nat)(d:Tx):Prop:=(cI (eK m n)).length<fv [(block,d)] 1
instance(m:MT)(n block:Nat)(d:Tx):Decidable (iU m n block d):=inferInstanceAs(Decidable (_<_))
section
variable{t:Nat->Option dr}{fuel:Nat}{H:Heap}{pk:List UInt8->List (List UInt8)}{unpk:List (List UInt8)->Option (List UInt8)}
set_option maxRecDepth 4000in theorem GV(T:aB t)(hc:aP t)(F:bC pk unpk)(hp:t 110=some (.nat (dC pk))){dp vp a n block:Nat}{data:List UInt8}{A:AD}{O:Nat->Prop}{m:MT}{vl vs vi:V}(S:VP H dp vp a n A O m vl vs vi)(hbk:block<18446744073709551616)(hdl:data.length<1000000)(hok:∀l∈cU m,∀a∈l,a≠0->193<=a/\a<A.len)(hfl:(cU m).flatten.length<1000000)(Y':su m block data=true->jH (OB m A.len block (tx data)))(hfu:1000000<fuel):∃H' O',(∀(d:Nat)(k:K),aj (aT (aN Tryz.prog) t fuel (d+9)) (.func 48 []) [.ptr vp 0,.int 3 block,tv data] H k=k (.int 3 (if su m block data=false then 2 else if iU m A.len block (tx data)then 7 else(j8 pk A a (OB m A.len block (tx data)) (OC m A.len block (tx data))).2)) H')/\nD H H' dp vp O O' m vl vs vi (if su m block data=false\/iU m A.len block (tx data)then A else(j8 pk A a (OB m A.len block (tx data)) (OC m A.len block (tx data))).1) (if su m block data=false\/iU m A.len block (tx data)then m else HX pk A a m (OB m A.len block (tx data)) (OC m A.len block (tx data))) (if su m block data=false\/iU m A.len block (tx data)then false else Rp pk A a (OB m A.len block (tx data)) (OC m A.len block (tx data))):=by
 have hn0:=S.ok.num;have hl0:=S.ok.live.1;obtain⟨G0,hG0,f0,p0,n0⟩:=Heap.aR S.cO.wf (.cells [.int 3 block]);have S0:=S.fresh f0;obtain⟨G1,z1,s1,D1,n1,g1,k1⟩:=ju (cp:=aN Tryz.prog) (fuel:=fuel) T hc S0.cO S0.get S0.vn S0.vo;rw[S.off]at z1 g1;have z1:=λ{d}{k}=>z1 (d+5) k;have S1:VP G1 dp vp a n A O m vl vs vi:=⟨D1,S.off,S.can,S.lo,S.hi,g1,by rw[n1];exact S0.vn,S.vo,S0.lO.cm s1,S.ok⟩;have hne:H.n≠vp:=by have:=S.vn;omega
 have p1:=(k1 _ hne).trans p0;have s01:=f0.step.trans s1;have w0:=S.cO.wf;have w1:=D1.wf;have zm:=λ{d}{k}=>Ou (cp:=aN Tryz.prog) (fuel:=fuel) T g1 S1.lO (by omega) hbk hdl d k;have hmb:(decide (block<9223372036854775808)&&su m block data)=su m block data:=by
  unfold su;by_cases h:block<m.live.length;.rw[decide_eq_true (show block<9223372036854775808by omega),Bool.true_and]
  .rw[decide_eq_false h,Qn,Qp]
 rw[hmb]at zm;simp only[tv]at zm;rcases hmay:su m block data with _|_;.rw[hmay]at zm;simp only[if_true,true_or];refine⟨G1,O,λd k=>?_,S1.done.before s01⟩;simp only[tv];rw[aI T.k24 rfl rfl];simp only[go_sem,c24,w0,hG0,↓z1,p1,↓zm,YT,or_self,YE0]
 .rw[hmay]at zm;simp only[Qf,if_false,false_or];have hblk:=by unfold su at hmay;rw[Bool.and_eq_true,decide_eq_true_eq]at hmay;exact hmay.1
  obtain⟨G2,hG2,f2,p2,n2⟩:=Heap.aR w1 (.cells [.int 3 block,.str data.length (enc data)]);have S2:=S1.fresh f2;have hX:Row G2 (bz O vp) (.slice G1.n 0 1 2 0) 2 1 (bK [(block,tx data)]):=⟨rfl,(λx hx=>by rcases YS.1 hx with rfl|hx;rfl;rw[YM.1 hx];rfl),YE ⟨_,0,2,0,_,rfl,YH p2,by omega,λh=>by have:=S1.lt _ h;omega,by show 0+1*2<=2;omega,rfl⟩⟩;obtain⟨G3,va,vw,z3,f3,hva,hvw,h3⟩:=xZ T hc S2.cO S2.get S2.vn S2.lO S.ok hX (by show 1<1000;omega) S.hi hok S2.lt hfl hfu;have z3:=λ{d}{k}=>z3 (d+3) k;obtain⟨G4,hG4,f4,p4,n4⟩:=Heap.aR f3.wf (.cells [.aC]);obtain⟨G5,hG5,f5,p5,n5,w5,k5⟩:=Heap.aZ f4 (YC _) (by omega) (.cells [va]);have S5:=(S2.fresh f3).fresh f5;have s15:=s01.trans ((f2.trans f3).trans f5).step;have ja:=λ{id}{k}=>aM hva (id:=id) (k:=k);have jw:=λ{id}{k}=>aM hvw (id:=id) (k:=k);have w3:=f3.wf;have w4:=f4.wf;have b4:G3.n<G4.n:=by omega
  have m3:=f3.n;have p15:=((f2.trans f3).trans f5).same _ (by omega)|>.trans p1;by_cases hfull:iU m A.len block (tx data);.simp only[if_pos hfull];rw[show(if(cI (eK m A.len)).length<fv [(block,tx data)] [(block,tx data)].length then 7 else 0)=7from if_pos hfull]at z3;refine⟨G5,O,λd k=>?_,S5.done.before s15⟩;simp only[tv];rw[aI T.k24 rfl rfl];simp only[go_sem,c24,w0,hG0,↓z1,p1,↓zm,YT,or_self,WX,w1,hG2,↓z3,w3,hG4,p4,↓ja,w4,b4,hG5]
  .simp only[if_neg hfull];rw[show(if(cI (eK m A.len)).length<fv [(block,tx data)] [(block,tx data)].length then 7 else 0)=0from if_neg hfull]at z3;obtain⟨oa,ow⟩:=h3 hfull;obtain⟨G6,hG6,f6,p6,n6⟩:=Heap.aR w5 (.cells [.func 138 [.ptr H.n 0,.ptr G3.n 0]]);have hQ5:=λb h=>S2.lt b h;have hwl:fv [(block,tx data)] 1<=1:=kM _ _;have hplw:(OC m A.len block (tx data)).length=fv [(block,tx data)] 1:=vR _ _ _;have ra:Row G5 (bz O vp) va 1 1 ((xY [(block,tx data)] (fZ m A.len [(block,tx data)]) 1).map (V.int 3)):=(oa.toRow hQ5).fresh f5;have rw_:Row G5 (bz O vp) vw 2 (OC m A.len block (tx data)).length (bK (OC m A.len block (tx data))):=by rw[hplw];exact(ow.toRow hQ5).fresh f5
   have hpl1:(xY [(block,tx data)] (fZ m A.len [(block,tx data)]) 1).length=1:=nh _ _ _;obtain⟨p,hpp⟩:∃p,xY [(block,tx data)] (fZ m A.len [(block,tx data)]) 1=[p]:=List.length_eq_one_iff.1 hpl1;have hpn:nn p:=by
    have:(xY [(block,tx data)] (fZ m A.len [(block,tx data)]) 1).getD 0 0<1024:=by
     show(if _ then 0 else _)<1024;split;.omega
     .exact KQ S.hi
    rw[hpp]at this;have:p<1024:=this;unfold nn;omega
   have hwrm:OB m A.len block (tx data)={m with live:=m.live.set block p}:=by unfold OB;rw[hpp];rfl
   have Yw:=Y' hmay;have p36:=(f6.same _ (by omega)).trans p5;have p16:=(f6.same _ (by omega)).trans p15;have hbw:=Jp (cs:=[(block,tx data)]) (m:=m) S.hi (λc hc=>by rw[YM.1 hc];exact⟨hdl,iM _⟩) 1 (YC 1);obtain⟨H',O',z7,hd⟩:=jg (bw:=OC m A.len block (tx data)) T hc F hp f6 S5 Yw hbw (by omega) p6 (by omega) (by show 1<1000;omega) (λf hf=>by rw[YM.1 hf];rfl) (λB G vl1 vs1 vi1 fG ts=>by have hlo:=ts.lo;have mG:=fG.n;have hQ:∀b,b<G5.n->b<G6.n:=λb h=>YF h f6.n;obtain⟨G',vl2,zw,fw,hw',pw,mw,kw⟩:=J7 (cp:=aN Tryz.prog) T ts S.ok ((fG.same _ (by omega)).trans p16) ((fG.same _ (by omega)).trans p36) (by have:=((ra.fresh f6).fresh fG);rw[hpp]at this;exact this) rfl hpn hblk hQ;rw[hwrm];have hf:=f6.trans fw;refine⟨G',vl2,vs1,vi1,⟨G',λd k=>zw (d+2) k,kw _ (by omega) (by omega),rfl⟩,hf,hw',pw,mw,rw_.fresh hf⟩) hfu;have z7:∀{d}{k},aj (aT (aN Tryz.prog) t fuel (d+8)) (.func 112 []) [.ptr vp 0,vw,.slice G5.n 0 1 2 0] G6 k=k (.int 3 (j8 pk A a (OB m A.len block (tx data)) (OC m A.len block (tx data))).2) H':=λ{d k}=>z7 d k;refine⟨H',O',λd k=>?_,hd.before s15⟩;simp only[tv];rw[aI T.k24 rfl rfl];simp only[go_sem,c24,w0,hG0,↓z1,p1,↓zm,YT,or_self,WX,w1,hG2,↓z3,w3,hG4,p4,↓ja,w4,b4,hG5,w5,hG6,↓z7]
end
end Go.Ev
end
section
namespace Go.Ev
section
variable{cp:RC->au}{t:Nat->Option dr}{fuel:Nat}{H:Heap}
theorem Dx(T:aB t){dp vp a n}{A}{O}{m}{vl vs vi}(S:VP H dp vp a n A O m vl vs vi)(d)(k):aj (aT cp t fuel (d+1)) (.func 56 []) [.ptr vp 0] H k=k (.int 3 m.live.length) H:=by
 have g:=S.get;simp only[vc,aS,bu,YK,YJ]at g;have sl:=λ{id}{f}=>S.lO.live.sn (id:=id) (f:=f);have a1:m.live.length<9223372036854775808:=by have:=S.ok.live.1;omega
 rw[aI T.k28 rfl rfl];simp only[go_sem,c28,g,↓sl,a1]
theorem Nq(T:aB t)(hc:aP t){dp vp a n}{A}{O}{m}{vl vs vi}(S:VP H dp vp a n A O m vl vs vi)(hlp:∀p∈m.live,p<A.len)(hfu:1000<fuel):∃H' v',(∀(d)(k),aj (aT cp t fuel (d+5)) (.func 46 []) [.ptr vp 0] H k=k (.cG [v',.int 3 0]) H')/\Step H (bz O vp) H' (bz O vp)/\VP H' dp vp a n A O m vl vs vi/\Own H H' v' 1 m.live.length (m.live.map λp=>sv (cw A p)):=by have hl0:=S.ok.live.1;obtain⟨G1,z1,s1,D1,n1,g1,k1⟩:=ju (cp:=cp) (fuel:=fuel) T hc S.cO S.get S.vn S.vo;rw[S.off]at z1 g1;have z1:=λ{d}{k}=>z1 (d+1) k;have S1:VP G1 dp vp a n A O m vl vs vi:=⟨D1,S.off,S.can,S.lo,S.hi,g1,by rw[n1];exact S.vn,S.vo,S.lO.cm s1,S.ok⟩;obtain⟨G2,v',z2,f2,o2⟩:=lF (cp:=cp) T hc D1 S.off g1 S1.vn S1.lO.live (by omega) hlp S.hi hfu;have z2:=λ{d}{k}=>z2 d k;have g1':=g1;simp only[vc,aS,bu,YK,YJ]at g1';refine⟨G2,v',λd k=>?_,s1.trans f2.step,S1.fresh f2,o2.sub (by omega)⟩;rw[aI T.k23 rfl rfl];simp only[go_sem,c23,↓z1,g1',↓z2,YT,or_self]
end
section
variable{cp:RC->au}{t:Nat->Option dr}{fuel:Nat}{H:Heap}{O:Nat->Prop}
theorem Vo(T:aB t){s}{x}{g}{cg}(hw:H.wf)(hx:x.one=true)(gg:H.get cg=.cells (aY g))(hn:cg<H.n):∃H',(∀(d)(k),aj (aT cp t fuel (d+1)) (.func 230 [.ptr cg 0]) [.agg (bN s x)] H k=k (.bool (decide (s.g=g))) H')/\ah H H':=by
 obtain⟨G1,hG1,f1,p1,n1⟩:=Heap.aR hw (.cells (bN s x));have g1:=(f1.same _ hn).trans gg;have jx:=λ{id}{k}=>aM hx (id:=id) (k:=k);refine⟨G1,λd k=>?_,f1⟩;obtain⟨⟨s1,s2⟩,im,hd⟩:=s;obtain⟨g1',g2'⟩:=g;simp only[bN,aY]at hG1 p1 g1;rw[ay T.aea rfl rfl];simp only[YK,YJ];by_cases h1:s1=g1'
 .by_cases h2:s2=g2';.subst h1;subst h2;simp only[go_sem,UO,bN,↓jx,hw,hG1,p1,g1,bB,bU,cW,decide_true]
  .subst h1;have hne:¬((s1,s2):Gd)=(s1,g2'):=λh=>h2 (congrArg YS0 h);simp only[go_sem,UO,bN,↓jx,hw,hG1,p1,g1,bB,bU,h2,hne,decide_false]
 .have hne:¬((s1,s2):Gd)=(g1',g2'):=λh=>h1 (congrArg YH3 h);simp only[go_sem,UO,bN,↓jx,hw,hG1,p1,g1,bB,bU,h1,hne,decide_false]
def qZ(ss:List Sn)(g:Gd):Option Nat:=ss.findIdx? λs=>decide (s.g=g)
theorem IL(T:aB t){vs:V}{ss:List Sn}{g:Gd}{cg:Nat}(hw:H.wf)(hS:fC H O vs ss)(hn:ss.length<1000)(gg:H.get cg=.cells (aY g))(hcn:cg<H.n)(hfu:1000<fuel):∃H',(∀(d:Nat)(k:K),aj (aT cp t fuel (d+2)) (.func 228 []) [vs,.func 230 [.ptr cg 0]] H k=k (.int 3 ((qZ ss g).getD 18446744073709551615)) H')/\ah H H':=by
 have nl:=n_ ss.length;have sn:=λ{id}{f:Nat->R}=>(let⟨_,h,_⟩:=hS;h.sn:bD id vs (λ_ _ len _ _=>f len) (f 0)=f ss.length);have a0:=l_ ss.length;have run:=jT (c:=wC) (fuel:=fuel) (ph:=λd=>aT cp t fuel (d+1)) (I:=λi _ G=>ah H G/\∀(j)(s),j<i->ss[j]?=some s->s.g≠g) (S:=λi _ e=>af s000 e=vs/\af s001 e=.func 230 [.ptr cg 0]/\af s007 e=.int 3 ss.length/\af s010 e=.int 3 i) (J:=λq G=>ah H G/\qZ ss g=some q) (Q:=λq e=>af s004 e=.int 3 q) (j:=λ_=>0) (λi _ G hil⟨f,hno⟩=>by
   obtain⟨b,o,c,z,x,rfl,hbn,-,hI,hrd⟩:=hS.open hil;have hsi:=YA hil;have hrd:=λ{id}{k}=>hrd (f.same _ hbn) (id:=id) (k:=k);have hidx:ss[i].g=g->qZ ss g=some i:=λh=>by unfold qZ;rw[QM];refine⟨hil,decide_eq_true h,λj hj=>?_⟩;have:=hno j ss[j] hj (YA (by omega));exactλh=>this (of_decide_eq_true h)
   generalize hsd:ss[i]=s at hsi hI hrd hidx;obtain⟨G1,z1,f1⟩:=Vo (cp:=cp) (fuel:=fuel) T f.wf hI.one ((f.same _ hcn).trans gg) (YF hcn f.n);have z1:∀{d}{k:K},_=k (.bool (decide (s.g=g))) G1:=λ{d}{k}=>z1 d k;have a1:=n_ i;have a2:=l_ i;have a3:=m_ (i+1);by_cases h:s.g=g;.refine YE ⟨i,G1,⟨f.trans f1,hidx h⟩,λd kx r e y⟨q0,q1,q7,q10⟩hk=>?_⟩;simp only[decide_eq_true h]at z1;rw[ak];simp only[go_sem,wC,q0,q1,q7,q10,hil,nl,a1,a2,↓hrd,↓z1];refine hk _ ?_;simp only[go_sem,↓reduceIte]
   .refine YH ⟨(),G1,⟨f.trans f1,λj s' hj hs'=>?_⟩,λd kx r e y⟨q0,q1,q7,q10⟩hk=>?_⟩
    .by_cases hji:j<i;.exact hno j s' hji hs'
     .obtain rfl:j=i:=by omega
      rw[hsi]at hs';cases hs';exact h
    rw[ak];simp only[go_sem,wC,q0,q1,q7,q10,hil,nl,a1,a2,a3,↓hrd,↓z1,h,decide_false];exact hk _ (by simp only[go_sem,q0,q1,q7,and_self])) ss.length 0 () H (by omega) ⟨ah.refl hw,λj s hj=>by omega⟩;rcases run with⟨_,G',⟨f',hno⟩,z⟩|⟨q,G',⟨f',hq⟩,z⟩
 .have Az:qZ ss g=none:=by unfold qZ;rw[List.findIdx?_eq_none_iff];intro s hs;obtain⟨j,hj,rfl⟩:=List.getElem_of_mem hs;have:=hno j _ hj (YA hj);simpa using this
  rw[Az];refine⟨G',λd k=>?_,f'⟩;rw[aI T.abb rfl rfl];simp only[go_sem,aaz,↓sn,a0];refine z d _ fuel _ _ (by omega) ⟨?_,?_,?_,?_⟩ λr e'⟨q0,q1,q7,q10⟩=>?_;.rfl
  .rfl
  .rfl
  .rfl
  have e6:¬ss.length<ss.length:=by omega
  rw[ak];simp only[go_sem,wC,q7,q10,nl,e6,Ww]
 .rw[hq];refine⟨G',λd k=>?_,f'⟩;rw[aI T.abb rfl rfl];simp only[go_sem,aaz,↓sn,a0];refine z d _ fuel _ _ (by omega) ⟨?_,?_,?_,?_⟩ λe' q4=>?_;.rfl
  .rfl
  .rfl
  .rfl
  simp only[go_sem,q4,YU]
end
theorem Row.cell{H:Heap}{O:Nat->Prop}{v:V}{sz n:Nat}{row:List V}(h:Row H O v sz n row)(hn:0<n):∃b o c s,v=.slice b o n c s/\b<H.n/\¬O b/\∀{G:Heap},G.get b=H.get b->∀{j:Nat}{x:V},row[j]?=some x->∀{id:Nat}{k:V->R},FO id (G.get b) (o+j) k=k x:=by
 obtain⟨h1,h2,h|⟨b,o,c,z,l,g1,g2,g3,g4,g5,g6⟩⟩:=h;.omega
 refine⟨b,o,c,z,g1,g3,g4,λ{G}hG{j x}hx{id k}=>?_⟩;have hlt:j<n*sz:=by rw[<-h1];exact(YW.1 hx).1
 have hx':=hx;rw[<-g6,Yy,if_pos hlt,WG]at hx;rw[hG];exact yf g2 hx (h2 x (Yk hx'))
theorem fC.hid{H:Heap}{O:Nat->Prop}{v:V}{ss:List Sn}(h:fC H O v ss){i:Nat}(hi:i<ss.length):∃b o c s,v=.slice b o ss.length c s/\b<H.n/\¬O b/\∀{G:Heap},G.get b=H.get b->∀{id:Nat}{k:V->R},FO id (G.get b) (o+i*4+3) k=k (.bool ss[i].hid):=by
 obtain⟨xs,hR,hl,hx⟩:=h;obtain⟨x,hxi,-⟩:=hx i _ (YA hi);obtain⟨b,o,c,z,g1,g2,g3,g4⟩:=hR.cell (by omega);refine⟨b,o,c,z,g1,g2,g3,λ{G}hG{id k}=>?_⟩;have e:=pV (YA hi) hxi;have e2:(((dy ss xs).drop (i*4)).take 4)[3]?=some (.bool ss[i].hid):=by rw[e];rfl
 rw[Yy,if_pos (by omega),WG]at e2;rw[YB2];exact g4 hG e2
theorem BW{ss}{g}{i}(h:qZ ss g=some i):∃hi:i<ss.length,ss[i].g=g:=by unfold qZ at h;rw[QM]at h;obtain⟨h1,h2,-⟩:=h;simp_all
def cT(m:MT)(g:Gd):Nat×Nat:=match qZ m.ae g with|none=>(0,5)|some i=>if(m.ae.getD i ⟨(0,0),[],false⟩).hid=true then(0,14)else(i,0)
section
variable{cp:RC->au}{t:Nat->Option dr}{fuel:Nat}{H:Heap}
theorem Au(T:aB t)(hc:aP t){dp vp a n}{g}{A}{O}{m}{vl vs vi}(S:VP H dp vp a n A O m vl vs vi)(hfu:1000<fuel):∃H',(∀(d)(k),aj (aT cp t fuel (d+4)) (.func 154 []) [.ptr vp 0,.agg (aY g)] H k=k (.cG [.int 3 (cT m g).1,.int 3 (cT m g).2]) H')/\Step H (bz O vp) H' (bz O vp)/\VP H' dp vp a n A O m vl vs vi:=by
 have hn0:=S.ok.num;obtain⟨G0,hG0,f0,p0,n0⟩:=Heap.aR S.cO.wf (.cells (aY g));have S0:=S.fresh f0;obtain⟨G1,z1,s1,D1,n1,g1,k1⟩:=ju (cp:=cp) (fuel:=fuel) T hc S0.cO S0.get S0.vn S0.vo;rw[S.off]at z1 g1;have z1:=λ{d}{k}=>z1 d k;have S1:VP G1 dp vp a n A O m vl vs vi:=⟨D1,S.off,S.can,S.lo,S.hi,g1,by rw[n1];exact S0.vn,S.vo,S0.lO.cm s1,S.ok⟩;have hne:H.n≠vp:=by have:=S.vn;omega
 have p1:=(k1 _ hne).trans p0;have s01:=f0.step.trans s1;have w0:=S.cO.wf;have g1':=g1;simp only[vc,aS,bu,YK,YJ]at g1';obtain⟨G2,z2,f2⟩:=IL (cp:=cp) T D1.wf S1.lO.ae hn0 p1 (by omega) hfu;have z2:=λ{d}{k}=>z2 (d+1) k;have S2:=S1.fresh f2;have g2':=S2.get;simp only[vc,aS,bu,YK,YJ]at g2';simp only[aY]at hG0;refine⟨G2,λd k=>?_,s01.trans f2.step,S2⟩;have a3:=n_ 0;unfold cT;rcases hi:qZ m.ae g with _|i
 .rw[hi]at z2;simp only[Ww]at z2;have a4:dW (.lt 9223372036854775808 18446744073709551616) 18446744073709551615 0=true:=by decide
  rw[aI T.k77 rfl rfl];simp only[go_sem,c77,aY,w0,hG0,↓z1,g1',↓z2,a4,YT,or_self]
 .rw[hi]at z2;simp only[YU]at z2;obtain⟨hlt,-⟩:=BW hi;obtain⟨b,o,c,z,rfl,hbn,-,hrd⟩:=S1.lO.ae.hid hlt;have hrd:=λ{id}{k}=>hrd (f2.same _ hbn) (id:=id) (k:=k);have a1:=n_ i;have a2:=l_ i;simp only[YD,YA hlt,YU];have a4:¬i<0:=by omega
  rw[aI T.k77 rfl rfl];rcases hh:m.ae[i].hid with _|_;.rw[hh]at hrd;simp only[go_sem,c77,aY,w0,hG0,↓z1,g1',↓z2,a1,a2,a3,a4,hlt,g2',↓hrd,YT,or_self]
  .rw[hh]at hrd;simp only[go_sem,c77,aY,w0,hG0,↓z1,g1',↓z2,a1,a2,a3,a4,hlt,g2',↓hrd,YT,or_self]
end
def ES(m:MT)(i:Nat):MT:={m with ae:=m.ae.set i {m.ae.getD i ⟨(0,0),[],false⟩with hid:=true}}
theorem kE{m}{g}(h:(cT m g).2=0):∃i,∃hi:i<m.ae.length,cT m g=(i,0)/\m.ae[i].g=g/\m.ae[i].hid=false/\qZ m.ae g=some i:=by
 unfold cT at h⊢;rcases hx:qZ m.ae g with _|i;.simp_all
 .obtain⟨hi,hg⟩:=BW hx;rcases hh:m.ae[i].hid with _|_;.simp_all
  simp_all
theorem Ex{m}{g}(h:m.ae.length<1000):(cT m g).1<1000/\(cT m g).2<1000:=by
 unfold cT;rcases hx:qZ m.ae g with _|i;.simp
 .obtain⟨hi,-⟩:=BW hx;simp only;split;.simp
  omega
section
variable{cp:RC->au}{t:Nat->Option dr}{fuel:Nat}{H:Heap}{pk:List UInt8->List (List UInt8)}{unpk:List (List UInt8)->Option (List UInt8)}
theorem Na(T:aB t)(hc:aP t)(F:bC pk unpk)(hp:t 110=some (.nat (dC pk))){dp vp a n}{g}{A}{O}{m}{vl vs vi}(S:VP H dp vp a n A O m vl vs vi)(Y':(cT m g).2=0->jH (ES m (cT m g).1))(hfu:1000000<fuel):∃H' O',(∀(d)(k),aj (aT cp t fuel (d+9)) (.func 76 []) [.ptr vp 0,.agg (aY g)] H k=k (.int 3 (if(cT m g).2≠0then(cT m g).2else(j8 pk A a (ES m (cT m g).1) []).2)) H')/\nD H H' dp vp O O' m vl vs vi (if(cT m g).2≠0then A else(j8 pk A a (ES m (cT m g).1) []).1) (if(cT m g).2≠0then m else HX pk A a m (ES m (cT m g).1) []) (if(cT m g).2≠0then false else Rp pk A a (ES m (cT m g).1) []):=by
 obtain⟨G0,hG0,f0,p0,n0⟩:=Heap.aR S.cO.wf (.cells (aY g));have S0:=S.fresh f0;obtain⟨G2,z2,s2,S2⟩:=Au (cp:=cp) (fuel:=fuel) T hc S0 (by omega);have z2:=λ{d}{k}=>z2 (d+4) k;have s02:=f0.step.trans s2;have w0:=S.cO.wf;have w2:=S2.cO.wf;obtain⟨G3,hG3,f3,p3,n3⟩:=Heap.aR w2 (.cells [.int 3 0]);have w3:=f3.wf;have b3:G2.n<G3.n:=by omega
 obtain⟨G4,hG4,f4,p4,n4,w4,k4⟩:=Heap.aZ f3 (YC _) b3 (.cells [.int 3 (cT m g).1]);have S4:=S2.fresh f4;have s04:=s02.trans f4.step;have p0':=p0;simp only[aY]at hG0 p0' z2;by_cases h:(cT m g).2=0
 .have hif:¬(cT m g).2≠0:=λx=>x h;simp only[if_neg hif];obtain⟨i,hi,hr,hgi,hhi,-⟩:=kE h;have hY:=Y' h;rw[hr]at z2 p4 hG4 hY⊢;have hs:=YA hi;have hm:ES m i={m with ae:=m.ae.set i {m.ae[i]with hid:=true}}:=by unfold ES;rw[YD,hs,YU]
  obtain⟨G5,hG5,f5,p5,n5⟩:=Heap.aR w4 (.cells [.func 158 [.ptr G2.n 0]]);have p45:=(f5.same _ (by omega)).trans p4;obtain⟨H',O',z6,hd⟩:=jg (bw:=[]) T hc F hp f5 S4 hY (λw h=>by cases h) (by decide) p5 (by omega) (by show 1<1000;omega) (λf hf=>by rw[YM.1 hf];rfl) (λB G vl1 vs1 vi1 fG ts=>by have hQ:∀b,b<G4.n->b<G5.n:=λb h=>YF h f5.n;obtain⟨G'',zr,fr,hr,pr,mr,kr⟩:=Nc (cp:=cp) T ts S.ok ((fG.same _ (by omega)).trans p45) hs hQ;rw[<-hm]at pr mr;exact⟨G'',vl1,vs1,vi1,⟨G'',λd k=>zr (d+4) k,by rw[kr _ (by omega),fG.same _ (by omega)],rfl⟩,f5.trans fr,hr,pr,mr,rfl,λx hx=>(by cases hx),YH ⟨YH rfl,rfl⟩⟩) hfu;have z6:∀{d}{k},aj (aT cp t fuel (d+8)) (.func 112 []) [.ptr vp 0,.aC,.slice G4.n 0 1 2 0] G5 k=k (.int 3 (j8 pk A a (ES m i) []).2) H':=λ{d k}=>z6 d k;refine⟨H',O',λd k=>?_,hd.before s04⟩;rw[aI T.k38 rfl rfl];simp only[go_sem,c38,aY,w0,hG0,p0',↓z2,w2,hG3,p3,w3,b3,hG4,w4,hG5,↓z6]
 .simp only[if_pos (show(cT m g).2≠0from h)];refine⟨G4,O,λd k=>?_,S4.done.before s04⟩;rw[aI T.k38 rfl rfl];simp only[go_sem,c38,aY,w0,hG0,p0',↓z2,w2,hG3,p3,w3,b3,hG4,h,not_false_eq_true]
end
structure qp(cs:List Wr)(b:Nat):Prop where lt:∀c∈cs,c.1<b/\c.2.1=32/\sO c.2up:∀i,i+1<cs.length->(cs.getD i (0,(0,0))).1<(cs.getD (i+1) (0,(0,0))).1
structure Hq(m:MT)(tk:Tk)(cs:List Wr):Prop where
 b:tk.b=(cz m).g
 t:dJ tk.t (cz m).g=true
 gt:jN tk.t
 all:tk.all<=m.live.length
 next:tk.next<=tk.all
 z:(tk.next=0)=(tk.all=0)ch:qp cs m.live.length
def nK(cs:List Wr):Nat->Nat|0=>18446744073709551615|i+1=>(cs.getD i (0,(0,0))).1
section
variable{cp:RC->au}{t:Nat->Option dr}{fuel:Nat}{H:Heap}{O:Nat->Prop}
theorem ab5(T:aB t){m}{vl vs vi}{vp dp block x}{lost}(hV:H.get vp=.cells (vc m vl vs vi dp lost))(M:jO H O m vl vs vi)(hl:m.live.length<1000000)(hb:block<m.live.length)(d)(k):aj (aT cp t fuel (d+1)) (.func 136 []) [.ptr vp 0,.int 3 block,.str 32 x] H k=k (.bool true) H:=by simp only[vc,aS,bu,YK,YJ]at hV;have sn:=λ{id}{f}=>M.live.sn (id:=id) (f:=f);have e1:=l_ m.live.length;have e2:=n_ m.live.length;have e4:=n_ block;rw[aI T.k68 rfl rfl];simp only[go_sem,ZE,c68,hV,↓sn,e1,e2,e4,hb,Ya]
theorem GF(T:aB t){m:MT}{vl vs vi vx:V}{vp dp B:Nat}{lost:Bool}{Q:Nat->Prop}{cs:List Wr}{G0:Heap}(hV:H.get vp=.cells (vc m vl vs vi dp lost))(hVn:vp<H.n)(M:jO H O m vl vs vi)(hl:m.live.length<1000000)(hX:Row H Q vx 2 cs.length (bK cs))(hn:cs.length<1000)(hch:qp cs m.live.length)(f0:ah H G0)(hfu:1000<fuel):∃G',ah H G'/\ah G0 G'/\∀(d:Nat)(kx:Nat->KE)(e:Env)(x:R),af s000 e=.ptr vp 0->af s004 e=.ptr B 0->af s010 e=.int 3 18446744073709551615->af s072 e=vx->af s073 e=.int 3 cs.length->af s074 e=.int 3 0->(∀e',af s000 e'=.ptr vp 0->af s004 e'=.ptr B 0->kx 1 e' G'=x)->kf DJ fuel (aT cp t fuel (d+1)) kx fuel e G0=x:=by
 have nl:=n_ cs.length;obtain⟨_,G',⟨f',g'⟩,z⟩:=bG (c:=DJ) (ph:=λd=>aT cp t fuel (d+1)) (I:=λi _ G=>ah H G/\ah G0 G) (S:=λi _ e=>af s000 e=.ptr vp 0/\af s004 e=.ptr B 0/\af s010 e=.int 3 (nK cs i)/\af s072 e=vx/\af s073 e=.int 3 cs.length/\af s074 e=.int 3 i) (λi _ G hil⟨f,g⟩=>by
   have hsi:cs[i]?=some cs[i]:=YA hil;obtain⟨c1,c2,c3⟩:=hch.lt _ (YP hil);have hup:(dW (.le 9223372036854775808 18446744073709551616) cs[i].1 (nK cs i)=true)=False:=by rw[DX];cases i with|zero=>simp only[nK,eq_iff_iff,iff_false];omega|succ j=>have:=hch.up j hil;simp only[YD,hsi,YU]at this;simp only[nK,YD,eq_iff_iff,iff_false];omega
   have hpr:nK cs (i+1)=cs[i].1:=by simp only[nK,YD,hsi,YU]
   obtain⟨b,o,c,z,rfl,hbn,-,hrd⟩:=hX.open hil;have hrd1:=λ{id}{k}=>(hrd (f.same _ hbn)).1 (id:=id) (k:=k);rw[jS hsi]at hrd1;generalize hcx:cs[i]=x at c1 c2 c3 hup hpr hrd1;obtain⟨p,u,w⟩:=x;subst c2;obtain⟨G1,hG1,f1,p1,n1⟩:=Heap.aR f.wf (.cells [.int 3 0,.str 0 0]);have b1:G.n<G1.n:=by omega
   obtain⟨G2,hG2,f2,p2,n2,w2,k2⟩:=Heap.aZ f1 (YC _) b1 (.cells [.int 3 p,.str 32 w]);have fx:=f.trans f2;have hm:=λ{d}{k}=>ab5 (cp:=cp) (fuel:=fuel) (x:=w) T ((fx.same _ hVn).trans hV) (M.fresh fx) hl c1 d k;have a1:=n_ i;have a2:=l_ i;have a3:=m_ (i+1);have wf:=f.wf;have w1:=f1.wf;refine⟨(),G2,⟨fx,g.trans f2⟩,λd kx r e y⟨q0,q4,q10,q72,q73,q74⟩hk=>?_⟩;rw[ak];simp only[go_sem,DJ,q0,q10,q72,q73,q74,hil,nl,a1,a2,a3,↓hrd1,wf,hG1,p1,w1,b1,hG2,p2,↓hm,hup];exact hk _ (by simp only[go_sem,q0,q4,q72,q73,hpr,and_self])) cs.length 0 () G0 (by omega) ⟨f0,ah.refl f0.wf⟩;refine⟨G',f',g',λd kx e x q0 q4 q10 q72 q73 q74 hk=>z d kx fuel e x (by omega) ⟨q0,q4,q10,q72,q73,q74⟩ λr e'⟨q0,q4,q10,q72,q73,q74⟩=>?_⟩;have e6:¬cs.length<cs.length:=by omega
 rw[ak];simp only[go_sem,DJ,q73,q74,nl,e6];exact hk _ q0 q4
end
def uK(m:MT)(tk:Tk):Nat:=if tk.next=tk.all/\20<=m.ae.length then 3 else 0
section
variable{cp:RC->au}{t:Nat->Option dr}{fuel:Nat}{H:Heap}
set_option maxRecDepth 4000in theorem GD(T:aB t){dp vp a n:Nat}{A:AD}{O:Nat->Prop}{m:MT}{vl vs vi vx y:V}{tk:Tk}{cs:List Wr}(S:VP H dp vp a n A O m vl vs vi)(Z:Hq m tk cs)(hb:jN tk.b)(hy:y.one=true)(hX:Row H (bz O vp) vx 2 cs.length (bK cs))(hn:cs.length<1000)(hfu:1000<fuel):∃H',(∀(d:Nat)(k:K),aj (aT cp t fuel (d+2)) (.func 104 []) [.ptr vp 0,.agg (bu tk y),vx] H k=k (.int 3 (uK m tk)) H')/\ah H H':=by
 have hn0:=S.ok.num;have hl0:=S.ok.live.1;have w0:=S.cO.wf;have jy:=λ{id}{k}=>aM hy (id:=id) (k:=k);obtain⟨G0,hG0,f0,p0,n0⟩:=Heap.aR w0 (.cells (bu tk y));have S0:=S.fresh f0;have w00:=f0.wf;obtain⟨G1,xl,z1,f1,-⟩:=tL (cp:=cp) (fuel:=fuel) T w00 S0.get S0.vn S0.lO S.ok S0.lt;have z1:=λ{d}{k}=>z1 d k;have w1:=f1.wf;have f01:=f0.trans f1;obtain⟨G2,hG2,f2,p2,n2⟩:=Heap.aR w1 (.cells [.int 7 0,.int 7 0]);have b2:G1.n<G2.n:=by omega
 have w2:=f2.wf;obtain⟨G3,hG3,f3,p3,n3,w3,k3⟩:=Heap.aZ f2 (YC _) b2 (.cells (aY (cz m).g));have f03:=f01.trans f3;have m1:=f1.n;have q3:=((f3.same _ (by omega)).trans (f1.same _ (by omega))).trans p0;have S3:=S.fresh f03;have hlg:=xU S.ok;obtain⟨G4,z4,f4⟩:=wq (cp:=cp) (fuel:=fuel) T w3 Z.gt hlg;have z4:=λ{d}{k}=>z4 d k;have w4:=f4.wf;have S4:=S3.fresh f4;have wm4:G4.mark.wf:=by rw[Heap.eE];exact w4
 obtain⟨G5x,G5,z5,hu5,hl5,f5⟩:=qx ⟨G4.mark,λd k=>Dx (cp:=cp) (fuel:=fuel) T (S4.fresh (ah.Fp w4)) d k,ah.refl wm4⟩;have z5:=λ{d}{k}=>z5 d k;have f05:=f03.trans (f4.trans f5);have q4:=(f4.same _ (by have:=f3.n;omega)).trans q3;have q5:=(f5.same _ (by have:=f3.n;have:=f4.n;omega)).trans q4;have S5:=S.fresh f05;obtain⟨G6,f6,g6,z6⟩:=GF (cp:=cp) (B:=H.n) T S5.get S5.vn S5.lO (by omega) (hX.fresh f05) hn Z.ch (ah.refl f5.wf) hfu;have hz6:=f05.trans g6;have q6:=(g6.same _ (by have:=f5.n;have:=f4.n;have:=f3.n;omega)).trans q5;have S6:=S.fresh hz6;have g6':=S6.get;simp only[vc,aS,bu,YK,YJ]at g6';have sn:=λ{id}{f:Nat->R}=>(let⟨_,h,_⟩:=S.lO.ae;h.sn:bD id vs (λ_ _ len _ _=>f len) (f 0)=f m.ae.length);have sx:=λ{id}{f}=>hX.sn (id:=id) (f:=f);have hb2:tk.b.1=(cz m).g.1/\tk.b.2=(cz m).g.2:=by rw[Z.b];exact⟨rfl,rfl⟩
 obtain⟨hb3,hb4⟩:=hb2;have hab:=Z.t;have z1all:=Z.all;have z1next:=Z.next;have hzz:=Z.z;rw[hab]at z4;generalize hgl:(cz m).g=gl at*;simp only[bN,hgl]at z1;simp only[aY,bu,hb3,hb4]at hG0 p3 hG3 q3 z4 q4 q5 q6;have a1:=l_ m.ae.length;have a2:=n_ m.ae.length;have a3:=n_ 20;have a4:=n_ 0;have a5:=n_ tk.all;have a6:=n_ tk.next;have a7:=n_ m.live.length;have a8:¬m.live.length<tk.all:=by omega
 have a9:¬tk.all<tk.next:=by omega
 have a10:=l_ cs.length;have a11:=by omega
 have a12:=by omega
 refine⟨G6,λd k=>?_,hz6⟩;rw[aI T.k52 rfl rfl];unfold uK;simp only[go_sem,c52,Zq,bu,hb3,hb4,w0,hG0,↓jy,↓z1,w1,hG2,p2,w2,b2,hG3];by_cases hz:tk.next=0
 .have hza:tk.all=0:=by rw[<-hzz];exact hz
  simp only[go_sem,ZE,Q8,p3,q3,↓bB,↓bU,↓cW,↓z4,q4,↓z5,hu5,hl5,q5,a4,a7,hz,hza];simp only[go_sem,Q9,Ra,↓sx,a10];refine z6 d _ _ _ ?_ ?_ ?_ ?_ ?_ ?_ λe' q0' q4'=>?_;.rfl
  .rfl
  .rfl
  .rfl
  .rfl
  .rfl
  by_cases h20:20<=m.ae.length;.simp only[go_sem,zY,zZ,Ab,q0',q4',q6,g6',↓sn,a1,a2,a3,hz,hza,h20,and_self]
  .simp only[go_sem,zY,zZ,Ab,q0',q4',q6,g6',↓sn,a1,a2,a3,hz,hza,h20,and_false]
 .have hza:¬tk.all=0:=by rw[<-hzz];exact hz
  simp only[go_sem,Q8,p3,q3,↓bB,↓bU,↓cW,↓z4,q4,↓z5,hu5,hl5,q5,a4,a5,a6,a7,a8,a9,hz,hza];simp only[go_sem,Q9,Ra,↓sx,a10];refine z6 d _ _ _ ?_ ?_ ?_ ?_ ?_ ?_ λe' q0' q4'=>?_;.rfl
  .rfl
  .rfl
  .rfl
  .rfl
  .rfl
  by_cases hna:tk.next=tk.all
  .by_cases h20:20<=m.ae.length;.simp only[go_sem,zY,zZ,Ab,q0',q4',q6,g6',↓sn,a1,a2,a3,hna,h20,and_self]
   .simp only[go_sem,zY,zZ,Ab,q0',q4',q6,g6',↓sn,a1,a2,a3,hna,h20,and_false]
  .simp only[go_sem,zY,zZ,Ab,q4',q6,hna,false_and]
end
theorem eqG{id}{g h:Gd}{f}:gu id [1,1] [.int 7 g.1,.int 7 g.2] [.int 7 h.1,.int 7 h.2] f=f (decide (g=h)):=by
 obtain⟨g1,g2⟩:=g;obtain⟨h1,h2⟩:=h;by_cases e1:g1=h1
 .by_cases e2:g2=h2;.subst e1 e2;simp only[bU,cW,if_true,decide_true]
  .have hne:¬((g1,g2):Gd)=(h1,h2):=λh=>e2 (congrArg YS0 h);simp only[bU,cW,e1,e2,if_true,if_false];simp_all
 .have hne:¬((g1,g2):Gd)=(h1,h2):=λh=>e1 (congrArg YH3 h);simp only[bU,cW,e1,if_false,hne,decide_false]
theorem MS{g h:Gd}(e:g=h){id}{f}:gu id [1,1] [.int 7 g.1,.int 7 g.2] [.int 7 h.1,.int 7 h.2] f=f true:=by rw[eqG,decide_eq_true e]
theorem Va{g h:Gd}(e:¬g=h){id}{f}:gu id [1,1] [.int 7 g.1,.int 7 g.2] [.int 7 h.1,.int 7 h.2] f=f false:=by rw[eqG,decide_eq_false e]
def stC(m:MT)(tk:Tk):Prop:=m.tok.b=tk.b/\m.tok.t=tk.t/\m.tok.all=tk.all
instance afq(m:MT)(tk:Tk):Decidable (stC m tk):=inferInstanceAs(Decidable (_/\_/\_))
def mI(m:MT)(tk:Tk):List Nat:=if stC m tk then m.tok.bP else(cz m).bP
def eN(l:List Nat)(cs:List Wr)(at_:List Nat):Nat->List Nat|0=>l|i+1=>(eN l cs at_ i).set (cs.getD i (0,(0,0))).1 (at_.getD i 0)
theorem mH{l}{cs}{at_}:∀i,(eN l cs at_ i).length=l.length|0=>rfl|i+1=>by simp only[eN,Wg,mH i]
section
variable{cp:RC->au}{t:Nat->Option dr}{fuel:Nat}{H:Heap}
set_option maxRecDepth 4000in theorem Oc(T:aB t){H0:Heap}{vp dp B L:Nat}{m:MT}{vl vs vi w y:V}{lost:Bool}{tk:Tk}(f0:ah H0 H)(hV:H.get vp=.cells (vc m vl vs vi dp lost))(hi:vi.one=true)(gB:H.get B=.cells (bu tk y))(gL:H.get L=.cells [w])(h0L:H0.n<=L)(hL:L<H.n)(hBn:B<H.n)(hVn:vp<H.n)(hLB:L≠B)(hLv:L≠vp)(hw1:w.one=true)(hy:y.one=true):∃H',ah H0 H'/\H.n<=H'.n/\H'.get L=.cells [if stC m tk then vi else w]/\(∀j,j<H.n->j≠L->H'.get j=H.get j)/\∀(d:Nat)(kn:KE)(kx:Nat->KE)(e:Env)(x:R)(v0 v2 va vw:V),af s000 e=.ptr vp 0->af s002 e=v2->af s004 e=.ptr B 0->af s011 e=va->af s012 e=vw->af s014 e=.ptr L 0->(∀e',af s000 e'=.ptr vp 0->af s002 e'=v2->af s004 e'=.ptr B 0->af s011 e'=va->af s012 e'=vw->af s014 e'=.ptr L 0->gG PH fuel (aT cp t fuel d) e' H' kn kx=x)->gG zV fuel (aT cp t fuel d) e H kn kx=x:=by
 have w0:=f0.wf;obtain⟨G1,hG1,f1,p1,n1⟩:=Heap.aR w0 (.cells [.int 7 0,.int 7 0,.int 7 0,.int 7 0,.int 3 0,.int 3 0,.aC]);have w1:=f1.wf;have b1:H.n<G1.n:=by omega
 obtain⟨G2,hG2,f2,p2,n2,w2,k2⟩:=Heap.aZ f1 (YC _) b1 (.cells (bu m.tok vi));have gB2:=(f2.same _ hBn).trans gB;have gL2:=(f2.same _ hL).trans gL;have bL:L<G2.n:=by omega
 have ji:=λ{id}{k}=>aM hi (id:=id) (k:=k);have hV':=hV;simp only[vc,aS,bu,YK,YJ]at hV';have f02:=f0.trans f2;obtain⟨G3,hG3,f3,p3,n3,w3,k3⟩:=Heap.aZ f02 h0L bL (.cells [vi]);simp only[bu]at hG2 p2 gB2;by_cases hc:stC m tk;.simp only[if_pos hc];refine⟨G3,f3,by omega,p3,λj hj hne=>(k3 j hne).trans (f2.same _ hj),λd kn kx e x v0 v2 va vw q0 q2 q4 q11 q12 q14 hk=>?_⟩;obtain⟨c1,c2,c3⟩:=hc;have e1:=λ{id}{f}=>MS c1 (id:=id) (f:=f);have e2:=λ{id}{f}=>MS c2 (id:=id) (f:=f);have e3:=eq_true c3;simp only[go_sem,zV,q0,q4,q14,hV',w0,hG1,p1,w1,b1,↓ji,hG2,p2,gB2,↓bB,↓e1,↓e2,e3,gL2,w2,bL,hG3];exact hk _ q0 q2 q4 q11 q12 q14
 .simp only[if_neg hc];refine⟨G2,f02,by omega,gL2,λj hj hne=>f2.same _ hj,λd kn kx e x v0 v2 va vw q0 q2 q4 q11 q12 q14 hk=>?_⟩;by_cases c1:m.tok.b=tk.b
  .have e1:=λ{id}{f}=>MS c1 (id:=id) (f:=f);by_cases c2:m.tok.t=tk.t;.have e2:=λ{id}{f}=>MS c2 (id:=id) (f:=f);have c3:¬m.tok.all=tk.all:=λh=>hc ⟨c1,c2,h⟩;simp only[go_sem,zV,q0,q4,hV',w0,hG1,p1,w1,b1,↓ji,hG2,p2,gB2,↓bB,↓e1,↓e2,c3];exact hk _ q0 q2 q4 q11 q12 q14
   .have e2:=λ{id}{f}=>Va c2 (id:=id) (f:=f);simp only[go_sem,zV,q0,q4,hV',w0,hG1,p1,w1,b1,↓ji,hG2,p2,gB2,↓bB,↓e1,↓e2];exact hk _ q0 q2 q4 q11 q12 q14
  .have e1:=λ{id}{f}=>Va c1 (id:=id) (f:=f);simp only[go_sem,zV,q0,q4,hV',w0,hG1,p1,w1,b1,↓ji,hG2,p2,gB2,↓bB,↓e1];exact hk _ q0 q2 q4 q11 q12 q14
theorem JK(T:aB t){O:Nat->Prop}{H0 H1 G0:Heap}{vx va vL v0 v4 vw:V}{cs:List Wr}{at_ l:List Nat}{L:Nat}(f0:ah H0 G0)(hX:Row H0 O vx 2 cs.length (bK cs))(hA:cF H0 O va at_)(hal:at_.length=cs.length)(hn:cs.length<1000)(hcs:∀c∈cs,c.1<l.length)(hat:∀p∈at_,nn p)(hl:l.length<1000)(o0:Own H1 G0 vL 1 l.length (l.map (V.int 3)))(h01:H0.n<=H1.n)(hL1:L<H1.n)(gL:G0.get L=.cells [vL])(hfu:1000<fuel)(h10:H1.n<=G0.n):∃G',ah H0 G'/\Own H1 G' vL 1 l.length ((eN l cs at_ cs.length).map (V.int 3))/\G'.get L=.cells [vL]/\G0.n<=G'.n/\(∀j,j<H1.n->G'.get j=G0.get j)/\∀(d:Nat)(kx:Nat->KE)(e:Env)(x:R),af s000 e=v0->af s004 e=v4->af s011 e=va->af s012 e=vw->af s014 e=.ptr L 0->af s105 e=vx->af s106 e=.int 3 cs.length->af s107 e=.int 3 0->(∀e',af s000 e'=v0->af s004 e'=v4->af s012 e'=vw->af s014 e'=.ptr L 0->kx 1 e' G'=x)->kf DD fuel (aT cp t fuel d) kx fuel e G0=x:=by
 have nl:=n_ cs.length;have m0:=f0.n;obtain⟨_,G',⟨f',o',g',n',k'⟩,z⟩:=bG (c:=DD) (I:=λi _ G=>ah H0 G/\Own H1 G vL 1 l.length ((eN l cs at_ i).map (V.int 3))/\G.get L=.cells [vL]/\G0.n<=G.n/\∀j,j<H1.n->G.get j=G0.get j) (S:=λi _ e=>af s000 e=v0/\af s004 e=v4/\af s012 e=vw/\af s011 e=va/\af s014 e=.ptr L 0/\af s105 e=vx/\af s106 e=.int 3 cs.length/\af s107 e=.int 3 i) (λi _ G hil⟨f,o,g,n,k⟩=>by
   have hsi:cs[i]?=some cs[i]:=YA hil;have c1:=hcs _ (YP hil);have hia:i<at_.length:=by omega
   have hat1:=hat _ (YP hia);obtain⟨bx,ox,cx,zx,rfl,hbx,-,hrd⟩:=hX.open hil;have hrd1:=λ{id}{k}=>(hrd (f.same _ hbx)).1 (id:=id) (k:=k);rw[jS hsi]at hrd1;obtain⟨ba,oa,ca,za,rfl,hba,-,hra⟩:=hA.open hia;have hg1:(cs.getD i (0,(0,0)))=cs[i]:=by rw[YD,hsi,YU]
   have hg2:at_.getD i 0=at_[i]:=by rw[YD,YA hia,YU]
   generalize cs[i]=x at hsi c1 hrd1 hg1;generalize at_[i]=p at hat1 hra hg2;obtain⟨q,u,wx⟩:=x;simp only at c1 hrd1 hg1;have hsl:(eN l cs at_ i).length=l.length:=mH i;have hlen:((eN l cs at_ i).map (V.int 3)).length=l.length:=by rw[Yj,hsl]
   obtain⟨G1,hG1,f1,p1,n1⟩:=Heap.aR f.wf (.cells [.int 3 0,.str 0 0]);have b1:G.n<G1.n:=by omega
   obtain⟨G2,hG2,f2,p2,n2,w2,k2⟩:=Heap.aZ f1 (YC _) b1 (.cells [.int 3 q,.str u wx]);have fx:=f.trans f2;have o2:=o.fresh f2;have hne:((eN l cs at_ i).map (V.int 3))≠[]:=by intro e;rw[e]at hlen;simp at hlen;omega
   obtain⟨bs,c,z,row,rfl,gbs,hbs,hbn,hll,hput⟩:=o2.put w2 hne;obtain⟨n4,o4,k4⟩:=hput q (.int 3 p) (by omega) rfl;have hLG:L<G.n:=by omega
   have gL2:=(f2.same _ hLG).trans g;have f4:=fx.put (x:=.cells (row.set q (.int 3 p))) (Ys h01 hbs) hbn;generalize hG4:G2.put bs (.cells (row.set q (.int 3 p)))=G4 at f4 n4 o4 k4;have hra1:=λ{id}{k}=>hra ((fx.same _ hba)) (id:=id) (k:=k);have a1:=n_ i;have a2:=l_ i;have a3:=m_ (i+1);have a4:=n_ q;have a5:=l_ q;have a6:q<row.length:=by omega
   have wf:=f.wf;have w1:=f1.wf;refine⟨(),G4,⟨f4,?_,?_,by omega,λj hj=>?_⟩,λd kx r e y⟨q0,q4,q12,q11,q14,q25,q26,q27⟩hk=>?_⟩;.rw[<-List.map_set]at o4;simp only[eN,hg1,hg2];exact o4
   .rw[k4 _ (by omega)];exact gL2
   .rw[k4 _ (by omega),f2.same _ (by omega)];exact k j hj
   rw[ak];simp only[go_sem,DD,q11,q14,q25,q26,q27,hil,hal,nl,a1,a2,a3,a5,a6,c1,↓hrd1,wf,hG1,p1,w1,b1,hG2,p2,gL2,↓hra1,gbs,w2,hbn,hG4];exact hk _ (by simp only[go_sem,q0,q4,q12,q11,q14,q25,q26,hal,and_self])) cs.length 0 () G0 (by omega) ⟨f0,o0,gL,YC _,λ_ _=>rfl⟩;refine⟨G',f',o',g',n',k',λd kx e x q0 q4 q11 q12 q14 q25 q26 q27 hk=>z d kx fuel e x (by omega) ⟨q0,q4,q12,q11,q14,q25,q26,q27⟩ λr e'⟨q0,q4,q12,q11,q14,q25,q26,q27⟩=>?_⟩;have e6:¬cs.length<cs.length:=by omega
 rw[ak];simp only[go_sem,DD,q26,q27,nl,e6];exact hk _ q0 q4 q12 q14
end
open Go.Proofs
def A8(m:MT)(n:Nat)(tk:Tk)(cs:List Wr):MT:=stM {m with tok:=nY} tk (eN (mI m tk) cs (xY cs (fZ m n cs) cs.length) cs.length)
def N5(m:MT)(n:Nat)(cs:List Wr):List Wr:=Dd cs (fZ m n cs) cs.length
def iQ(m:MT)(n:Nat)(cs:List Wr):Prop:=(cI (eK m n)).length<fv cs cs.length
instance abP(m:MT)(n:Nat)(cs:List Wr):Decidable (iQ m n cs):=inferInstanceAs(Decidable (_<_))
def sgE(pk:List UInt8->List (List UInt8))(A:AD)(a:Nat)(m:MT)(tk:Tk)(cs:List Wr):Nat:=if uK m tk≠0then uK m tk else if iQ m A.len cs then 7 else(j8 pk A a (A8 m A.len tk cs) (N5 m A.len cs)).2
def Gz(m:MT)(n:Nat)(tk:Tk)(cs:List Wr):Prop:=uK m tk≠0\/iQ m n cs
instance aeR(m:MT)(n:Nat)(tk:Tk)(cs:List Wr):Decidable (Gz m n tk cs):=inferInstanceAs(Decidable (_\/_))
theorem xm{m}{n}{cs}(hn:n<=1024):∀p∈fZ m n cs,p<1024:=λp hp=>by have h:=EG (WI hp);unfold eK at h;rw[dB]at h;omega
theorem Cr{cs}{fr}(h:∀p∈fr,p<1024):∀i,∀p∈xY cs fr i,p<1024
 |0,p,hp=>by cases hp|i+1,p,hp=>by
  rcases Yo.1 hp with hp|hp;.exact Cr h i p hp
  .rw[YM.1 hp];split;.omega
   .rw[YD];rcases hx:fr[fv cs i]?with _|x;.simp
    .exact h x (Yk hx)
section
variable{cp:RC->au}{t:Nat->Option dr}{fuel:Nat}{H:Heap}
theorem rD(T:aB t)(hc:aP t){dp vp a n}{A}{O}{m}{vl vs vi}(S:VP H dp vp a n A O m vl vs vi):(∀(d)(k),aj (aT cp t fuel (d+3)) (.func 102 []) [.ptr vp 0] H k=k (.int 3 0) (H.put vp (.cells (vc m vl vs vi dp false))))/\VP (H.put vp (.cells (vc m vl vs vi dp false))) dp vp a n A O m vl vs vi/\Step H (bz O vp) (H.put vp (.cells (vc m vl vs vi dp false))) (bz O vp):=by
 have hw:=S.cO.wf;have hVn:=S.vn;have hV:=S.get;have s1:Step H (bz O vp) (H.put vp (.cells (vc m vl vs vi dp false))) (bz O vp):=Step.iW hw hVn (YE rfl);have D1:=(S.cO.cm (Q:=λb=>b=vp) (Step.iW (x:=.cells (vc m vl vs vi dp false)) hw hVn rfl) λb hb e=>S.vo (by simp_all)).1;have hon:=λ{d}{k}=>Jb (cp:=cp) (fuel:=fuel) (T.jl hc) (d:=d) (k:=k) S.cO;rw[S.off]at hon;have g1:(H.put vp (.cells (vc m vl vs vi dp false))).get vp=.cells (vc m vl vs vi dp false):=by rw[Heap.aG hw hVn,if_pos rfl]
 refine⟨λd k=>?_,⟨D1,S.off,S.can,S.lo,S.hi,g1,by rw[Heap.aV];omega,S.vo,S.lO.cm s1,S.ok⟩,s1⟩;generalize hG:H.put vp (.cells (vc m vl vs vi dp false))=G at g1;simp only[vc,aS,bu,YK,YJ]at hV hG g1;rw[aI T.k51 rfl rfl];simp only[go_sem,c51,hV,hw,hVn,↓hon,hG,g1]
theorem ah.qh{x y:eB}{p:Nat}(hw:H.wf)(hp:p<H.n):ah (H.put p x) ((H.new y).put p x):=by
 have hw1:(H.new y).wf:=by rw[Heap.bd];exact hw
 have hp1:p<(H.new y).n:=by rw[Heap.aO];omega
 refine⟨by rw[Heap.bH];exact hw1,by rw[Heap.aV,Heap.aV,Heap.aO];omega,λb hb=>?_,λlo h1 h2=>?_⟩;.rw[Heap.aV]at hb;rw[Heap.aG hw hp,Heap.aG hw1 hp1,Heap.aF hw,if_neg (show¬b=H.n by omega)]
 .rw[Heap.CZ hw hp]at h1;rw[Heap.CZ hw1 hp1,Heap.nC];exact h1
end
section
variable{t:Nat->Option dr}{fuel:Nat}{H:Heap}{pk:List UInt8->List (List UInt8)}{unpk:List (List UInt8)->Option (List UInt8)}
set_option maxRecDepth 4000in theorem JJ(T:aB t)(hc:aP t)(F:bC pk unpk)(hp:t 110=some (.nat (dC pk))){dp vp a n:Nat}{A:AD}{O:Nat->Prop}{m:MT}{vl vs vi vx y:V}{tk:Tk}{cs:List Wr}(S:VP H dp vp a n A O m vl vs vi)(Z:Hq m tk cs)(hb:jN tk.b)(hy:y.one=true)(hX:Row H (bz O vp) vx 2 cs.length (bK cs))(hn:cs.length<1000)(hok:∀l∈cU m,∀a∈l,a≠0->193<=a/\a<A.len)(hfl:(cU m).flatten.length<1000000)(hsl:(mI m tk).length=m.live.length)(Y':jH (A8 m A.len tk cs))(hfu:1000000<fuel):∃H' O',(∀(d:Nat)(k:K),aj (aT (aN Tryz.prog) t fuel (d+9)) (.func 32 []) [.ptr vp 0,.agg (bu tk y),vx] H k=k (.int 3 (sgE pk A a m tk cs)) H')/\nD H H' dp vp O O' m vl vs vi (if Gz m A.len tk cs then A else(j8 pk A a (A8 m A.len tk cs) (N5 m A.len cs)).1) (if Gz m A.len tk cs then m else HX pk A a m (A8 m A.len tk cs) (N5 m A.len cs)) (if Gz m A.len tk cs then false else Rp pk A a (A8 m A.len tk cs) (N5 m A.len cs)):=by
 have hn0:=S.ok.num;have hl0:=S.ok.live.1;have w0:=S.cO.wf;have jy:=λ{id:Nat}{k:R}=>aM hy (id:=id) (k:=k);obtain⟨G0,hG0,f0,p0,n0⟩:=Heap.aR w0 (.cells (bu tk y));have S0:=S.fresh f0;obtain⟨z1,S1,s1⟩:=rD (cp:=aN Tryz.prog) (fuel:=fuel) T hc S0;obtain⟨-,Sb,sb⟩:=rD (cp:=aN Tryz.prog) (fuel:=fuel) T hc S;have z1:=λ{d:Nat}{k:K}=>z1 (d+5) k;have hne:H.n≠vp:=by have:=S.vn;omega
 have fb1:ah (H.put vp (.cells (vc m vl vs vi dp false))) (G0.put vp (.cells (vc m vl vs vi dp false))):=by rw[<-hG0];exact ah.qh w0 S.vn
 have n1:(G0.put vp (.cells (vc m vl vs vi dp false))).n=G0.n:=Heap.aV;have nb1:(H.put vp (.cells (vc m vl vs vi dp false))).n=H.n:=Heap.aV;have p1:(G0.put vp (.cells (vc m vl vs vi dp false))).get H.n=.cells (bu tk y):=by rw[Heap.aG f0.wf S0.vn,if_neg hne];exact p0
 generalize(H.put vp (.cells (vc m vl vs vi dp false)))=Hb at Sb sb fb1 nb1;generalize hG1:(G0.put vp (.cells (vc m vl vs vi dp false)))=G1 at z1 S1 s1 fb1 n1 p1;have s01:Step H (bz O vp) G1 (bz O vp):=f0.step.trans s1;have hX1:Row G1 (bz O vp) vx 2 cs.length (bK cs):=hX.cm s01;obtain⟨G2,z2,f2⟩:=GD (cp:=aN Tryz.prog) (fuel:=fuel) T S1 Z hb hy hX1 hn (by omega);have z2:=λ{d:Nat}{k:K}=>z2 (d+6) k;have S2:=S1.fresh f2;have s02:Step H (bz O vp) G2 (bz O vp):=s01.trans f2.step;have p2:G2.get H.n=.cells (bu tk y):=(f2.same _ (by omega)).trans p1;have hX2:=hX1.fresh f2;have hrl:uK m tk=0\/uK m tk=3:=by unfold uK;split;exact YE rfl;exact YH rfl
 simp only[bu]at hG0 z2;have p1':=p1;simp only[bu]at p1';unfold sgE;by_cases hr:¬uK m tk=0
 .simp only[if_pos (show uK m tk≠0from hr),if_pos (show Gz m A.len tk cs from YH hr)];refine⟨G2,O,λd k=>?_,S2.done.before s02⟩;rw[aI T.k16 rfl rfl];rcases hrl with h|h;.exact absurd h hr
  rw[h]at z2⊢;simp only[go_sem,c16,Kh,Ki,bu,w0,hG0,↓jy,↓z1,p1',↓z2,YT]
 have hr':¬uK m tk≠0:=hr;have hr:=Classical.not_not.1 hr;rw[hr]at z2;simp only[if_neg hr'];have hlt:=S2.lt;obtain⟨G3,va,vw,z3,f3,j1,j2,o3⟩:=xZ T hc S2.cO S2.get S2.vn S2.lO S.ok hX2 hn S.hi hok hlt hfl hfu;have z3:=λ{d:Nat}{k:K}=>z3 (d+3) k;have S3:=S2.fresh f3;have s03:Step H (bz O vp) G3 (bz O vp):=s02.trans f3.step;have p3:G3.get H.n=.cells (bu tk y):=(f3.same _ (by have:=f2.n;omega)).trans p2;have i1:=λ{id:Nat}{k:R}=>aM j1 (id:=id) (k:=k);have i2:=λ{id:Nat}{k:R}=>aM j2 (id:=id) (k:=k);by_cases hfull:iQ m A.len cs;.simp only[if_pos hfull,if_pos (show Gz m A.len tk cs from YE hfull)];rw[if_pos (show(cI (eK m A.len)).length<fv cs cs.length from hfull)]at z3;refine⟨G3,O,λd k=>?_,S3.done.before s03⟩;rw[aI T.k16 rfl rfl];simp only[go_sem,c16,Kh,Ki,bu,w0,hG0,↓jy,↓z1,p1',↓z2,YT];simp only[go_sem,PF,PG,↓z3]
 have hno:¬Gz m A.len tk cs:=λh=>h.elim hr' hfull;have hnf:¬(cI (eK m A.len)).length<fv cs cs.length:=hfull;simp only[if_neg hfull,if_neg hno];rw[if_neg hnf]at z3;obtain⟨oA,oW⟩:=o3 hnf;obtain⟨G4,vL0,z4,f4,hI4⟩:=tL (cp:=aN Tryz.prog) (fuel:=fuel) T f3.wf S3.get S3.vn S3.lO S.ok S3.lt;have z4:=λ{d:Nat}{k:K}=>z4 (d+7) k;have S4:=S3.fresh f4;obtain⟨G5,hG5,f5,p5,n5⟩:=Heap.aR f4.wf (.cells [.aC]);have w4:=f4.wf;have w5:=f5.wf;have b5:G4.n<G5.n:=by omega
 obtain⟨G6,hG6,f6,p6,n6,w6,k6⟩:=Heap.aZ f5 (YC _) b5 (.cells [vL0]);have jL0:=λ{id:Nat}{k:R}=>aM hI4.one (id:=id) (k:=k);have m2:=f2.n;have m3:=f3.n;have m4:=f4.n;have m6:=f6.n;have f36:=f4.trans f6;have S6:=S3.fresh f36;have p36:G6.get H.n=.cells (bu tk y):=(f36.same _ (by omega)).trans p3;have hv3:=S3.vn;obtain⟨G7,f7,n7,p7,k7,z7⟩:=Oc T f6 S6.get S.lO.bP.one p36 p6 (YC _) (by omega) (by omega) (by omega) (by omega) (by have:=S3.vn;omega) hI4.one hy;have f37:=f4.trans f7;have S7:=S3.fresh f37;have w7:=f7.wf;have hIL:cF G7 (bz O vp) (if stC m tk then vi else vL0) (mI m tk):=by
  unfold mI;by_cases h:stC m tk;.rw[if_pos h,if_pos h];exact S7.lO.bP
  .rw[if_neg h,if_neg h];exact hI4.fresh f7
 generalize(if stC m tk then vi else vL0)=vI at p7 hIL;have hsl1:(mI m tk).length<1000000:=by omega
 obtain⟨G8,vL,z8,f8,o8⟩:=eJ (cp:=aN Tryz.prog) (fuel:=fuel) T w7 hIL hsl1;have z8:=λ{d:Nat}{k:K}=>z8 (d+7) k;have m7:=f7.n;have m8:=f8.n;have jL:=λ{id:Nat}{k:R}=>aM o8.one (id:=id) (k:=k);have p8:G8.get G4.n=.cells [vI]:=(f8.same _ (by omega)).trans p7;have w8:=f8.wf;have b8:G4.n<G8.n:=by omega
 have f48:=f7.trans f8;obtain⟨G9,hG9,f9,p9,n9,w9,k9⟩:=Heap.aZ f48 (YC _) b8 (.cells [vL]);have oL9:Own G7 G9 vL 1 (mI m tk).length ((mI m tk).map (V.int 3)):=by rw[<-hG9];exact o8.nU w8 b8 (o8.off (by omega))
 have f39:=f4.trans f9;have fr:=xm (m:=m) (cs:=cs) S.hi;have hat:∀p∈xY cs (fZ m A.len cs) cs.length,nn p:=λp hp=>by have:=Cr fr cs.length p hp;unfold nn;omega
 have hAI:cF G3 (bz O vp) va (xY cs (fZ m A.len cs) cs.length):=by have h:=oA.toRow S2.lt;unfold cF;rw[nh];exact h
 obtain⟨Ga,fa,oa,ga,na,ka,za⟩:=JK (fuel:=fuel) (v0:=.ptr vp 0) (v4:=.ptr H.n 0) (vw:=vw) T f39 (hX2.fresh f3) hAI (nh _ _ _) hn (λc hc=>by rw[hsl];exact(Z.ch.lt c hc).1) hat (by omega) oL9 (by omega) (by omega) p9 (by omega) (by omega);have S10:=S3.fresh fa;have p10:Ga.get H.n=.cells (bu tk y):=(fa.same _ (by omega)).trans p3;have wa:=fa.wf;obtain⟨Gb,hGb,fb,pb,nb⟩:=Heap.aR wa (.cells [.func 114 [],.func 116 [.ptr H.n 0,.ptr G4.n 0]]);have f3b:=fa.trans fb;have S11:=S3.fresh f3b;have hm3:=f3.n;have hV3:=S3.vn;have hcell:G4.n<Ga.n:=by omega
 have pb1:Gb.get G4.n=.cells [vL]:=(fb.same _ hcell).trans ga;have pb2:Gb.get H.n=.cells (bu tk y):=(fb.same _ (by omega)).trans p10;have hbwok:∀w∈N5 m A.len cs,w.1<18446744073709551616/\w.2.1<1000000/\sO w.2:=Jp S.hi (λc hc=>⟨by have:=(Z.ch.lt c hc).2.1;omega,(Z.ch.lt c hc).2.2⟩) cs.length (YC _);have hWl:(N5 m A.len cs).length=fv cs cs.length:=vR _ _ _;have hnz:=kM cs cs.length;have fHb:ah Hb Gb:=fb1.trans (f2.trans (f3.trans f3b));obtain⟨H',O',zc,hd⟩:=jg T hc F hp fHb Sb Y' hbwok (by omega) pb (by omega) (by show 2<1000;omega) (λf hf=>by rcases YS.1 hf with rfl|hf;rfl;rw[YM.1 hf];rfl) (λB G vl1 vs1 vi1 fG ts=>by
  obtain⟨G',zt,ts',kt⟩:=nB T ts;have hlo:=ts.lo;have hQ:∀b,b<Hb.n->b<Hb.n:=λb h=>h;have mG:=fG.n;have mt:=ts'.f.n;have hkeep:∀j,j<Gb.n->G'.get j=Gb.get j:=λj hj=>(kt _ (by omega)).trans (fG.same _ hj);have fHb3:Hb.n<=G7.n:=by omega
  have obv:=fb.n;obtain⟨G'',vl2,vs2,vi2,zr,fr,hr,pr,mr,kr,nr⟩:=JM (cp:=aN Tryz.prog) (fuel:=fuel) (ca:=G4.n) (cb:=H.n) (tk:=tk) (x0:=y) (vL:=vL) (l:=eN (mI m tk) cs (xY cs (fZ m A.len cs) cs.length) cs.length) (Q:=λb=>b<Hb.n) T fHb ts' S.ok.drop ((hkeep _ (by omega)).trans pb1) ((hkeep _ (by omega)).trans pb2) (by omega) (by omega) (by omega) (by omega) hy o8.one (by unfold nn;have:=Z.next;have:=Z.all;omega) (by unfold nn;have:=Z.all;omega) (by rw[mH];omega) (λ{G5}hk hn5=>by
   have hrow:=oa.toRow (O:=λb=>b<Hb.n) (λb h=>by have:=fHb3;omega);obtain⟨q1,q2,q3⟩:=hrow;refine⟨by rw[Yj,Wa],q2,?_⟩;rw[mH];rcases q3 with q3|⟨b,o,c,s,l,e1,e2,e3,e4,e5,e6⟩;.exact YH q3
   .obtain⟨hb1,hb2⟩:=oa.cV e1;refine YE ⟨b,o,c,s,l,e1,?_,by omega,e4,e5,e6⟩;rw[hk b (by omega) (by omega),hkeep b (by omega),fb.same _ hb2];exact e2) hQ;exact⟨G'',vl2,vs2,vi2,⟨G',λd k=>zt (d+4) k,kt Ga.n (by omega),G'',λd k=>zr (d+3) k,kr Ga.n (by omega) (by omega),rfl⟩,fr,hr,pr,mr,by
   obtain⟨q1,q2,q3⟩:=oW.toRow (O:=bz O vp) S2.lt;rw[hWl];refine⟨q1,q2,?_⟩;rcases q3 with q3|⟨b,o,c,s,l,e1,e2,e3,e4,e5,e6⟩;.exact YH q3
   .obtain⟨hb1,hb2⟩:=oW.cV e1;refine YE ⟨b,o,c,s,l,e1,?_,by omega,e4,e5,e6⟩;rw[kr b (by omega) (by omega),hkeep b (by omega),f3b.same _ hb2];exact e2⟩) hfu;have zc:∀{d:Nat}{k:K},aj (aT (aN Tryz.prog) t fuel (d+8)) (.func 112 []) [.ptr vp 0,vw,.slice Ga.n 0 2 3 0] Gb k=k (.int 3 (j8 pk A a (A8 m A.len tk cs) (N5 m A.len cs)).2) H':=λ{d k}=>zc d k;have sx:=λ{id:Nat}{f:Nat->R}=>hX.sn (id:=id) (f:=f);have hcl:=l_ cs.length;refine⟨H',O',λd k=>?_,hd.before sb⟩;rw[aI T.k16 rfl rfl];simp only[go_sem,c16,Kh,Ki,bu,w0,hG0,↓jy,↓z1,p1',↓z2];simp only[go_sem,PF,PG,↓z3,XZ,↓z4,w4,hG5,p5,w5,b5,hG6,↓jL0,bN];refine z7 (d+8) _ _ _ _ (.ptr vp 0) vx va vw ?_ ?_ ?_ ?_ ?_ ?_ λe' q0 q2 q4 q11 q12 q14=>?_;.rfl
 .rfl
 .rfl
 .rfl
 .rfl
 .rfl
 simp only[go_sem,PH,X0,q2,q14,p7,p8,↓z8,w8,b8,hG9,↓jL,↓sx,hcl];refine za (d+8) _ _ _ ?_ ?_ ?_ ?_ ?_ ?_ ?_ ?_ λe'' q0 q4 q12 q14=>?_;.exact q0
 .exact q4
 .exact q11
 .exact q12
 .exact q14
 .rfl
 .rfl
 .rfl
 simp only[go_sem,X4,PE,q0,q4,q12,q14,wa,hGb,↓zc]
end
end Go.Ev
end
section
namespace Go.Ev
def hU(l:List Gd):List V:=l.flatMap aY
theorem MN:∀l:List Gd,(hU l).length=l.length*2|[]=>rfl|g::l=>by show(aY g++hU l).length=_;rw[YB,MN l,YG,We];simp only[aY,YG,YQ];omega
theorem se(a b):hU (a++b)=hU a++hU b:=List.flatMap_append
theorem Em(g):∀y∈aY g,y.one=true:=λy hy=>by
 rcases YS.1 hy with rfl|hy;.rfl
 .rw[YM.1 hy];rfl
section
variable{cp:RC->au}{t:Nat->Option dr}{fuel:Nat}{H:Heap}{O:Nat->Prop}
theorem Np(T:aB t){vs:V}{ss:List Sn}(hw:H.wf)(hS:fC H O vs ss)(hn:ss.length<1000)(hfu:1000<fuel):∃G' v',ah H G'/\Own H G' v' 2 ss.length (hU (ss.map (·.g)))/\∀(d:Nat)(kx:Nat->KE)(e:Env)(x:R),af s003 e=.aC->af s014 e=vs->af s015 e=.int 3 ss.length->af s016 e=.int 3 0->(∀e',af s003 e'=v'->kx 1 e' G'=x)->kf DC fuel (aT cp t fuel d) kx fuel e H=x:=by
 have nl:=n_ ss.length;obtain⟨v',G',⟨f',o'⟩,z⟩:=bG (c:=DC) (I:=λi v G=>ah H G/\Own H G v 2 i (hU ((ss.take i).map (·.g)))) (S:=λi v e=>af s003 e=v/\af s014 e=vs/\af s015 e=.int 3 ss.length/\af s016 e=.int 3 i) (λi v G hil⟨f,o⟩=>by
   obtain⟨b,ob,c,z,y,rfl,hbn,-,hy,hrd⟩:=hS.open hil;have htk:ss.take (i+1)=ss.take i++[ss[i]]:=by rw[List.take_add_one,YA hil];rfl
   have hrd:=λ{id}{k}=>hrd (f.same _ hbn) (id:=id) (k:=k);generalize ss[i]=s at htk hy hrd;have w0:=f.wf;obtain⟨G1,hG1,f1,p1,n1⟩:=Heap.aR w0 (.cells [.int 7 0,.int 7 0,.aC,.bool false]);obtain⟨G2,hG2,f2,p2,n2,w2,k2⟩:=Heap.aZ f1 (YC _) (by omega) (.cells (bN s y));obtain⟨G3,hG3,f3,p3,n3⟩:=Heap.aR w2 (.cells (aY s.g));have f03:=(f.trans f2).trans f3;obtain⟨v',G4,hap,o4,f4,-⟩:=Own.app (w:=v) (x:=.slice G2.n 0 1 2 0) f03 ((o.fresh f2).fresh f3) (λ{id f}=>fT p3 rfl) rfl (Em _) (by omega);have i1:=λ{id}{k}=>aM hy.one (id:=id) (k:=k);have w1:=f1.wf;have a1:=n_ i;have a2:=l_ i;have a3:=m_ (i+1);have a4:G.n<G1.n:=by omega
   refine⟨v',G4,⟨f4,by rw[htk,Yz,se];simpa[hU]using o4⟩,λd kx r e x⟨q3,q14,q15,q16⟩hk=>?_⟩;simp only[bN]at hG2 p2 hrd;simp only[aY]at hG3;rw[ak];simp only[go_sem,DC,q3,q14,q15,q16,hil,nl,a1,a2,a3,a4,↓hrd,w0,hG1,p1,w1,hG2,p2,↓i1,w2,hG3,↓hap];refine hk _ ?_;simp only[go_sem,q14,q15,and_self]) ss.length 0 .aC H (by omega) ⟨ah.refl hw,Own.nil⟩;rw[Wi]at o';refine⟨G',v',f',o',λd kx e x q3 q14 q15 q16 hk=>z d kx fuel e x (by omega) ⟨q3,q14,q15,q16⟩ λr e'⟨q3,q14,q15,q16⟩=>?_⟩;have e6:¬ss.length<ss.length:=by omega
 rw[ak];simp only[go_sem,DC,q15,q16,nl,e6];exact hk _ q3
theorem rB(T:aB t){dp vp a n}{A}{m}{vl vs vi}(S:VP H dp vp a n A O m vl vs vi)(hfu:1000<fuel):∃H' v',(∀(d)(k),aj (aT cp t fuel (d+1)) (.func 26 []) [.ptr vp 0] H k=k v' H')/\ah H H'/\Own H H' v' 2 m.ae.length (hU (m.ae.map (·.g))):=by
 obtain⟨G',v',f',o',z⟩:=Np T S.cO.wf S.lO.ae S.ok.num hfu;have g:=S.get;simp only[vc,aS,bu,YK,YJ]at g;have sn:=λ{id}{f:Nat->R}=>(let⟨_,h,_⟩:=S.lO.ae;h.sn:bD id vs (λ_ _ len _ _=>f len) (f 0)=f m.ae.length);have a1:m.ae.length<9223372036854775808:=by have:=S.ok.num;omega
 refine⟨G',v',λd k=>?_,f',o'⟩;rw[aI T.k13 rfl rfl];simp only[go_sem,c13,g,↓sn,a1];refine z d _ _ _ ?_ ?_ ?_ ?_ λe' q3=>?_;.rfl
 .rfl
 .rfl
 .rfl
 simp_all
set_option maxRecDepth 4000in theorem uO(T:aB t){dp vp a n}{A}{m}{vl vs vi}(S:VP H dp vp a n A O m vl vs vi):∃H' x,(∀(d)(k),aj (aT cp t fuel (d+2)) (.func 34 []) [.ptr vp 0] H k=k (.agg (bu m.tok x)) H')/\ah H H'/\Own H H' x 1 m.tok.bP.length (m.tok.bP.map (V.int 3)):=by
 have g:=S.get;simp only[vc,aS,bu,YK,YJ]at g;have w:=S.cO.wf;have i1:=λ{id}{k}=>aM S.lO.bP.one (id:=id) (k:=k);obtain⟨G1,hG1,f1,p1,n1⟩:=Heap.aR w (.cells [.int 7 0,.int 7 0,.int 7 0,.int 7 0,.int 3 0,.int 3 0,.aC]);have w1:=f1.wf;have g1:=(f1.same _ S.vn).trans g;obtain⟨G2,hG2,f2,p2,n2⟩:=Heap.jW n1 w1 (.cells [.int 7 0,.int 7 0,.int 7 0,.int 7 0,.int 3 0,.int 3 0,.aC]);have w2:=f2.wf;have b2:H.n+1<G2.n:=by omega
 obtain⟨G3,hG3,f3,p3,n3,w3,k3⟩:=Heap.aZ f2 (by omega) b2 (.cells (bu m.tok vi));have f03:=f1.trans f3;obtain⟨G4,x,z4,f4,o4⟩:=eJ (cp:=cp) (fuel:=fuel) T w3 ((S.fresh f03).lO.bP) (by have:=S.ok.tok.2.2.2.2.1;omega);have z4:=λ{d}{k}=>z4 d k;have i2:=λ{id}{k}=>aM o4.one (id:=id) (k:=k);have w4:=f4.wf;have p4:=(f4.same _ (by omega)).trans p3;have b4:H.n+1<G4.n:=by have:=f4.n;omega
 obtain⟨G5,hG5,f5,p5,n5,w5,k5⟩:=Heap.aZ (f3.trans f4) (by omega) b4 (.cells (bu m.tok x));have q5:G5.get H.n=.cells [.int 7 0,.int 7 0,.int 7 0,.int 7 0,.int 3 0,.int 3 0,.aC]:=by rw[k5 _ (by omega),f4.same _ (by omega),k3 _ (by omega),f2.same _ (by omega)];omega
 have b5:H.n<G5.n:=by omega
 have f05:=f1.trans f5;obtain⟨G6,hG6,f6,p6,n6,w6,k6⟩:=Heap.aZ f05 (YC _) b5 (.cells (bu m.tok x));have oo:Own H G6 x 1 m.tok.bP.length (m.tok.bP.map (V.int 3)):=by rw[<-hG6];refine(Own.nU ?_ w5 b5 (o4.off (by omega))).sub (by have:=f03.n;omega);rw[<-hG5];exact o4.nU w4 b4 (o4.off (by omega))
 refine⟨G6,x,λd k=>?_,f6,oo⟩;simp only[bu]at hG3 p3 p4 hG5 p5 hG6 p6⊢;rw[aI T.k17 rfl rfl];simp only[go_sem,c17,w,hG1,n1,g1,w1,hG2,p2,b2,w2,↓i1,hG3,p3,↓z4,p4,b4,w4,↓i2,hG5,p5,w5,b5,q5,hG6,↓dR,p6]
theorem fC.bP{v:V}{ss:List Sn}(h:fC H O v ss){i:Nat}(hi:i<ss.length):∃b o c s x,v=.slice b o ss.length c s/\b<H.n/\¬O b/\cF H O x ss[i].bP/\∀{G:Heap},G.get b=H.get b->∀{id:Nat}{k:V->R},FO id (G.get b) (o+i*4+2) k=k x:=by
 obtain⟨xs,hR,hl,hx⟩:=h;obtain⟨x,hxi,hI⟩:=hx i _ (YA hi);obtain⟨b,o,c,z,g1,g2,g3,g4⟩:=hR.cell (by omega);refine⟨b,o,c,z,x,g1,g2,g3,hI,λ{G}hG{id k}=>?_⟩;have e:=pV (YA hi) hxi;have e2:(((dy ss xs).drop (i*4)).take 4)[2]?=some x:=by rw[e];rfl
 rw[Yy,if_pos (by omega),WG]at e2;rw[YB2];exact g4 hG e2
theorem J0(T:aB t)(hc:aP t){dp vp a n:Nat}{g:Gd}{A:AD}{m:MT}{vl vs vi:V}(S:VP H dp vp a n A O m vl vs vi)(hlp:∀s∈m.ae,∀p∈s.bP,p<A.len)(hfu:1000<fuel):∃H' v',(∀(d:Nat)(k:K),aj (aT cp t fuel (d+5)) (.func 62 []) [.ptr vp 0,.agg (aY g)] H k=k (.cG [v',.int 3 (cT m g).2]) H')/\Step H (bz O vp) H' (bz O vp)/\VP H' dp vp a n A O m vl vs vi/\((cT m g).2≠0->v'=.aC)/\∀(i:Nat)(s:Sn),cT m g=(i,0)->m.ae[i]?=some s->Own H H' v' 1 s.bP.length (s.bP.map λp=>sv (cw A p)):=by
 have hn0:=S.ok.num;obtain⟨G0,hG0,f0,p0,n0⟩:=Heap.aR S.cO.wf (.cells (aY g));have S0:=S.fresh f0;obtain⟨G2,z2,s2,S2⟩:=Au (cp:=cp) (g:=g) T hc S0 (by omega);have z2:=λ{d}{k}=>z2 d k;have s02:=f0.step.trans s2;have w0:=S.cO.wf;have a3:=n_ 0;obtain⟨l1,l2⟩:=Ex (g:=g) hn0;have p0':=p0;have g2':=S2.get;simp only[vc,aS,bu,YK,YJ]at g2';simp only[aY]at hG0 p0' z2;by_cases h:(cT m g).2=0
 .obtain⟨i,hi,hr,hgi,hhi,-⟩:=kE h;have hs:=YA hi;obtain⟨b,o,c,z,x,rfl,hbn,-,hI,hrd⟩:=S2.lO.ae.bP hi;have hrd:=λ{id}{k}=>hrd rfl (id:=id) (k:=k);obtain⟨G3,v',z3,f3,o3⟩:=lF (cp:=cp) T hc S2.cO S2.off S2.get S2.vn hI (by have:=(S.ok.ae _ (YP hi)).2.1;omega) (hlp _ (YP hi)) S.hi hfu;have z3:=λ{d}{k}=>z3 d k;have jx:=λ{id}{k}=>aM hI.one (id:=id) (k:=k);have a1:=n_ i;have a2:=l_ i;refine⟨G3,v',λd k=>?_,s02.trans f3.step,S2.fresh f3,λhne=>absurd h hne,λj s hj hsj=>?_⟩;.rw[aI T.k31 rfl rfl];simp only[hr]at z2⊢;simp only[go_sem,c31,aY,w0,hG0,p0',↓z2,g2',a2,hi,↓hrd,↓z3]
  .rw[hr]at hj;obtain rfl:i=j:=congrArg YH3 hj;rw[hs]at hsj;cases hsj;exact o3.sub (by have:=s02.n;omega)
 .refine⟨G2,.aC,λd k=>?_,s02,S2,λ_=>rfl,λi s hi=>absurd (by rw[hi]) h⟩;rw[aI T.k31 rfl rfl];simp only[go_sem,c31,aY,w0,hG0,p0',↓z2,h,not_false_eq_true]
end
def t0:Tx:=(0,0)
def jh(a b:List Tx):Nat->List Wr|0=>[]|i+1=>jh a b i++(if a.getD i t0=b.getD i t0 then[]else[(i,b.getD i t0)])
def Dc(a b:List Tx):List Wr:=jh a b b.length
theorem mb(a b):∀i,(jh a b i).length<=i|0=>YC _|i+1=>by have:=mb a b i;simp only[jh,YB];split<;>simp<;>omega
abbrev zP(H:Heap)(O:Nat->Prop)(v:V)(l:List Tx):Prop:=Row H O v 1 l.length (l.map sv)
theorem zP.open{H:Heap}{O:Nat->Prop}{v:V}{l:List Tx}(h:zP H O v l){i:Nat}(hi:i<l.length):∃b o c s,v=.slice b o l.length c s/\b<H.n/\¬O b/\∀{G:Heap},G.get b=H.get b->∀{id:Nat}{k:V->R},FO id (G.get b) (o+i) k=k (sv l[i]):=by obtain⟨b,o,c,z,h1,h2,h3,h4⟩:=Row.open h hi;refine⟨b,o,c,z,h1,h2,h3,λ{G}hG{id k}=>?_⟩;have:=(h4 hG).2 (x:=sv l[i]) (by simp[hi]) (id:=id) (k:=k);rw[Wa]at this;exact this
theorem uL{x y:Tx}:(x.1=y.1/\x.2=y.2)=(x=y):=by obtain⟨a,b⟩:=x;obtain⟨c,d⟩:=y;simp
section
variable{cp:RC->au}{t:Nat->Option dr}{fuel:Nat}{H:Heap}{O:Nat->Prop}
theorem Ot(T:aB t){va vb:V}{a b:List Tx}(hw:H.wf)(hA:zP H O va a)(hB:zP H O vb b)(hab:a.length=b.length)(hn:b.length<1000)(hfu:1000<fuel):∃G' v',ah H G'/\Own H G' v' 2 (Dc a b).length (bK (Dc a b))/\∀(d:Nat)(kx:Nat->KE)(e:Env)(x:R),af s010 e=va->af s012 e=vb->af s013 e=.aC->af s114 e=.int 3 b.length->af s115 e=.int 3 0->(∀e',af s013 e'=v'->kx 1 e' G'=x)->kf zW fuel (aT cp t fuel d) kx fuel e H=x:=by
 have nl:=n_ b.length;obtain⟨v',G',⟨f',o'⟩,z⟩:=bG (c:=zW) (fuel:=fuel) (I:=λi v G=>ah H G/\Own H G v 2 (jh a b i).length (bK (jh a b i))) (S:=λi v e=>af s010 e=va/\af s012 e=vb/\af s013 e=v/\af s114 e=.int 3 b.length/\af s115 e=.int 3 i) (λi v G hil⟨f,o⟩=>by
   obtain⟨bb,ob,cb,zb,hvb,hbn,-,hrb⟩:=hB.open hil;obtain⟨ba,oa,ca,za,hva,han,-,hra⟩:=hA.open (i:=i) (by omega);have hrb:=λ{id}{k}=>hrb (f.same _ hbn) (id:=id) (k:=k);have hra:=λ{id}{k}=>hra (f.same _ han) (id:=id) (k:=k);have hg1:a.getD i t0=a[i]:=by rw[YD,YA (show i<a.length by omega),YU]
   have hg2:b.getD i t0=b[i]:=by rw[YD,YA hil,YU]
   have hst:jh a b (i+1)=jh a b i++(if a[i]=b[i]then[]else[(i,b[i])]):=by simp only[jh,hg1,hg2]
   have hcl:=mb a b i;have hal:=by omega
   generalize a[i]=x at hra hst;generalize b[i]=y at hrb hst;subst hva hvb;simp only[sv]at hra hrb;have w0:=f.wf;have a1:=n_ i;have a2:=l_ i;have a3:=m_ (i+1);by_cases hxy:x=y
   .rw[if_pos hxy,YV]at hst;have e1:(x.1=y.1/\x.2=y.2)=True:=by rw[uL];exact eq_true hxy
    refine⟨v,G,⟨f,by rw[hst];exact o⟩,λd kx r e x⟨q10,q12,q13,q114,q115⟩hk=>?_⟩;rw[ak];simp only[go_sem,zW,q10,q12,q114,q115,hil,hab,nl,a1,a2,a3,↓hra,↓hrb,e1,WX];exact hk _ (by simp only[go_sem,q10,q12,q13,q114,hab,and_self])
   .rw[if_neg hxy]at hst;have e1:(x.1=y.1/\x.2=y.2)=False:=by rw[uL];exact eq_false hxy
    obtain⟨G3,hG3,f3,p3,n3⟩:=Heap.aR w0 (.cells [.int 3 i,.str y.1 y.2]);obtain⟨v',G4,hap,o4,f4,-⟩:=Own.app (w:=v) (x:=.slice G.n 0 1 2 0) (f.trans f3) (o.fresh f3) (λ{id f}=>fT p3 rfl) rfl (λz hz=>by rcases YS.1 hz with rfl|hz;rfl;rw[YM.1 hz];rfl) (by omega);refine⟨v',G4,⟨f4,by rw[hst,YB,dP];exact o4⟩,λd kx r e x⟨q10,q12,q13,q114,q115⟩hk=>?_⟩;rw[ak];simp only[go_sem,zW,q10,q12,q13,q114,q115,hil,hab,nl,a1,a2,a3,↓hra,↓hrb,e1,w0,hG3,↓hap];refine hk _ ?_;simp only[go_sem,q10,q12,q114,hab,and_self]) b.length 0 .aC H (by omega) ⟨ah.refl hw,Own.nil⟩;refine⟨G',v',f',o',λd kx e x q10 q12 q13 q114 q115 hk=>z d kx fuel e x (by omega) ⟨q10,q12,q13,q114,q115⟩ λr e'⟨q10,q12,q13,q114,q115⟩=>?_⟩;have e6:¬b.length<b.length:=by omega
 rw[ak];simp only[go_sem,zW,q114,q115,nl,e6];exact hk _ q13
def mB(m:MT)(i:Nat):List Nat:=if i=0then YZ m.live.length 0 else(m.ae.getD (i-1) ⟨(0,0),[],false⟩).bP
set_option maxRecDepth 4000in theorem zN(T:aB t)(hc:aP t){dp vp a n i:Nat}{A:AD}{m:MT}{vl vs vi:V}(S:VP H dp vp a n A O m vl vs vi)(hi:nn i)(hlp:∀s∈m.ae,∀p∈s.bP,p<A.len)(hil:∀s∈m.ae,s.bP.length=m.live.length)(hfu:1000<fuel):∃H' v',(∀(d:Nat)(k:K),aj (aT cp t fuel (d+5)) (.func 98 []) [.ptr vp 0,.int 3 i] H k=k (.cG [v',.int 3 (if i<m.ae.length then 0 else 5)]) H')/\Step H (bz O vp) H' (bz O vp)/\VP H' dp vp a n A O m vl vs vi/\(¬i<m.ae.length->v'=.aC)/\∀s,m.ae[i]?=some s->Own H H' v' 2 (Dc ((mB m i).map (cw A)) (s.bP.map (cw A))).length (bK (Dc ((mB m i).map (cw A)) (s.bP.map (cw A)))):=by
 have hn0:=S.ok.num;have hl0:=S.ok.live.1;obtain⟨z1,S1,s1⟩:=rD (cp:=cp) (fuel:=fuel) T hc S;have z1:=λ{d}{k}=>z1 (d+1) k;generalize H.put vp (.cells (vc m vl vs vi dp false))=G1 at z1 S1 s1;have g1':=S1.get;simp only[vc,aS,bu,YK,YJ]at g1';have sn:=λ{id}{f:Nat->R}=>(let⟨_,h,_⟩:=S1.lO.ae;h.sn:bD id vs (λ_ _ len _ _=>f len) (f 0)=f m.ae.length);have a1:=l_ m.ae.length;have a2:=n_ m.ae.length;have a3:=n_ 0;have a4:¬i<0:=by omega
 by_cases hlt:i<m.ae.length
 .have hsi:=YA hlt;have hge:¬m.ae.length<=i:=by omega
  rw[if_pos hlt];have w1:=S1.cO.wf;have hll:∀s∈m.ae,s.bP.length<1000:=λs hs=>by rw[hil s hs];omega
  have sl:=λ{id}{f}=>S1.lO.live.sn (id:=id) (f:=f);have b1:=l_ m.live.length;obtain⟨G2,f2,o2,-,n2,z2⟩:=tM (x:=.int 3 0) (n:=m.live.length) rfl w1 rfl (by omega) (YC _) (a:=.s s043);have S2:=S1.fresh f2;have g2':=S2.get;simp only[vc,aS,bu,YK,YJ]at g2';have base:∃vb,cF G2 (bz O vp) vb (mB m i)/\(∀p∈mB m i,p<A.len)/\(mB m i).length=m.live.length/\∀(d)(kn)(kx)(e)(x),af s000 e=.ptr vp 0->af s001 e=.int 3 i->af s007 e=.slice G1.n 0 m.live.length (m.live.length+1) 0->(∀e',af s000 e'=.ptr vp 0->af s001 e'=.int 3 i->af s007 e'=vb->gG Q2 fuel (aT cp t fuel d) e' G2 kn kx=x)->gG Kl fuel (aT cp t fuel d) e G2 kn kx=x:=by
   unfold mB;by_cases h0:i=0
   .subst h0;simp only[if_true];refine⟨.slice G1.n 0 m.live.length (m.live.length+1) 0,?_,λp hp=>?_,WT,λd kn kx e x q0 q1 q7 hk=>?_⟩;.have:=o2.toRow S1.lt;unfold cF;rw[WT,Wc];exact this
    .rw[(List.mem_replicate.1 hp).2];have:=S.lo;omega
    .have e0:¬0<0:=by omega
     simp only[go_sem,Kl,q1,a3,e0];exact hk _ q0 q1 q7
   .obtain⟨j,rfl⟩:=s_ i;have hj:j<m.ae.length:=by omega
    simp only[h0,if_false,Wn];rw[YD,YA hj,YU];obtain⟨b,o,c,z,x,hvs,hbn,-,hI,hrd⟩:=S2.lO.ae.bP hj;have hrd:=λ{id}{k}=>hrd rfl (id:=id) (k:=k);have jx:=λ{id}{k}=>aM hI.one (id:=id) (k:=k);refine⟨x,hI,hlp _ (YP hj),hil _ (YP hj),λd kn kx e y q0 q1 q7 hk=>?_⟩;have e1:0<j+1:=by omega
    have e2:(j+1+18446744073709551615)%18446744073709551616=j:=by unfold nn at hi;omega
    have e3:=n_ j;have e4:=l_ j;have e5:=by omega
    subst hvs;simp only[go_sem,Kl,q0,q1,a3,hi,e1,e2,e4,hj,g2',↓hrd];exact hk _ q0 q1 rfl
  obtain⟨vb,hIb,hpb,hlb,zb⟩:=base;obtain⟨G3,wa,z3,f3,o3⟩:=lF (cp:=cp) T hc S2.cO S2.off S2.get S2.vn hIb (by omega) hpb S.hi hfu;have z3:=λ{d}{k}=>z3 d k;have S3:=S2.fresh f3;have g3':=S3.get;simp only[vc,aS,bu,YK,YJ]at g3';obtain⟨b,o,c,z,x,hvs,hbn,-,hI,hrd⟩:=S3.lO.ae.bP hlt;have hrd:=λ{id}{k}=>hrd rfl (id:=id) (k:=k);have jx:=λ{id}{k}=>aM hI.one (id:=id) (k:=k);obtain⟨G4,wb,z4,f4,o4⟩:=lF (cp:=cp) T hc S3.cO S3.off S3.get S3.vn hI (hll _ (YP hlt)) (hlp _ (YP hlt)) S.hi hfu;have z4:=λ{d}{k}=>z4 d k;have S4:=S3.fresh f4;have hilx:=hil _ (YP hlt);generalize m.ae[i]=s at hsi hI o4 hilx;have hA:zP G4 (bz O vp) wa ((mB m i).map (cw A)):=by have:=(o3.toRow S2.lt).fresh f4;unfold zP;rw[Yj,List.map_map];exact this
  have hB:zP G4 (bz O vp) wb (s.bP.map (cw A)):=by have:=o4.toRow S3.lt;unfold zP;rw[Yj,List.map_map];exact this
  obtain⟨G5,v',f5,o5,z5⟩:=Ot T S4.cO.wf hA hB (by rw[Yj,Yj,hlb,hilx]) (by rw[Yj,hilx];omega) hfu;have sb:=λ{id}{f}=>hB.sn (id:=id) (f:=f);simp only[Yj]at z5 sb;have b5:=l_ s.bP.length;have hs15:=s1.trans (f2.trans (f3.trans (f4.trans f5))).step;have hsn:=s1.n;refine⟨G5,v',λd k=>?_,hs15,S4.fresh f5,λh=>absurd hlt h,λs' hs'=>by rw[hsi]at hs';cases hs';exact o5.sub (by have:=f3.n;have:=f4.n;omega)⟩;rw[aI T.k49 rfl rfl];simp only[go_sem,c49,PX,Q0,↓z1,g1',↓sn,a1,a2,a3,a4,hi,hge];simp only[go_sem,Zh,g1',↓sl,b1,↓z2];refine zb (d+4) _ _ _ _ ?_ ?_ ?_ λe' q0 q1 q7=>?_;.rfl
  .rfl
  .rfl
  have b3:=hi;have b4:=l_ i;subst hvs;simp only[go_sem,Q2,Zi,Zj,q0,q1,q7,↓z3,g3',b4,hlt,↓hrd,↓z4];simp only[go_sem,Zk,Zl,PY,↓sb,b5];refine z5 (d+4) _ _ _ ?_ ?_ ?_ ?_ ?_ λe' q13=>?_;.rfl
  .rfl
  .rfl
  .rfl
  .rfl
  simp only[go_sem,PZ,P6,q13]
 .have hge:m.ae.length<=i:=by omega
  rw[if_neg hlt];refine⟨G1,.aC,λd k=>?_,s1,S1,λ_=>rfl,λs hs=>absurd (YW.1 hs).1 hlt⟩;rw[aI T.k49 rfl rfl];simp only[go_sem,c49,PX,Q0,↓z1,g1',↓sn,a1,a2,a3,a4,hi,hge]
end
end Go.Ev
end
