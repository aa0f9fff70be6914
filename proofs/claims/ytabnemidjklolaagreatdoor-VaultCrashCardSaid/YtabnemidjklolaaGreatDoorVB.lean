/- VB: a part of the evaluator,of its logic,or of the laws' walk in it. -/
import Derived.Test.YtabnemidjklolaaGreatDoorLC
open List renaming getElem?_eq_getElem→YA,length_append→YB,getD_eq_getElem?_getD→YG,length_cons→YH,mem_cons_of_mem→YI,nil_append→YJ,mem_singleton→YK,cons_append→YL,mem_cons→YN,map_cons→YP,getElem?_eq_some_iff→YQ,length_nil→YS,getElem_mem→YT,mem_map→YW,append_nil→YX,eq_nil_of_length_eq_zero→YY,map_nil→YZ,mem_of_getElem?→Yb,replicate→Yc,length_map→Yg,take_of_length_le→Yk,mem_append→Yl,getElem?_append_right→Ym,getElem?_append_left→Yp,getElem?_map→Yq,length_take→Yv,getElem?_take→Yy,map_append→Yz,append_assoc→WA,getElem?_drop→WB,mem_of_mem_take→WK,length_replicate→WW,take_length→We,map_replicate→Wh,length_set→Wj,drop_zero→Wz,take_zero→QF,findIdx?_eq_some_iff_getElem→QM,getLast?_eq_getElem?→YB1
open Nat renaming le_refl→YC,lt_of_lt_of_le→YE,zero_le→Ya,le_trans→Yr,zero_add→WG,add_zero→WN,mul_one→Wb,add_mul→Wi,add_sub_cancel→Wp,not_lt_zero→Wu,sub_zero→Wx,sub_self→QH,add_assoc→YC2,le_zero→YJ3,succ_ne_zero→YR3
open Or renaming inr→YD,inl→YF
open Option renaming getD_some→YU,getD_none→Wv
open Bool renaming false_eq_true→YV,not_true→WZ,true_eq_false→Qi,false_and→Qt,and_false→Qv,or_false→YD0,and_true→YD1,not_false→YE4
open Prod renaming fst→YK4,snd→YS4
set_option linter.unusedVariables false
set_option linter.unusedSimpArgs false
set_option linter.unusedSectionVars false
set_option maxHeartbeats 8000000
open Nat renaming reduceLT→ZE
section
namespace Go.Ev
def iA(A:AD)(ss:List (List UInt8)):Nat->List Wr|0=>[]|i+1=>iA A ss i++(if A.read (145+i)=tx (ss.getD i [])then[]else[(145+i,tx (ss.getD i []))])
theorem tm(A)(ss):∀i,(iA A ss i).length<=i|0=>YC _|i+1=>by have:=tm A ss i;simp only[iA,YB];split<;>simp<;>omega
theorem pN{A}{ss}:∀{i}{w},w∈iA A ss i->∃j,j<i/\w=(145+j,tx (ss.getD j []))
 |0,w,h=>by cases h|i+1,w,h=>by
  rcases Yl.1 h with h|h;.obtain⟨j,hj,e⟩:=pN h;exact⟨j,by omega,e⟩
  .split at h;.cases h
   .exact⟨i,by omega,YK.1 h⟩
theorem rS{A}{ss}:∀i,((iA A ss i).map (·.1)).Nodup
 |0=>List.nodup_nil|i+1=>by
  simp only[iA,Yz];refine List.nodup_append.2 ⟨rS i,by split<;>simp,λx hx y hy=>?_⟩;obtain⟨w,hw,rfl⟩:=YW.1 hx;obtain⟨j,hj,rfl⟩:=pN hw;split at hy;.cases hy
  .simp only[YP,YZ,YK]at hy;omega
theorem Mb{A}{ss}:∀{i j},j<i->A.read (145+j)≠tx (ss.getD j [])->((145+j,tx (ss.getD j [])):Wr)∈iA A ss i
 |0,j,h,_=>by omega|i+1,j,h,hn=>by
  simp only[iA];by_cases hj:j=i;.simp_all
  .exact List.mem_append_left _ (Mb (by omega) hn)
theorem Oj{A B:AD}{ss}{n}(hB:∀k,145<=k->find B.es k=find (laid A.es (iA A ss n)) k){j}(hj:j<n):B.read (145+j)=tx (ss.getD j []):=by
 rw[AD.read,hB _ (by omega)];by_cases h:A.read (145+j)=tx (ss.getD j [])
 .have hno:145+j∉(iA A ss n).map (·.1):=λhm=>by
   obtain⟨w,hw,e⟩:=YW.1 hm;have:∀m,((145+j,tx (ss.getD j [])):Wr)∉iA A ss m:=by intro m;induction m with|zero=>intro h;cases h|succ m ih=>intro hx;simp only[iA]at hx;simp_all
   obtain⟨i,hi,rfl⟩:=pN hw;simp_all
  rw[bA hno];exact h
 .rw[show find (laid A.es (iA A ss n)) (145+j)=some (tx (ss.getD j []))from cz (rS n) (Mb hj h)];rfl
theorem Dt{len}:∀{ws}{seen},(∀w∈ws,rz len w/\w.1∉seen)->(ws.map (·.1)).Nodup->gm len seen ws=true
 |[],_,_,_=>rfl|w::ws,seen,h,hn=>by
  rw[YP,List.nodup_cons]at hn;simp only[gm];rw[if_pos (h w (List.mem_cons_self ..))];refine Dt (λv hv=>⟨(h v (YI _ hv)).1,λhm=>?_⟩) hn.2;rcases Yl.1 hm with hm|hm;.exact(h v (YI _ hv)).2 hm
  .exact hn.1 (YW.2 ⟨v,hv,YK.1 hm⟩)
theorem Mv{m}(h:(px m).2=0):(px m).1.length<=1530:=by
 unfold px at h⊢;split at h
 .rename_i h0;rw[if_pos h0];split at h;.omega
  .rename_i h1;rw[if_neg h1];show(bz (oR m)).length<=1530;omega
 omega
section
variable{cp:RC->au}{t:Nat->Option du}{fuel:Nat}{H:Heap}{O:Nat->Prop}{pk:List UInt8->List (List UInt8)}{unpk:List (List UInt8)->Option (List UInt8)}
theorem zV(T:aB t)(F:bH pk unpk)(hp:t 110=some (.nat (dO pk))){m}{vl vs vi}(hw:H.wf)(M:kK H O m vl vs vi)(Y:kf m)(hfu:1000<fuel):∃H' v,(∀(d)(k),aj (aS cp t fuel (d+7)) (.func 126 []) [.agg (aW m vl vs vi)] H k=k (.cG [v,.int 3 (px m).2]) H')/\ah H H'/\v.one=true/\((px m).2=0->Own H H' v 1 (pk (px m).1).length ((pk (px m).1).map tv)):=by
 have i1:=λ{id}{k}=>aP M.live.one (id:=id) (k:=k);have i2:=λ{id}{k}=>aP (let⟨_,h,_⟩:=M.ae;h.one) (id:=id) (k:=k);have i3:=λ{id}{k}=>aP M.bT.one (id:=id) (k:=k);obtain⟨G1,hG1,f1,p1,n1⟩:=Heap.aV hw (.cells (aW m vl vs vi));obtain⟨G2,z2,f2⟩:=vJ (cp:=cp) T f1.wf (M.fresh f1) Y hfu;have w2:=f2.wf;have z2:=λ{d}{k}=>z2 d k;by_cases h0:(px m).2=0
 .have hl:=Mv h0;obtain⟨G3,hG3,f3,p3,n3⟩:=Heap.aV w2 (.cells ((pk (px m).1).map tv));have hpl:∀{d}{k},aj (aS cp t fuel (d+1)) (.func 220 []) [.str (px m).1.length (enc (px m).1)] G2 k=k (.cG [.slice G2.n 0 (pk (px m).1).length 0 1,.int 3 0]) G3:=λ{d k}=>by rw[mS hp rfl rfl];simp only[dO,YX,fW];rw[if_pos ⟨by omega,jj _⟩,cO w2,hG3]
  refine⟨G3,.slice G2.n 0 (pk (px m).1).length 0 1,λd k=>?_,(f1.trans f2).trans f3,rfl,λ_=>⟨by simp,λx hx=>?_,YD ⟨_,_,_,[],rfl,by rw[YX];omega,YD ⟨rfl,rfl,rfl⟩,(f1.trans f2).n,by omega⟩⟩⟩;.rw[h0]at z2⊢;simp only[tv]at z2;simp only[aW,bE]at hG1 p1 z2;rw[aI T.k63 rfl rfl];simp only[go_sem,c63,aW,bE,↓i1,↓i2,↓i3,hw,hG1,p1,↓z2,↓hpl]
  .obtain⟨s,-,rfl⟩:=YW.1 hx;rfl
 .refine⟨G2,.aE,λd k=>?_,f1.trans f2,rfl,λh=>absurd h h0⟩;simp only[aW,bE]at hG1 p1 z2;rw[aI T.k63 rfl rfl];simp only[go_sem,c63,aW,bE,↓i1,↓i2,↓i3,hw,hG1,p1,↓z2,h0]
end
theorem Gr.grow{H G:Heap}{v x:V}{sz n m:Nat}{row new:List V}(f:ah H G)(h:Gr H G v sz n row)(hN:∀{id:Nat}{f:Nat->List V->R},dg id sz G x f=f m new)(hl:new.length=m*sz)(hone:∀v∈new,v.one=true)(hb:n+m<1000000):∃v' G',(∀{id:Nat}{ph:dz}{e:Env}{k:K}{a y:Arg},aA a e=v->aA y e=x->aQ (.app false sz a y) id ph e G k=k v' G')/\Gr H G' v' sz (n+m) (row++new)/\ah H G'/\(∀j,j<G.n->iP v j->G'.get j=G.get j):=by
 by_cases hm:m=0
 .subst hm;have hr:new=[]:=YY (by omega);subst hr;refine⟨v,G,λ{id ph e k a y}ha hx=>?_,by rw[YX];exact h,f,λj _ _=>rfl⟩;rw[dn,ha,hx,hN];obtain⟨_,_,⟨rfl,_⟩|⟨b,c,s,rfl,_⟩⟩:=h;.rw[eI,if_pos rfl]
  .rw[cE,if_pos rfl]
 have hw:=f.wf;obtain⟨h1,h2,⟨rfl,rfl⟩|⟨b,c,s,rfl,g2,g3,g4,g5,g6⟩⟩:=h
 .have hr:row=[]:=YY (by omega);subst hr;refine⟨.slice G.n 0 m 0 sz,G.new (.cells new),λ{id ph e k a y}ha hx=>?_,⟨by simp[hl],by simpa using hone,YD ⟨G.n,0,sz,by rw[WG],by omega,YD ⟨rfl,rfl⟩,?_,f.n,by rw[Heap.aK];omega⟩⟩,f.trans (ah.new hw),λj hj _=>?_⟩;.rw[dn,ha,hx,hN,eI,if_neg hm,ck hone,if_pos (by omega),cO hw]
  .rw[Heap.aD hw,if_pos rfl];rfl
  .rw[Heap.aD hw,if_neg (by omega)]
 .have hlr:∀{id:Nat}{g:List V->R},fi id G b 0 (n*sz) g=g row:=λ{id g}=>by rw[qc,g4,gi,fA (Ya _),eW (by simp[h1])];rw[Wz,Yk (by omega)]
  have hlen:(row++new).length=(n+m)*sz:=by rw[YB,h1,hl,Wi]
  have hon:∀v∈row++new,v.one=true:=λv hv=>(Yl.1 hv).elim (h2 v) (hone v);rcases g3 with rfl|⟨rfl,rfl⟩
  .refine⟨.slice G.n 0 (n+m) 0 sz,G.new (.cells (row++new)),λ{id ph e k a y}ha hx=>?_,⟨hlen,hon,YD ⟨G.n,0,sz,rfl,by omega,YD ⟨rfl,rfl⟩,?_,f.n,by rw[Heap.aK];omega⟩⟩,f.trans (ah.new hw),λj hj _=>?_⟩;.rw[dn,ha,hx,hN,cE,if_neg hm,jb (by omega),ck hone,if_pos (by omega),hlr,ck h2,cO hw]
   .rw[Heap.aD hw,if_pos rfl]
   .rw[Heap.aD hw,if_neg (by omega)]
  .have hw2:(G.put b .dead).wf:=by rw[Heap.bu];exact hw
   refine⟨.slice G.n 0 (n+m) 0 s,(G.put b .dead).new (.cells (row++new)),λ{id ph e k a y}ha hx=>?_,⟨hlen,hon,YD ⟨G.n,0,s,rfl,by omega,YD ⟨rfl,rfl⟩,?_,f.n,by rw[Heap.aK,Heap.aR];omega⟩⟩,(f.put g5 g6).trans (ah.new hw2),λj hj ho=>?_⟩;.rw[dn,ha,hx,hN,cE,if_neg hm,mO,ck hone,if_pos (by omega),g4,gi,if_pos h1,ee hw g6,cO hw2,Heap.aR]
   .rw[Heap.aD hw2,if_pos (by rw[Heap.aR])]
   .rw[Heap.aD hw2,if_neg (by rw[Heap.aR];omega),Heap.aC hw g6,if_neg (ho _ _ _ _ _ rfl)]
theorem uC{ph}{e}{H H'}{kn:KE}{n0 id}{l}{fl st}{dd}{i bf}{ad}{op}{v w}{x}(hb:aA ad e=w)(hw:w=.aE\/∃b o n c s,w=.slice b o n c s/\∀k:R,dI id bf b fl k=k)(hop:∀k:K,aQ op id ph e H k=k v H')(hx:∀st',bI ph n0 l (dH dd v e) H' fl st' kn=x):bI ph n0 (⟨id,dd,none,3,i,bf,ad,op⟩::l) e H fl st kn=x:=by
 show aJ ad e (λa=>mM id a λob=>Option.rec (aQ op id ph e H λv H'=>bZ dd v e λe'=>bI ph n0 l e' H' fl st kn) (λb=>dI id bf b fl (aQ op id ph e H λv H'=>bZ dd v e λe'=>bI ph n0 l e' H' fl ((i,b)::st) kn)) ob)=_;rw[aq,hb];rcases hw with rfl|⟨b,o,n,c,s,rfl,h⟩;.show aQ op id ph e H (λv H'=>bZ dd v e λe'=>bI ph n0 l e' H' fl st kn)=_;rw[hop,cj];simp_all
 .show dI id bf b fl (aQ op id ph e H λv H'=>bZ dd v e λe'=>bI ph n0 l e' H' fl ((i,b)::st) kn)=_;rw[h,hop,cj];simp_all
def Lq(cp:RC->au)(t:Nat->Option du)(fuel B bt:Nat):List V->Heap->Heap->Prop|[],G,G'=>G'=G|f::fs,G,G'=>∃G1,(∀(d:Nat)(k:K),aj (aS cp t fuel (d+5)) f [.ptr B 0] G k=k (.cG []) G1)/\G1.get bt=G.get bt/\Lq cp t fuel B bt fs G1 G'
def vc(m:MT)(vl vs vi:V)(dp:Nat)(lost:Bool):List V:=aW m vl vs vi++[.ptr dp 0,.bool lost]
section
variable{cp:RC->au}{t:Nat->Option du}{fuel:Nat}{H:Heap}
theorem lL(T:aB t){B bt c z vp}{vb}{all}(hn:all.length<1000)(ha:∀f∈all,f.one=true):∀(fs pre)(G G'),all=pre++fs->Lq cp t fuel B bt fs G G'->G.get bt=.cells all->∀(d)(kx)(r)(e),fs.length<r->af s000 e=.ptr vp 0->af s001 e=vb->af s007 e=.ptr B 0->af s026 e=.slice bt 0 all.length c z->af s027 e=.int 3 all.length->af s030 e=.int 3 pre.length->∀x:R,(∀e',af s000 e'=.ptr vp 0->af s001 e'=vb->af s007 e'=.ptr B 0->kx 1 e' G'=x)->kq LL fuel (aS cp t fuel (d+7)) kx r e G=x
 |[],pre,G,G',hal,hT,hg,d,kx,r,e,hr,q0,q1,q7,q26,q27,q30,x,hk=>by
  obtain⟨r,rfl⟩:=s_ r;rw[YX]at hal;subst hal;obtain rfl:G'=G:=hT;have e1:¬all.length<all.length:=by omega
  have e2:=n_ all.length;rw[ak];simp only[go_sem,LL,q27,q30,e1,e2];exact hk _ q0 q1 q7|f::fs,pre,G,G',hal,⟨G1,z1,h1,hT⟩,hg,d,kx,r,e,hr,q0,q1,q7,q26,q27,q30,x,hk=>by
  obtain⟨r,rfl⟩:=s_ r;have hl:all.length=pre.length+(fs.length+1):=by rw[hal];simp
  have hget:all[pre.length]?=some f:=by rw[hal];simp
  have hf1:=ha f (Yb hget);have hrd:∀{id}{k},nth id all pre.length k=k f:=gY hget;have e1:pre.length<all.length:=by omega
  have e2:=n_ all.length;have e3:=n_ pre.length;have e4:=l_ pre.length;have e5:=m_ (pre.length+1);have e6:=by omega
  have i1:=λ{id}{k}=>aP hf1 (id:=id) (k:=k);have z1:=λ{d}{k}=>z1 d k;rw[ak];simp only[go_sem,LL,q7,q26,q27,q30,e1,e2,e3,e4,e5,hg,↓hrd,↓z1];refine lL (c:=c) (z:=z) T hn ha fs (pre++[f]) G1 G' (by rw[hal];simp) hT (h1.trans hg) d kx r _ (by simp at hr;omega) ?_ ?_ ?_ ?_ ?_ ?_ x hk;.exact q0
  .exact q1
  .exact q7
  .exact q26
  .exact q27
  .simp only[go_sem,YB,YH,YS]
theorem Ok(T:aB t)(hc:aM t){vp dp B:Nat}{m:MT}{vl vs vi vS vb:V}{lost:Bool}{A:AD}{O Q:Nat->Prop}{ss:List (List UInt8)}(hD:cB H dp A O)(ho:A.off=false)(hV:H.get vp=.cells (vc m vl vs vi dp lost))(hVn:vp<H.n)(hvs:Row H Q vS 1 ss.length (ss.map tv))(hN:ss.length<=48)(hA:193<=A.len)(hA2:A.len<=1024):∀(m i:Nat)(G:Heap)(vw:V),i+m=ss.length->ah H G->Gr H G vw 2 (iA A ss i).length (bX (iA A ss i))->∃G' vw',ah H G'/\Gr H G' vw' 2 (iA A ss ss.length).length (bX (iA A ss ss.length))/\∀(d:Nat)(kx:Nat->KE)(r:Nat)(e:Env),m<r->af s000 e=.ptr vp 0->af s001 e=vb->af s007 e=.ptr B 0->af s014 e=vw->af s047 e=vS->af s050 e=.int 3 ss.length->af s051 e=.int 3 i->∀x:R,(∀e',af s000 e'=.ptr vp 0->af s001 e'=vb->af s007 e'=.ptr B 0->af s014 e'=vw'->kx 3 e' G'=x)->
  kq Fc fuel (aS cp t fuel (d+3)) kx r e G=x:=by intro mm;induction mm with|zero=>
  intro i G vw hi f hg;obtain rfl:i=ss.length:=by omega
  refine⟨G,vw,f,hg,λd kx r e hr q0 q1 q7 q14 q47 q50 q51 x hT=>?_⟩;obtain⟨r,rfl⟩:=s_ r;have e1:¬ss.length<ss.length:=by omega
  have e2:=n_ ss.length;rw[ak];simp only[go_sem,Fc,q50,q51,e1,e2];exact hT _ q0 q1 q7 q14|succ mm ih=>
  intro i G vw hi f hg;have hlt:i<ss.length:=by omega
  have hget:ss[i]?=some ss[i]:=YA hlt;have hgd:ss.getD i []=ss[i]:=by rw[YG,hget];rfl
  have hdif:iA A ss (i+1)=iA A ss i++(if A.read (145+i)=tx ss[i]then[]else[(145+i,tx ss[i])]):=by rw[<-hgd];rfl
  generalize ss[i]=sx at hget hdif;have hrow:(ss.map tv)[i*1]?=some (tv sx):=by rw[Wb,Yq,hget];rfl
  obtain⟨bs,os,cs,zs,rfl,hbn,-,hop⟩:=hvs.open hlt;have hrd:∀{id:Nat}{k:V->R},DL id (G.get bs) (os+i) k=k (tv sx):=λ{id k}=>by have:=(hop (f.same bs hbn)).2 hrow (id:=id) (k:=k);rwa[Wb]at this
  have gK:G.get vp=.cells (vc m vl vs vi dp lost):=(f.same vp hVn).trans hV;obtain⟨G1,z1,f1⟩:=qm (cp:=cp) (fuel:=fuel) (a:=145+i) (T.jJ hc) (hD.fresh f) ho (by omega);have w1:=f1.wf;have e1:=n_ i;have e2:=n_ ss.length;have e3:=l_ i;have e9:=m_ (i+1);have e10:=m_ (145+i);have z1':=λ{d:Nat}{k:K}=>z1 d k;generalize hq:A.read (145+i)=q at z1' hdif;simp only[vc,aW,bE,YL,YJ]at gK;by_cases hqs:q=tx sx
  .rw[if_pos hqs,YX]at hdif;obtain⟨G',vw',f',hg',hL⟩:=ih (i+1) G1 vw (by omega) (f.trans f1) (by rw[hdif];exact hg.fresh f1);refine⟨G',vw',f',hg',λd kx r e hr q0 q1 q7 q14 q47 q50 q51 x hT=>?_⟩;obtain⟨r,rfl⟩:=s_ r;rw[hqs]at z1';simp only[sv,tx]at z1';simp only[tv]at hrd;rw[ak];simp only[go_sem,Fc,q0,q47,q50,q51,hlt,e1,e2,e3,e9,e10,↓hrd,gK,↓z1',and_self];refine hL d kx r _ (by omega) ?_ ?_ ?_ ?_ ?_ ?_ ?_ x hT;.exact q0
   .exact q1
   .exact q7
   .exact q14
   .exact q47
   .exact q50
   .rfl
  .rw[if_neg hqs]at hdif;obtain⟨G2,hG2,f2,p2,n2⟩:=Heap.aV w1 (.cells [.int 3 (145+i),tv sx]);obtain⟨v',G3,hap,hg3,f3,_,_,_⟩:=Gr.app (cx:=2) (sx:=0) ((f.trans f1).trans f2) ((hg.fresh f1).fresh f2) p2 rfl (by simp[tv,V.one]) (by have:=tm A ss i;omega);have hl1:(iA A ss (i+1)).length=(iA A ss i).length+1:=by rw[hdif];simp
   have hl2:bX (iA A ss (i+1))=bX (iA A ss i)++[.int 3 (145+i),tv sx]:=by rw[hdif,dY];rfl
   obtain⟨G',vw',f',hg',hL⟩:=ih (i+1) G3 v' (by omega) f3 (by rw[hl1,hl2];exact hg3);refine⟨G',vw',f',hg',λd kx r e hr q0 q1 q7 q14 q47 q50 q51 x hT=>?_⟩;obtain⟨r,rfl⟩:=s_ r;have hne:(q.1=sx.length/\q.2=enc sx)=False:=eq_false λh=>hqs (Prod.ext h.1 h.2);simp only[sv]at z1';simp only[tv]at hrd hG2;rw[ak];simp only[go_sem,Fc,q0,q14,q47,q50,q51,hlt,e1,e2,e3,e9,e10,↓hrd,gK,↓z1',hne,w1,hG2,↓hap];refine hL d kx r _ (by omega) ?_ ?_ ?_ ?_ ?_ ?_ ?_ x hT;.exact q0
   .exact q1
   .exact q7
   .rfl
   .exact q47
   .exact q50
   .rfl
end
def bg(O:Nat->Prop)(kp:Nat):Nat->Prop:=λb=>O b\/b=kp
theorem Step.ju{H:Heap}{P:Nat->Prop}{kp:Nat}{x:eN}(hw:H.wf)(hk:kp<H.n)(hp:P kp):Step H P (H.put kp x) P:=⟨by rw[Heap.bu];exact hw,by rw[Heap.aR];exact YC _,λb hb ho=>⟨by rw[Heap.aC hw hk,if_neg (λe=>ho (by rw[e];exact hp))],ho⟩,λlo h1 h2 h3=>⟨Heap.dN h1 (h3 kp hp),h3⟩⟩
theorem Step.Ag{H H':Heap}{O O':Nat->Prop}{kp:Nat}(s:Step H O H' O'):Step H (bg O kp) H' (bg O' kp):=⟨s.wf,s.n,λb hb ho=>⟨(s.same b hb λh=>ho (YF h)).1,λh=>h.elim (λh=>(s.same b hb λh=>ho (YF h)).2 h) λh=>ho (YD h)⟩,λlo h1 h2 h3=>⟨(s.lo lo h1 h2 λb hb=>h3 b (YF hb)).1,λb hb=>hb.elim (λhb=>(s.lo lo h1 h2 λb hb=>h3 b (YF hb)).2 b hb) λhb=>h3 b (YD hb)⟩⟩
theorem fN.qA{H:Heap}{O Q:Nat->Prop}{v:V}{ss:List Sn}(h:fN H O v ss)(h0:∀b,b<H.n->Q b->O b):fN H Q v ss:=let⟨xs,h1,h2,h3⟩:=h;⟨xs,h1.qA h0,h2,λi s hs=>let⟨x,g1,g2⟩:=h3 i s hs;⟨x,g1,Row.qA g2 h0⟩⟩
theorem kK.qA{H:Heap}{O Q:Nat->Prop}{m:MT}{vl vs vi:V}(h:kK H O m vl vs vi)(h0:∀b,b<H.n->Q b->O b):kK H Q m vl vs vi:=⟨Row.qA h.live h0,h.ae.qA h0,Row.qA h.bT h0⟩
def Es(pk:List UInt8->List (List UInt8))(A:AD)(m:MT)(bw:List Wr):List Wr:=iA A (pk (px m).1) (pk (px m).1).length++bw
def lO(pk:List UInt8->List (List UInt8))(A:AD)(a:Nat)(m:MT)(bw:List Wr):AD×Nat:=if(px m).2=0then A.dm pk a (Es pk A m bw)else(A,(px m).2)
section
variable{cp:RC->au}{t:Nat->Option du}{fuel:Nat}{H:Heap}{pk:List UInt8->List (List UInt8)}{unpk:List (List UInt8)->Option (List UInt8)}
set_option maxRecDepth 4000in theorem Fv(T:aB t)(hc:aM t)(F:bH pk unpk)(hp:t 110=some (.nat (dO pk))){dp vp a n bt c z:Nat}{A:AD}{O:Nat->Prop}{m m':MT}{vl vs vi vb:V}{lost:Bool}{bw:List Wr}{fs:List V}{Hb:Heap}(f0:ah Hb H)(hD:cB Hb dp A O)(ho:A.off=false)(C:mK A a n)(hA:193<=A.len)(hA2:A.len<=1024)(hV:Hb.get vp=.cells (vc m vl vs vi dp lost))(hVn:vp<Hb.n)(hVO:¬O vp)(M:kK Hb (bg O vp) m vl vs vi)(Y:kf m)(Y':kf m')(hbw:∀w∈bw,w.1<18446744073709551616/\w.2.1<1000000/\tM w.2)(hbl:bw.length<1000)(hbt:H.get bt=.cells fs)(hbn:bt<H.n)(hfl:fs.length<1000)(hf1:∀f∈fs,f.one=true)(ht:∀(G1 G:Heap)(vl1 vs1 vi1:V),ah H G1->MO H G1 m vl1 vs1 vi1->ah G1 G->G.get G1.n=.cells (aW m vl1 vs1 vi1)->G.n=G1.n+1->∃G' vl2 vs2 vi2,Lq cp t fuel G1.n bt fs G G'/\ah Hb G'/\G1.n<G'.n/\G'.get G1.n=.cells (aW m' vl2 vs2 vi2)/\kK G' (λb=>b<Hb.n) m' vl2 vs2 vi2/\Row G' (bg O vp) vb 2 bw.length (bX bw))(hfu:1000000<fuel):∃H' O',(∀(d:Nat)(k:K),aj (aS cp t fuel (d+8)) (.func 112 []) [.ptr vp 0,vb,.slice bt 0 fs.length c z] H k=k (.int 3 (lO pk A a m' bw).2) H')/\Step Hb (bg O vp) H' (bg O' vp)/\cB H' dp (lO pk A a m' bw).1 O'/\¬O' vp/\vp<H'.n/\(((lO pk A a m' bw).2=0/\∃vl2 vs2 vi2,H'.get vp=.cells (vc m' vl2 vs2 vi2 dp lost)/\kK H' (bg O' vp) m' vl2 vs2 vi2/\∀X:Nat->Prop,(∀b,X b->b<Hb.n)->kK H' (λb=>X b\/bg O' vp b) m' vl2 vs2 vi2)\/((lO pk A a m' bw).2≠0/\H'.get vp=.cells (vc m vl vs vi dp (lost||((px m').2==0&&(lO pk A a m' bw).2==6)))/\kK H' (bg O' vp) m vl vs vi/\∀X:Nat->Prop,kK Hb (λb=>X b\/bg O vp b) m vl vs vi->kK H' (λb=>X b\/bg O' vp b) m vl vs vi)):=by
 have hw:=f0.wf;have m0:=f0.n;have hWn:∀b,bg O vp b->b<Hb.n:=λb h=>h.elim (hD.lt b) λh=>by rw[h];exact hVn
 have i1:=λ{id:Nat}{k:R}=>aP M.live.one (id:=id) (k:=k);have i2:=λ{id:Nat}{k:R}=>aP (let⟨_,h,_⟩:=M.ae;h.one) (id:=id) (k:=k);have i3:=λ{id:Nat}{k:R}=>aP M.bT.one (id:=id) (k:=k);obtain⟨G1,vl1,vs1,vi1,z1,f1,o1⟩:=Q9 (cp:=cp) (fuel:=fuel) T hw (M.fresh f0) Y (by omega);obtain⟨o1a,o1b,o1c⟩:=o1.one;have j1:=λ{id:Nat}{k:R}=>aP o1a (id:=id) (k:=k);have j2:=λ{id:Nat}{k:R}=>aP o1b (id:=id) (k:=k);have j3:=λ{id:Nat}{k:R}=>aP o1c (id:=id) (k:=k);have w1:=f1.wf;obtain⟨G2,hG2,f2,p2,n2⟩:=Heap.aV w1 (.cells [.aE,.aE,.int 7 0,.int 7 0,.int 7 0,.int 7 0,.int 3 0,.int 3 0,.aE]);have w2:=f2.wf;have hB2:G1.n<G2.n:=by omega
 obtain⟨G3,hG3,f3,p3,n3,w3,k3⟩:=Heap.bq (b:=G1.n) f2 (YC _) hB2 (.cells (aW m vl1 vs1 vi1));obtain⟨G4,vl2,vs2,vi2,hT,f4,hB4,p4,M4',R4⟩:=ht G1 G3 vl1 vs1 vi1 f1 o1 f3 p3 (by omega);have M4:kK G4 (bg O vp) m' vl2 vs2 vi2:=M4'.qA λb _ h=>hWn b h;have hbt3:G3.get bt=.cells fs:=(f3.same _ (by have:=f1.n;omega)).trans ((f1.same _ hbn).trans hbt);obtain⟨G5,vS,z5,f5,hS1,hS⟩:=zV (cp:=cp) (fuel:=fuel) T F hp f4.wf M4 Y' (by omega);have m1:=f1.n;have m4:=f4.n;have m5:=f5.n;have f45:=f4.trans f5;have z1:=λ{d:Nat}{k:K}=>z1 (d+4) k;have z5:=λ{d:Nat}{k:K}=>z5 d k;have hV':=(f0.same _ hVn).trans hV;simp only[vc,aW,bE,YL,YJ]at hV';have gB4':=p4;have hVs:∀{x:eN},Hb.get vp=x->G5.get vp=x:=λh=>(f45.same _ hVn).trans h;simp only[aW,bE]at z1 hG3 gB4' z5;have hcz:=l_ fs.length;unfold lO;by_cases h0:(px m').2=0
 .rw[if_pos h0];have hS:=hS h0;have hlen:=Mv h0;have hsz:=F.size (px m').1 (by omega);rw[h0]at z5;have h32:=F.len (px m').1 (by omega);generalize hws:Es pk A m' bw=ws;unfold Es at hws;generalize pk (px m').1=ss at hS hsz h32 hws;have hSr:Row G5 (bg O vp) vS 1 ss.length (ss.map tv):=hS.toRow λb h=>YE (hWn b h) m4;have hsS:=λ{id:Nat}{f:Nat->R}=>hS.sn (id:=id) (f:=f);have e1:=l_ ss.length;obtain⟨G6,vw,f6,hvw,hL⟩:=Ok (cp:=cp) (fuel:=fuel) (B:=G1.n) (vb:=vb) T hc (hD.fresh f45) ho (hVs hV) (by omega) hSr (by omega) hA hA2 ss.length 0 G5 .aE (by omega) (ah.refl f5.wf) Gr.aE;have hdl:=tm A ss ss.length;have f46:=f45.trans f6;have m6:=f6.n;obtain⟨vws,G7,hop,hvws,f7,k7⟩:=Gr.grow (x:=vb) f6 hvw (λ{id f}=>R4.nc λb hb _=>(f5.trans f6).same b hb) (by rw[dB]) (λv hv=>R4.2.1 v hv) (by omega);have f47:=f45.trans f7;have gV6:=(f46.same _ hVn).trans hV;have gV7:=(f47.same _ hVn).trans hV;have gV6':=gV6;simp only[vc,aW,bE,YL,YJ]at gV6';have hoff:vw=.aE\/∃b o n c s,vw=.slice b o n c s/\∀k:R,dI 0 48 b [(3,vp)] k=k:=by
   obtain⟨_,_,⟨h,_⟩|⟨b,c,s,h,_,_,_,g,_⟩⟩:=hvw;.exact YF h
   .exact YD ⟨b,0,_,c,s,h,λk=>by rw[vr,if_neg (by decide),if_neg (by omega),iZ]⟩
  rw[<-YB,<-dY,hws]at hvws;have hws':∀w∈ws,w.1<18446744073709551616/\w.2.1<1000000/\tM w.2:=by
   intro w hw;rw[<-hws]at hw;rcases Yl.1 hw with h|h;.obtain⟨j,hj,rfl⟩:=pN h;have:(ss.getD j []).length=32:=h32 _ (by rw[YG,YA hj];exact YT _);exact⟨by show 145+j<_;omega,by show(ss.getD j []).length<_;omega,jj _⟩
   .exact hbw w h
  have hwl:ws.length<10000:=by rw[<-hws,YB];omega
  have hwsAt:nN G7 vws ws O:=by
   obtain⟨p1,p2,⟨p3,p4⟩|⟨b,c,s,p3,p4,p5,p6,p7,p8⟩⟩:=hvws;.exact YF ⟨p3,YY p4⟩
   .exact YD ⟨b,c,s,p3,p6,p8,λhb=>by have:=hD.lt b hb;omega⟩
  obtain⟨G8,O8,z8,s8,D8⟩:=vF (cp:=cp) (fuel:=fuel) T hc F hp (hD.fresh f47) C hwsAt hws' hwl (by omega);have z8:=λ{d:Nat}{k:K}=>z8 d k;have hn47:=f47.n;have hs8:=s8.n;have hV8:G8.get vp=.cells (vc m vl vs vi dp lost):=(s8.same _ (by omega) hVO).1.trans gV7;have hVO8:¬O8 vp:=(s8.same _ (by omega) hVO).2;have M48:kK G8 (bg O8 vp) m' vl2 vs2 vi2:=(M4.fresh (f5.trans f7)).bU s8.Ag;have M08:kK G8 (bg O8 vp) m vl vs vi:=(M.fresh f47).bU s8.Ag;have s08:Step Hb (bg O vp) G8 (bg O8 vp):=f47.step.trans s8.Ag;have hBO:¬O G1.n:=λh=>by have:=hD.lt _ h;omega
  have hB8:G8.get G1.n=.cells (aW m' vl2 vs2 vi2):=(s8.same _ (by have:=f7.n;omega) hBO).1.trans (((f5.trans f7).same _ hB4).trans p4);have w8:=s8.wf;have hp8:vp<G8.n:=by omega
  have hV8':=hV8;simp only[vc,aW,bE,YL,YJ]at hV8';have hB8':=hB8;simp only[aW,bE]at hB8';have y1:=λ{id:Nat}{k:R}=>aP M48.live.one (id:=id) (k:=k);have y2:=λ{id:Nat}{k:R}=>aP (let⟨_,h,_⟩:=M48.ae;h.one) (id:=id) (k:=k);have y3:=λ{id:Nat}{k:R}=>aP M48.bT.one (id:=id) (k:=k);generalize(A.dm pk a ws).2=cd at z8⊢;by_cases c0:cd=0
  .subst c0;obtain⟨G9,hG9,-,p9,n9,w9,k9⟩:=Heap.bq (b:=vp) (ah.refl w8|>λf=>(⟨f.wf,Ya _,λj hj=>absurd hj (Wu _),λlo _ h=>by rw[show lo=0from YJ3.1 h];exact Ya _⟩:ah (.mk 0 0 .e) G8)) (Ya _) hp8 (.cells (vc m' vl2 vs2 vi2 dp lost));have s9:Step G8 (bg O8 vp) G9 (bg O8 vp):=by rw[<-hG9];exact Step.ju w8 hp8 (YD rfl)
   refine⟨G9,O8,λd k=>?_,s08.trans s9,?_,hVO8,by omega,YF ⟨rfl,vl2,vs2,vi2,p9,M48.bU s9,λX hX=>(((M4'.qA λb _ h=>h.elim (hX b) (hWn b)).fresh (f5.trans f7)).bU s8.Ag.or).bU s9.or⟩⟩
   .simp only[vc,aW,bE,YL,YJ]at hG9;rw[aI T.k56 rfl rfl];simp only[go_sem,c56,Fe,hV',↓z1,↓j1,↓j2,↓j3,w1,hG2,p2,w2,hB2,hG3];simp only[go_sem,Ff,hcz];refine lL (cp:=cp) (fuel:=fuel) (vp:=vp) (vb:=vb) (c:=c) (z:=z) T hfl hf1 fs [] G3 G4 rfl hT hbt3 d _ fuel _ (by omega) ?_ ?_ ?_ ?_ ?_ ?_ _ λe' q0 q1 q7=>?_;.rfl
    .rfl
    .rfl
    .rfl
    .rfl
    .simp only[go_sem,YS]
    simp only[go_sem,Fg,Fh,q7,gB4',↓z5];simp only[go_sem,LM,LN,↓hsS,e1];refine hL (d+4) _ fuel _ (by omega) ?_ ?_ ?_ ?_ ?_ ?_ ?_ _ λe'' q0 q1 q7 q14=>?_;.exact q0
    .exact q1
    .exact q7
    .rfl
    .rfl
    .rfl
    .rfl
    simp only[go_sem,LO,tC,fS,q0];refine(tD (b:=vp) (o:=9) (v:=.ptr dp 0) rfl (by omega) (λk=>by simp only[go_sem,gV6']) (λk=>iZ)).trans ?_;simp only[go_sem,fS,q1,q14];refine uC (v:=vws) (H':=G7) (w:=vw) rfl hoff (λk=>hop rfl rfl) λst'=>?_;simp only[go_sem,fS,nV,↓z8];simp only[go_sem,LP,q0,q7,hB8',↓y1,↓y2,↓y3,hV8',w8,hp8,hG9];simp only[go_sem,LQ,CA]
   .rw[<-hG9];exact(D8.bU (Q:=λb=>b=vp) (Step.ju w8 hp8 rfl) λb hb e=>hVO8 (by rw[<-e];exact hb)).1
  .by_cases c6:cd=6
   .subst c6;obtain⟨G9,hG9,-,p9,n9,w9,k9⟩:=Heap.bq (b:=vp) (ah.refl w8|>λf=>(⟨f.wf,Ya _,λj hj=>absurd hj (Wu _),λlo _ h=>by rw[show lo=0from YJ3.1 h];exact Ya _⟩:ah (.mk 0 0 .e) G8)) (Ya _) hp8 (.cells (vc m vl vs vi dp true));have s9:Step G8 (bg O8 vp) G9 (bg O8 vp):=by rw[<-hG9];exact Step.ju w8 hp8 (YD rfl)
    refine⟨G9,O8,λd k=>?_,s08.trans s9,?_,hVO8,by omega,YD ⟨c0,?_,M08.bU s9,λX hX=>((hX.fresh f47).bU s8.Ag.or).bU s9.or⟩⟩
    .simp only[vc,aW,bE,YL,YJ]at hG9;rw[aI T.k56 rfl rfl];simp only[go_sem,c56,Fe,hV',↓z1,↓j1,↓j2,↓j3,w1,hG2,p2,w2,hB2,hG3];simp only[go_sem,Ff,hcz];refine lL (cp:=cp) (fuel:=fuel) (vp:=vp) (vb:=vb) (c:=c) (z:=z) T hfl hf1 fs [] G3 G4 rfl hT hbt3 d _ fuel _ (by omega) ?_ ?_ ?_ ?_ ?_ ?_ _ λe' q0 q1 q7=>?_;.rfl
     .rfl
     .rfl
     .rfl
     .rfl
     .simp only[go_sem,YS]
     simp only[go_sem,Fg,Fh,q7,gB4',↓z5];simp only[go_sem,LM,LN,↓hsS,e1];refine hL (d+4) _ fuel _ (by omega) ?_ ?_ ?_ ?_ ?_ ?_ ?_ _ λe'' q0 q1 q7 q14=>?_;.exact q0
     .exact q1
     .exact q7
     .rfl
     .rfl
     .rfl
     .rfl
     simp only[go_sem,LO,tC,fS,q0];refine(tD (b:=vp) (o:=9) (v:=.ptr dp 0) rfl (by omega) (λk=>by simp only[go_sem,gV6']) (λk=>iZ)).trans ?_;simp only[go_sem,fS,q1,q14];refine uC (v:=vws) (H':=G7) (w:=vw) rfl hoff (λk=>hop rfl rfl) λst'=>?_;simp only[go_sem,fS,nV,↓z8];simp only[go_sem,LP,q0,hV8',w8,hp8,hG9];simp only[go_sem,LQ,CA]
    .rw[<-hG9];exact(D8.bU (Q:=λb=>b=vp) (Step.ju w8 hp8 rfl) λb hb e=>hVO8 (by rw[<-e];exact hb)).1
    .rw[p9,h0];simp
   .refine⟨G8,O8,λd k=>?_,s08,D8,hVO8,by omega,YD ⟨c0,?_,M08,λX hX=>(hX.fresh f47).bU s8.Ag.or⟩⟩
    .rw[aI T.k56 rfl rfl];simp only[go_sem,c56,Fe,hV',↓z1,↓j1,↓j2,↓j3,w1,hG2,p2,w2,hB2,hG3];simp only[go_sem,Ff,hcz];refine lL (cp:=cp) (fuel:=fuel) (vp:=vp) (vb:=vb) (c:=c) (z:=z) T hfl hf1 fs [] G3 G4 rfl hT hbt3 d _ fuel _ (by omega) ?_ ?_ ?_ ?_ ?_ ?_ _ λe' q0 q1 q7=>?_;.rfl
     .rfl
     .rfl
     .rfl
     .rfl
     .simp only[go_sem,YS]
     simp only[go_sem,Fg,Fh,q7,gB4',↓z5];simp only[go_sem,LM,LN,↓hsS,e1];refine hL (d+4) _ fuel _ (by omega) ?_ ?_ ?_ ?_ ?_ ?_ ?_ _ λe'' q0 q1 q7 q14=>?_;.exact q0
     .exact q1
     .exact q7
     .rfl
     .rfl
     .rfl
     .rfl
     simp only[go_sem,LO,tC,fS,q0];refine(tD (b:=vp) (o:=9) (v:=.ptr dp 0) rfl (by omega) (λk=>by simp only[go_sem,gV6']) (λk=>iZ)).trans ?_;simp only[go_sem,fS,q1,q14];refine uC (v:=vws) (H':=G7) (w:=vw) rfl hoff (λk=>hop rfl rfl) λst'=>?_;simp only[go_sem,fS,nV,↓z8];simp only[go_sem,LP,c0,c6];simp only[go_sem,LQ,CA]
    .rw[hV8,show(cd==6)=false from beq_eq_false_iff_ne.2 c6,Qv,YD0]
 .rw[if_neg h0];generalize(px m').2=en at z5 h0;refine⟨G5,O,λd k=>?_,f45.step,hD.fresh f45,hVO,by omega,YD ⟨h0,?_,M.fresh f45,λX hX=>hX.fresh f45⟩⟩
  .rw[aI T.k56 rfl rfl];simp only[go_sem,c56,Fe,hV',↓z1,↓j1,↓j2,↓j3,w1,hG2,p2,w2,hB2,hG3];simp only[go_sem,Ff,hcz];refine lL (cp:=cp) (fuel:=fuel) (vp:=vp) (vb:=vb) (c:=c) (z:=z) T hfl hf1 fs [] G3 G4 rfl hT hbt3 d _ fuel _ (by omega) ?_ ?_ ?_ ?_ ?_ ?_ _ λe' q0 q1 q7=>?_;.rfl
   .rfl
   .rfl
   .rfl
   .rfl
   .simp only[go_sem,YS]
   simp only[go_sem,Fg,Fh,q7,gB4',↓z5];simp only[go_sem,h0]
  .rw[hVs hV,show(en==0)=false from beq_eq_false_iff_ne.2 h0,Qt,YD0]
end
def ek(a b:Gd):Bool:=decide (b.1<a.1)||(decide (a.1=b.1)&&decide (b.2<a.2))
def tL(m:MT)(block:Nat)(data:List UInt8):Bool:=decide (block<m.live.length)&&decide (data.length=32)
section
variable{cp:RC->au}{t:Nat->Option du}{fuel:Nat}{H:Heap}{O:Nat->Prop}
theorem xx(T:aB t){a b:Gd}(hw:H.wf)(ha:kP a)(hb:kP b):∃H',(∀(d:Nat)(k:K),aj (aS cp t fuel (d+1)) (.func 150 []) [.agg (aZ a),.agg (aZ b)] H k=k (.bool (ek a b)) H')/\ah H H':=by
 obtain⟨G1,hG1,f1,p1,n1⟩:=Heap.aV hw (.cells (aZ a));obtain⟨G2,hG2,f2,p2,n2⟩:=Heap.ly (m:=H.n+1) n1 f1.wf (.cells (aZ b));have q1:G2.get H.n=.cells (aZ a):=(f2.same _ (by omega)).trans p1;have w1:=f1.wf;obtain⟨a1,a2⟩:=a;obtain⟨b1,b2⟩:=b;obtain⟨u1,u2⟩:=ha;obtain⟨u3,u4⟩:=hb;refine⟨G2,λd k=>?_,f1.trans f2⟩;simp only[aZ]at hG1 p1 hG2 p2 q1;rw[aI T.k75 rfl rfl];unfold ek;have g1:=oO u1 u3;have g2:=oO u2 u4;have ne:¬H.n=H.n+1:=by omega
 simp only at g1 g2⊢;by_cases h2:a1=b1
 .subst h2;have h1:¬a1<a1:=by omega
  by_cases h3:b2<a2<;>simp only[go_sem,c75,aZ,hw,hG1,n1,w1,hG2,p2,q1,g1,g2,h1,h3,decide_true,decide_false,Bool.or_true,YD0,YD1,Qv]
 .by_cases h1:b1<a1<;>by_cases h3:b2<a2<;>simp only[go_sem,↓X7,c75,aZ,hw,hG1,n1,w1,hG2,p2,q1,g1,h1,h2,h3,decide_true,decide_false,YD0,YD1,Qv]
theorem Q8(T:aB t){m:MT}{vl vs vi:V}{vp dp block:Nat}{lost:Bool}{data:List UInt8}(hV:H.get vp=.cells (vc m vl vs vi dp lost))(M:kK H O m vl vs vi)(hl:m.live.length<1000000)(hb:block<18446744073709551616)(hd:data.length<1000000)(d:Nat)(k:K):aj (aS cp t fuel (d+1)) (.func 136 []) [.ptr vp 0,.int 3 block,tv data] H k=k (.bool (decide (block<9223372036854775808)&&tL m block data)) H:=by
 simp only[vc,aW,bE,YL,YJ]at hV;have sn:=λ{id:Nat}{f:Nat->R}=>M.live.sn (id:=id) (f:=f);have e1:=l_ m.live.length;have e2:=n_ m.live.length;have e3:=l_ data.length;rw[aI T.k68 rfl rfl];unfold tL;simp only[tv];by_cases h1:block<9223372036854775808;.have e4:=n_ block;by_cases h2:block<m.live.length<;>by_cases h3:data.length=32<;>simp only[go_sem,ZE,c68,hV,↓sn,e1,e2,e3,e4,h1,h2,h3,decide_true,decide_false,YD1,Qv,Ya]
 .have e5:¬ej (.ge 9223372036854775808 18446744073709551616) block 0=true:=by rw[Fs];omega
  simp only[go_sem,c68,e5,h1,decide_false,Qt]
theorem iu(T:aB t)(hc:aM t){m:MT}{vl vs vi:V}{vp dp:Nat}{lost:Bool}{A:AD}(hD:cB H dp A O)(hV:H.get vp=.cells (vc m vl vs vi dp lost))(hVn:vp<H.n)(hVO:¬O vp):∃H',(∀(d:Nat)(k:K),aj (aS cp t fuel (d+3)) (.func 102 []) [.ptr vp 0] H k=k (.int 3 (if lost=true\/A.off=true then 6 else 0)) H')/\Step H (bg O vp) H' (bg O vp)/\cB H' dp A O/\H'.n=H.n/\H'.get vp=.cells (vc m vl vs vi dp (lost||A.off))/\∀j,j≠vp->H'.get j=H.get j:=by
 have hw:=hD.wf;obtain⟨G,hG,-,p,n,w,k'⟩:=Heap.bq (b:=vp) (ah.refl hw|>λf=>(⟨f.wf,Ya _,λj hj=>absurd hj (Wu _),λlo _ h=>by rw[show lo=0from YJ3.1 h];exact Ya _⟩:ah (.mk 0 0 .e) H)) (Ya _) hVn (.cells (vc m vl vs vi dp (lost||A.off)));have hon:=λ{d:Nat}{k:K}=>Ks (cp:=cp) (fuel:=fuel) (T.jJ hc) (d:=d) (k:=k) hD;refine⟨G,λd k=>?_,by rw[<-hG];exact Step.ju hw hVn (YD rfl),?_,n,p,k'⟩;.simp only[vc,aW,bE,YL,YJ]at hV hG p;rw[aI T.k51 rfl rfl];generalize hoff:A.off=off at hon hG p;cases lost<;>cases off<;>simp only[WZ,YE4,Bool.or_true,YD0,YV,or_self,or_true,or_false]at hon hG p⊢<;>simp only[go_sem,c51,hV,hw,hVn,↓hon,hG,p]
 .rw[<-hG];exact(hD.bU (Q:=λb=>b=vp) (Step.ju hw hVn rfl) λb hb e=>hVO (by rw[<-e];exact hb)).1
def df(m:MT):Sn:=m.ae.getLast?.getD ⟨(0,0),Yc m.live.length 0,false⟩
end
def cV(A:AD)(p:Nat):Tx:=if p=0then(32,0)else A.read p
theorem Vo{α:Type}{f:Nat->α}{z:α}{l:List Nat}{i:Nat}(h:i<l.length):((l.take i).map f++Yc (l.length-i) z).set i (f l[i])=(l.take (i+1)).map f++Yc (l.length-(i+1)) z:=by
 have e:((l.take i).map f).length=i:=by simp;omega
 rw[List.set_append_right _ _ (by omega),e,QH,show l.length-i=(l.length-(i+1))+1by omega,List.replicate_succ,List.set_cons_zero,List.take_succ_eq_append_getElem h,Yz,WA];rfl
section
variable{cp:RC->au}{t:Nat->Option du}{fuel:Nat}{H:Heap}{O:Nat->Prop}
theorem VX(T:aB t)(hc:aM t){m:MT}{vl vs vi v:V}{vp dp B:Nat}{lost:Bool}{A:AD}{Q:Nat->Prop}{l:List Nat}{G0:Heap}(hD:cB H dp A O)(ho:A.off=false)(hV:H.get vp=.cells (vc m vl vs vi dp lost))(hVn:vp<H.n)(h:cP H Q v l)(hl:l.length<1000)(hlp:∀p∈l,p<A.len)(hA:A.len<=1024)(f0:ah H G0)(hBH:H.n<=B)(hB:B<G0.n)(gB:G0.get B=.cells (Yc l.length (.str 0 0)))(hfu:1000<fuel):∃G',ah H G'/\G'.get B=.cells (l.map λp=>sv (cV A p))/\B<G'.n/\∀(d:Nat)(kx:Nat->KE)(e:Env)(x:R),af s000 e=.ptr vp 0->af s006 e=.slice B 0 l.length (l.length+1) 0->af s016 e=v->af s017 e=.int 3 l.length->af s020 e=.int 3 0->(∀e',af s006 e'=.slice B 0 l.length (l.length+1) 0->kx 1 e' G'=x)->kq Bi fuel (aS cp t fuel (d+3)) kx fuel e G0=x:=by
 have nl:=n_ l.length;obtain⟨_,G',⟨f',g',hB'⟩,z⟩:=bK (c:=Bi) (fuel:=fuel) (ph:=λd=>aS cp t fuel (d+3)) (σ:=Unit) (n:=l.length) (I:=λi _ G=>ah H G/\G.get B=.cells ((l.take i).map (λp=>sv (cV A p))++Yc (l.length-i) (.str 0 0))/\B<G.n) (S:=λi _ e=>af s000 e=.ptr vp 0/\af s006 e=.slice B 0 l.length (l.length+1) 0/\af s016 e=v/\af s017 e=.int 3 l.length/\af s020 e=.int 3 i) (λi _ G hil⟨f,g,hBn⟩=>by
   have hset:=Vo (f:=λp=>sv (cV A p)) (z:=V.str 0 0) hil;have hpl:=hlp _ (YT hil);obtain⟨b,o,c,s,rfl,hbn,-,hrd⟩:=h.open hil;have hrd:=λ{id:Nat}{k:V->R}=>hrd (f.same _ hbn) (id:=id) (k:=k);have hxl:((l.take i).map (λp=>sv (cV A p))++Yc (l.length-i) (V.str 0 0)).length=l.length:=by simp;omega
   generalize l[i]=p at hset hpl hrd;generalize(l.take i).map (λp=>sv (cV A p))++Yc (l.length-i) (V.str 0 0)=X at g hset hxl;obtain⟨G1,hG1,f1,p1,n1⟩:=Heap.aV f.wf (.bytes 32 0);have g1:G1.get B=.cells X:=(f1.same _ hBn).trans g;obtain⟨G2,hG2,f2,p2,n2,w2,k2⟩:=Heap.bq (b:=B) (f.trans f1) hBH (by omega) (.cells (X.set i (.str 32 0)));have gV2:=(f2.same _ hVn).trans hV;simp only[vc,aW,bE,YL,YJ]at gV2;have a1:=n_ i;have a2:=l_ i;have a3:=m_ (i+1);have a4:i<X.length:=by omega
   have a5:B<G1.n:=by omega
   have w0:=f.wf;have w1:=f1.wf;by_cases hp:p=0;.rw[show sv (cV A p)=.str 32 0 by unfold cV;rw[if_pos hp];rfl]at hset;refine⟨(),G2,⟨f2,by rw[<-hset];exact p2,by omega⟩,λd kx r e x⟨q0,q6,q16,q17,q20⟩hk=>?_⟩;rw[ak];simp only[go_sem,Bi,q6,q16,q17,q20,hil,nl,a1,a2,a3,a4,a5,↓hrd,w0,hG1,p1,g1,w1,hG2,hp];exact hk _ (by simp only[go_sem,q0,q6,q16,q17])
   .rw[show sv (cV A p)=sv (A.read p)by unfold cV;rw[if_neg hp]]at hset;obtain⟨G3,z3,f3⟩:=qm (cp:=cp) (fuel:=fuel) (a:=p) (T.jJ hc) (hD.fresh f2) ho (by omega);have z3:=λ{d:Nat}{k:K}=>z3 d k;have m3:=f3.n;obtain⟨G4,hG4,f4,p4,n4,w4,k4⟩:=Heap.bq (b:=B) (f2.trans f3) hBH (by omega) (.cells (X.set i (sv (A.read p))));have g3:G3.get B=.cells (X.set i (.str 32 0)):=(f3.same _ (by omega)).trans p2;have w3:=f3.wf;have a6:B<G3.n:=by omega
    have hss:(X.set i (.str 32 0)).set i (sv (A.read p))=X.set i (sv (A.read p)):=List.set_set ..;refine⟨(),G4,⟨f4,by rw[<-hset];exact p4,by omega⟩,λd kx r e x⟨q0,q6,q16,q17,q20⟩hk=>?_⟩;have a7:i<(X.set i (.str 32 0)).length:=by rw[Wj];exact a4
    generalize A.read p=tq at z3 hG4 hss;simp only[sv]at z3 hG4 hss;generalize X.set i (.str tq.1 tq.2)=Y at hG4 hss;rw[ak];simp only[go_sem,Bi,q0,q6,q16,q17,q20,hil,nl,a1,a2,a3,a4,a5,a6,↓hrd,w0,hG1,p1,g1,w1,hG2,hp,gV2,↓z3,g3,a7,hss,w3,hG4];exact hk _ (by simp only[go_sem,q0,q6,q16,q17])) l.length 0 () G0 (by omega) ⟨f0,by rw[QF,YZ,YJ,Wx];exact gB,hB⟩;rw[We,QH,List.replicate_zero,YX]at g';refine⟨G',f',g',hB',λd kx e x q0 q6 q16 q17 q20 hk=>z d kx fuel e x (by omega) ⟨q0,q6,q16,q17,q20⟩ λr e'⟨q0,q6,q16,q17,q20⟩=>?_⟩;have e6:¬l.length<l.length:=by omega
 rw[ak];simp only[go_sem,Bi,q17,q20,nl,e6];exact hk _ q6
theorem mc(T:aB t)(hc:aM t){m:MT}{vl vs vi v:V}{vp dp:Nat}{lost:Bool}{A:AD}{Q:Nat->Prop}{l:List Nat}(hD:cB H dp A O)(ho:A.off=false)(hV:H.get vp=.cells (vc m vl vs vi dp lost))(hVn:vp<H.n)(h:cP H Q v l)(hl:l.length<1000)(hlp:∀p∈l,p<A.len)(hA:A.len<=1024)(hfu:1000<fuel):∃H' v',(∀(d:Nat)(k:K),aj (aS cp t fuel (d+4)) (.func 134 []) [.ptr vp 0,v] H k=k (.cG [v',.int 3 0]) H')/\ah H H'/\Own H H' v' 1 l.length (l.map λp=>sv (cV A p)):=by
 obtain⟨G1,f1,o1,g1,n1,z1⟩:=uK (n:=l.length) (kl:=3) (x:=V.str 0 0) (a:=pg) rfl hD.wf rfl (by omega) (YC _);obtain⟨G2,f2,g2,n2,z2⟩:=VX (cp:=cp) (fuel:=fuel) T hc hD ho hV hVn h hl hlp hA f1 (YC _) (by omega) g1 hfu;have sn:=λ{id:Nat}{f:Nat->R}=>h.sn (id:=id) (f:=f);have e1:=l_ l.length;refine⟨G2,.slice H.n 0 l.length (l.length+1) 0,λd k=>?_,f2,⟨by simp,λx hx=>?_,YD ⟨_,_,_,[],rfl,by rw[YX];exact g2,YF rfl,YC _,n2⟩⟩⟩
 .have z1:=λ{id:Nat}{ph:dz}{e:Env}{k:K}(h:aA pg e=.int 3 l.length)=>z1 (id:=id) (ph:=ph) (e:=e) (k:=k) h;rw[aI T.k67 rfl rfl];simp only[go_sem,c67,↓sn,e1,↓z1];refine z2 d _ _ _ ?_ ?_ ?_ ?_ ?_ λe' q6=>?_;.rfl
  .rfl
  .rfl
  .rfl
  .rfl
  simp only[go_sem,q6]
 .obtain⟨p,-,rfl⟩:=YW.1 hx;rfl
end
def dr(m:MT):List (List Nat):=m.live::m.tok.bT::m.ae.map (·.bT)
theorem lZ:∀{cs:List Wr}{i:Nat}{c:Wr},cs[i]?=some c->((bX cs).drop (i*2)).take 2=[.int 3 c.1,.str c.2.1 c.2.2]|[],i,c,h=>by simp at h|a::cs,0,c,h=>by simp at h;subst h;rfl|a::cs,i+1,c,h=>by rw[show(i+1)*2=i*2+2by omega];exact lZ (cs:=cs) (by simpa using h)
def fM(cs:List Wr):Nat->Nat|0=>0|i+1=>fM cs i+(if(cs.getD i (0,(32,0))).2=(32,0)then 0 else 1)
theorem mA(cs:List Wr):∀i,fM cs i<=i|0=>YC _|i+1=>by have:=mA cs i;simp only[fM];split<;>omega
theorem yW{cs:List Wr}{i:Nat}:∀{j:Nat},i<=j->fM cs i<=fM cs j
 |0,h=>by rw[YJ3.1 h];exact YC _|j+1,h=>by
  rcases Nat.lt_or_ge i (j+1)with h|h;.exact Yr (yW (Nat.lt_succ_iff.1 h)) (by simp only[fM];omega)
  .rw[show i=j+1by omega];exact YC _
def zk(cs:List Wr)(fr:List Nat):Nat->List Nat|0=>[]|i+1=>zk cs fr i++[if(cs.getD i (0,(32,0))).2=(32,0)then 0 else fr.getD (fM cs i) 0]
def Eu(cs:List Wr)(fr:List Nat):Nat->List Wr|0=>[]|i+1=>Eu cs fr i++(if(cs.getD i (0,(32,0))).2=(32,0)then[]else[(fr.getD (fM cs i) 0,(cs.getD i (0,(32,0))).2)])
theorem oe(cs:List Wr)(fr:List Nat):∀i,(zk cs fr i).length=i|0=>rfl|i+1=>by simp only[zk,YB,oe cs fr i];rfl
theorem xg(cs:List Wr)(fr:List Nat):∀i,(Eu cs fr i).length=fM cs i|0=>rfl|i+1=>by simp only[Eu,fM,YB,xg cs fr i];split<;>rfl
theorem yX{v w:V}(h:∀b o n c s,w=.slice b o n c s->iP v b):∀b o n c s,v=.slice b o n c s->iP w b:=λb o n c s e b' o' n' c' s' e' he=>h _ _ _ _ _ e' _ _ _ _ _ e he.symm
section
variable{cp:RC->au}{t:Nat->Option du}{fuel:Nat}{H:Heap}{O:Nat->Prop}
theorem OL(T:aB t){vp:Nat}{vl vi vs vx:V}{ss:List Sn}{G0:Heap}{v0:V}(hS:fN H O vs ss)(hn:ss.length<1000)(f0:ah H G0)(o0:Own H G0 v0 1 2 [vl,vi])(hfu:1000<fuel):∃G' v' ns,ah H G'/\Own H G' v' 1 (2+ss.length) (vl::vi::ns)/\(∀(j:Nat)(s:Sn),ss[j]?=some s->∃x,ns[j]?=some x/\cP H O x s.bT)/\∀(d:Nat)(kx:Nat->KE)(e:Env)(x:R),af s000 e=.ptr vp 0->af s001 e=vx->af s004 e=.aE->af s005 e=.aE->af s007 e=v0->af s042 e=vs->af s043 e=.int 3 ss.length->af s044 e=.int 3 0->(∀e',af s000 e'=.ptr vp 0->af s001 e'=vx->af s004 e'=.aE->af s005 e'=.aE->af s007 e'=v'->kx 1 e' G'=x)->kq Fb fuel (aS cp t fuel d) kx fuel e G0=x:=by
 have nl:=n_ ss.length;obtain⟨⟨ns,v'⟩,G',⟨f',o',nl',hx'⟩,z⟩:=bK (c:=Fb) (fuel:=fuel) (ph:=λd=>aS cp t fuel d) (σ:=List V×V) (n:=ss.length) (I:=λi s G=>ah H G/\Own H G s.2 1 (2+i) (vl::vi::s.1)/\s.1.length=i/\∀(j:Nat)(q:Sn),j<i->ss[j]?=some q->∃x,s.1[j]?=some x/\cP H O x q.bT) (S:=λi s e=>af s000 e=.ptr vp 0/\af s001 e=vx/\af s004 e=.aE/\af s005 e=.aE/\af s007 e=s.2/\af s042 e=vs/\af s043 e=.int 3 ss.length/\af s044 e=.int 3 i) (λi s G hil⟨f,o,hl,hx⟩=>by
   obtain⟨ns,v⟩:=s;obtain⟨b,ob,c,z,y,rfl,hbn,-,hy,hrd⟩:=hS.open hil;have hsi:ss[i]?=some ss[i]:=YA hil;have hrd:=λ{id:Nat}{k:List V->R}=>hrd (f.same _ hbn) (id:=id) (k:=k);generalize ss[i]=s at hsi hy hrd;have w0:=f.wf;obtain⟨G1,hG1,f1,p1,n1⟩:=Heap.aV w0 (.cells [.int 7 0,.int 7 0,.aE,.bool false]);obtain⟨G2,hG2,f2,p2,n2,w2,k2⟩:=Heap.bq (b:=G.n) f1 (YC _) (by omega) (.cells (bO s y));obtain⟨G3,hG3,f3,p3,n3⟩:=Heap.aV w2 (.cells [y]);have f03:=(f.trans f2).trans f3;obtain⟨v',G4,hap,o4,f4,-⟩:=Own.app (w:=v) (x:=.slice G2.n 0 1 2 0) (m:=1) (new:=[y]) f03 ((o.fresh f2).fresh f3) (λ{id f}=>ia p3 rfl) rfl (λx hx=>by rw[YK.1 hx];exact hy.one) (by omega);have i1:=λ{id:Nat}{k:R}=>aP hy.one (id:=id) (k:=k);have cx:=λ{id:Nat}{f:List V->R}=>Ci hy.one (id:=id) (f:=f);have w1:=f1.wf;have a1:=n_ i;have a2:=l_ i;have a3:=m_ (i+1);have a4:G.n<G1.n:=by omega
   refine⟨(ns++[y],v'),G4,⟨f4,by have:=o4;rwa[show 2+i+1=2+(i+1)by omega]at this,by simp[hl],λj q hj hq=>?_⟩,λd kx r e x⟨q0,q1,q4,q5,q7,q42,q43,q44⟩hk=>?_⟩
   .show∃x,(ns++[y])[j]?=some x/\_;have hl':ns.length=i:=hl;by_cases hji:j<i;.obtain⟨x,b1,b2⟩:=hx j q hji hq;exact⟨x,by rw[Yp (by omega)];exact b1,b2⟩
    .obtain rfl:j=i:=by omega
     rw[hsi]at hq;cases hq;exact⟨y,by rw[Ym (by omega),hl',QH];rfl,hy⟩
   .simp only[bO]at hG2 p2 hrd;rw[ak];simp only[go_sem,Fb,q7,q42,q43,q44,hil,nl,a1,a2,a3,a4,↓hrd,w0,hG1,p1,w1,hG2,p2,↓i1,↓cx,w2,hG3,↓hap];refine hk _ ?_;simp only[go_sem,q0,q1,q4,q5,q42,q43,and_self]) ss.length 0 ([],v0) G0 (by omega) ⟨f0,o0,rfl,λj s hj=>by omega⟩;refine⟨G',v',ns,f',o',λj s hs=>hx' j s (YQ.1 hs).1 hs,λd kx e x q0 q1 q4 q5 q7 q42 q43 q44 hk=>z d kx fuel e x (by omega) ⟨q0,q1,q4,q5,q7,q42,q43,q44⟩ λr e'⟨q0,q1,q4,q5,q7,q42,q43,q44⟩=>?_⟩;have e6:¬ss.length<ss.length:=by omega
 rw[ak];simp only[go_sem,Fb,q43,q44,nl,e6];exact hk _ q0 q1 q4 q5 q7
theorem Zc(T:aB t){vx vcn:V}{cs:List Wr}{G0:Heap}(hX:Row H O vx 2 cs.length (bX cs))(hn:cs.length<1000)(f0:ah H G0)(hfu:1000<fuel):∃G',ah H G'/\ah G0 G'/\∀(d:Nat)(kx:Nat->KE)(e:Env)(x:R),af s001 e=vx->af s004 e=.aE->af s005 e=.aE->af s012 e=vcn->af s013 e=.str 32 0->af s014 e=.int 3 0->af s075 e=vx->af s076 e=.int 3 cs.length->af s077 e=.int 3 0->(∀e',af s001 e'=vx->af s004 e'=.aE->af s005 e'=.aE->af s012 e'=vcn->af s013 e'=.str 32 0->af s014 e'=.int 3 (fM cs cs.length)->kx 3 e' G'=x)->kq Bf fuel (aS cp t fuel d) kx fuel e G0=x:=by
 have nl:=n_ cs.length;obtain⟨_,G',⟨f',f0'⟩,z⟩:=bK (c:=Bf) (fuel:=fuel) (ph:=λd=>aS cp t fuel d) (σ:=Unit) (n:=cs.length) (I:=λi _ G=>ah H G/\ah G0 G) (S:=λi _ e=>af s001 e=vx/\af s004 e=.aE/\af s005 e=.aE/\af s012 e=vcn/\af s013 e=.str 32 0/\af s014 e=.int 3 (fM cs i)/\af s075 e=vx/\af s076 e=.int 3 cs.length/\af s077 e=.int 3 i) (λi _ G hil⟨f,f0⟩=>by
   have hsi:cs[i]?=some cs[i]:=YA hil;have hgd:cs.getD i (0,(32,0))=cs[i]:=by rw[YG,hsi];rfl
   have hnz:fM cs (i+1)=fM cs i+(if cs[i].2=(32,0)then 0 else 1):=by rw[<-hgd];rfl
   have hle:=mA cs i;have hrow:=lZ hsi;obtain⟨b,ob,c,z,hvx,hbn,-,hrd⟩:=hX.open hil;have hrd:=λ{id:Nat}{k:List V->R}=>(hrd (f.same _ hbn)).1 (id:=id) (k:=k);rw[hrow]at hrd;generalize cs[i]=w at hnz hrd;obtain⟨wb,wl,wn⟩:=w;have w0:=f.wf;obtain⟨G1,hG1,f1,p1,n1⟩:=Heap.aV w0 (.cells [.int 3 0,.str 0 0]);obtain⟨G2,hG2,f2,p2,n2,w2,k2⟩:=Heap.bq (b:=G.n) f1 (YC _) (by omega) (.cells [.int 3 wb,.str wl wn]);have w1:=f1.wf;have a1:=n_ i;have a2:=l_ i;have a3:=m_ (i+1);have a4:G.n<G1.n:=by omega
   have a5:=m_ (fM cs i+1);refine⟨(),G2,⟨f.trans f2,f0.trans f2⟩,λd kx r e x⟨q1,q4,q5,q12,q13,q14,q75,q76,q77⟩hk=>?_⟩;subst hvx;by_cases hz:wl=32/\wn=0;.obtain⟨rfl,rfl⟩:=hz;rw[if_pos rfl,WN]at hnz;rw[ak];simp only[go_sem,Bf,q13,q75,q76,q77,hil,nl,a1,a2,a3,a4,↓hrd,w0,hG1,p1,w1,hG2,p2,and_self];exact hk _ (by simp only[go_sem,q1,q4,q5,q12,q13,q14,q75,q76,hnz,and_self])
   .have hz':(wl=32/\wn=0)=False:=eq_false hz;rw[if_neg (λh=>hz ⟨congrArg YK4 h,congrArg YS4 h⟩)]at hnz;rw[ak];simp only[go_sem,Bf,q13,q14,q75,q76,q77,hil,nl,a1,a2,a3,a4,a5,↓hrd,w0,hG1,p1,w1,hG2,p2,hz'];exact hk _ (by simp only[go_sem,q1,q4,q5,q12,q13,q75,q76,hnz,and_self])) cs.length 0 () G0 (by omega) ⟨f0,ah.refl f0.wf⟩;refine⟨G',f',f0',λd kx e x q1 q4 q5 q12 q13 q14 q75 q76 q77 hk=>z d kx fuel e x (by omega) ⟨q1,q4,q5,q12,q13,q14,q75,q76,q77⟩ λr e'⟨q1,q4,q5,q12,q13,q14,q75,q76,q77⟩=>?_⟩;have e6:¬cs.length<cs.length:=by omega
 rw[ak];simp only[go_sem,Bf,q76,q77,nl,e6];exact hk _ q1 q4 q5 q12 q13 q14
theorem UY(T:aB t){vx vf:V}{cs:List Wr}{fr:List Nat}(hw:H.wf)(hX:Row H O vx 2 cs.length (bX cs))(hF:cP H O vf fr)(hfl:fr.length=fM cs cs.length)(hn:cs.length<1000)(hfu:1000<fuel):∃G' va vw,ah H G'/\Own H G' va 1 cs.length ((zk cs fr cs.length).map (V.int 3))/\Own H G' vw 2 (fM cs cs.length) (bX (Eu cs fr cs.length))/\∀(d:Nat)(kx:Nat->KE)(e:Env)(x:R),af s004 e=.aE->af s005 e=.aE->af s013 e=.str 32 0->af s017 e=vf->af s123 e=vx->af s124 e=.int 3 cs.length->af s125 e=.int 3 0->(∀e',af s004 e'=va->af s005 e'=vw->kx 5 e' G'=x)->kq Bh fuel (aS cp t fuel d) kx fuel e H=x:=by
 have nl:=n_ cs.length;obtain⟨⟨va,vw⟩,G',⟨f',oa',ow',-⟩,z⟩:=bK (c:=Bh) (fuel:=fuel) (ph:=λd=>aS cp t fuel d) (σ:=V×V) (n:=cs.length) (I:=λi s G=>ah H G/\Own H G s.1 1 i ((zk cs fr i).map (V.int 3))/\Own H G s.2 2 (fM cs i) (bX (Eu cs fr i))/\∀b o n c z,s.2=.slice b o n c z->iP s.1 b) (S:=λi s e=>af s004 e=s.1/\af s005 e=s.2/\af s013 e=.str 32 0/\af s017 e=vf/\af s123 e=vx/\af s124 e=.int 3 cs.length/\af s125 e=.int 3 i) (λi s G hil⟨f,oa,ow,oo⟩=>by
   obtain⟨va,vw⟩:=s;have oo:∀b o n c z,vw=.slice b o n c z->iP va b:=oo;have oa:Own H G va 1 i ((zk cs fr i).map (V.int 3)):=oa;have ow:Own H G vw 2 (fM cs i) (bX (Eu cs fr i)):=ow;have hsi:cs[i]?=some cs[i]:=YA hil;have hgd:cs.getD i (0,(32,0))=cs[i]:=by rw[YG,hsi];rfl
   have hnz:fM cs (i+1)=fM cs i+(if cs[i].2=(32,0)then 0 else 1):=by rw[<-hgd];rfl
   have hpa:zk cs fr (i+1)=zk cs fr i++[if cs[i].2=(32,0)then 0 else fr.getD (fM cs i) 0]:=by rw[<-hgd];rfl
   have hpw:Eu cs fr (i+1)=Eu cs fr i++(if cs[i].2=(32,0)then[]else[(fr.getD (fM cs i) 0,cs[i].2)]):=by rw[<-hgd];rfl
   have hle:=mA cs i;have hmo:=yW (cs:=cs) (show i+1<=cs.length by omega);have hrow:=lZ hsi;obtain⟨b,ob,c,z,hvx,hbn,-,hrd⟩:=hX.open hil;have hrd:=λ{id:Nat}{k:List V->R}=>(hrd (f.same _ hbn)).1 (id:=id) (k:=k);rw[hrow]at hrd;generalize cs[i]=w at hnz hrd hpa hpw;obtain⟨wb,wl,wn⟩:=w;have w0:=f.wf;obtain⟨G1,hG1,f1,p1,n1⟩:=Heap.aV w0 (.cells [.int 3 0,.str 0 0]);obtain⟨G2,hG2,f2,p2,n2,w2,k2⟩:=Heap.bq (b:=G.n) f1 (YC _) (by omega) (.cells [.int 3 wb,.str wl wn]);have w1:=f1.wf;have a1:=n_ i;have a2:=l_ i;have a3:=m_ (i+1);have a4:G.n<G1.n:=by omega
   by_cases hz:wl=32/\wn=0;.obtain⟨rfl,rfl⟩:=hz;rw[if_pos rfl]at hpa;rw[if_pos rfl,YX]at hpw;rw[if_pos rfl,WN]at hnz;obtain⟨G3,hG3,f3,p3,n3⟩:=Heap.aV w2 (.cells [.int 3 0]);obtain⟨va',G4,hap,oa4,f4,k4,n4,off4⟩:=Own.app (w:=va) (x:=.slice G2.n 0 1 2 0) (m:=1) (new:=[.int 3 0]) ((f.trans f2).trans f3) ((oa.fresh f2).fresh f3) (λ{id f}=>ia p3 rfl) rfl (λx hx=>by rw[YK.1 hx];rfl) (by omega);refine⟨(va',vw),G4,⟨f4,by rw[hpa,Yz];exact oa4,by rw[hnz,hpw];exact((ow.fresh f2).fresh f3).gv n4 k4 oo,λb o n c z e=>off4 b (by have:=(ow.cQ e).2;omega) (oo _ _ _ _ _ e)⟩,λd kx r e x⟨q4,q5,q13,q17,q123,q124,q125⟩hk=>?_⟩;subst hvx;rw[ak];simp only[go_sem,Bh,q4,q13,q123,q124,q125,hil,nl,a1,a2,a3,a4,↓hrd,w0,hG1,p1,w1,hG2,p2,and_self,w2,hG3,↓hap];exact hk _ (by simp only[go_sem,q5,q13,q17,q123,q124,and_self])
   .have hz':(wl=32/\wn=0)=False:=eq_false hz;have hz2:¬((wl,wn):Tx)=(32,0):=λh=>hz ⟨congrArg YK4 h,congrArg YS4 h⟩;rw[if_neg hz2]at hpa hpw hnz;have hj:fM cs i<fr.length:=by omega
    obtain⟨fb,fo,fc,fz,rfl,Mk,-,hfr⟩:=hF.open hj;have hfr2:=λ{id:Nat}{k:V->R}=>hfr ((f.trans f2).same _ Mk) (id:=id) (k:=k);have hfd:fr.getD (fM cs i) 0=fr[fM cs i]:=by rw[YG,YA hj];rfl
    rw[hfd]at hpa hpw;generalize fr[fM cs i]=q at hpa hpw hfr hfr2;obtain⟨G3,hG3,f3,p3,n3⟩:=Heap.aV w2 (.cells [.int 3 q]);obtain⟨va',G4,hap,oa4,f4,k4,n4,off4⟩:=Own.app (w:=va) (x:=.slice G2.n 0 1 2 0) (m:=1) (new:=[.int 3 q]) ((f.trans f2).trans f3) ((oa.fresh f2).fresh f3) (λ{id f}=>ia p3 rfl) rfl (λx hx=>by rw[YK.1 hx];rfl) (by omega);have ow4:=((ow.fresh f2).fresh f3).gv n4 k4 oo;have p4:G4.get G.n=.cells [.int 3 wb,.str wl wn]:=(k4 _ (by omega) (oa.Dz (YC _))).trans ((f3.same _ (by omega)).trans p2);have hfr4:=λ{id:Nat}{k:V->R}=>hfr (f4.same _ Mk) (id:=id) (k:=k);have oo4:∀b o n c z,vw=.slice b o n c z->iP va' b:=λb o n c z e=>off4 b (by have:=(ow.cQ e).2;omega) (oo _ _ _ _ _ e);obtain⟨G5,hG5,f5,p5,n5⟩:=Heap.aV f4.wf (.cells [.int 3 q,.str wl wn]);have f45:=f4.trans f5;obtain⟨vw',G6,hap6,ow6,f6,k6,n6,off6⟩:=Own.app (w:=vw) (x:=.slice G4.n 0 1 2 0) (m:=1) (new:=[.int 3 q,.str wl wn]) f45 (ow4.fresh f5) (λ{id f}=>ia p5 rfl) rfl (λx hx=>by rcases YN.1 hx with rfl|hx;rfl;rw[YK.1 hx];rfl) (by omega);have sw:=λ{id:Nat}{f:Nat->R}=>ow.sn (id:=id) (f:=f);have w4:=f4.wf;have w5:=f5.wf;have a5:=n_ (fM cs i);have a6:=l_ (fM cs i);have hle2:=mA cs cs.length;have a7:=n_ fr.length;refine⟨(va',vw'),G6,⟨f6,?_,by rw[hnz,hpw,dY];exact ow6,?_⟩,λd kx r e x⟨q4,q5,q13,q17,q123,q124,q125⟩hk=>?_⟩;.rw[hpa,Yz];exact(oa4.fresh f5).gv n6 k6 (yX oo4)
    .exact yX λb o n c z e=>off6 b (by have:=(oa4.cQ e).2;omega) (yX oo4 _ _ _ _ _ e)
    subst hvx;rw[ak];simp only[go_sem,Bh,q4,q5,q13,q17,q123,q124,q125,hil,hj,nl,a1,a2,a3,a4,a6,↓hrd,w0,hG1,p1,w1,hG2,p2,hz',↓sw,↓hfr2,w2,hG3,↓hap,↓hfr4,p4,w4,hG5,↓hap6];exact hk _ (by simp only[go_sem,q13,q17,q123,q124,and_self])) cs.length 0 (.aE,.aE) H (by omega) ⟨ah.refl hw,Own.nil,Own.nil,λb o n c z e=>by cases e⟩;refine⟨G',va,vw,f',oa',ow',λd kx e x q4 q5 q13 q17 q123 q124 q125 hk=>z d kx fuel e x (by omega) ⟨q4,q5,q13,q17,q123,q124,q125⟩ λr e'⟨q4,q5,q13,q17,q123,q124,q125⟩=>?_⟩;have e6:¬cs.length<cs.length:=by omega
 rw[ak];simp only[go_sem,Bh,q124,q125,nl,e6];exact hk _ q4 q5
end
open Go.Proofs
def eZ(m:MT)(n:Nat):List Nat:=rf n (nz (dr m).flatten)
section
variable{t:Nat->Option du}{fuel:Nat}{H:Heap}{O Q:Nat->Prop}
set_option maxRecDepth 4000in theorem zo(T:aB t)(hc:aM t){m:MT}{vl vs vi vx:V}{vp dp:Nat}{lost:Bool}{A:AD}{cs:List Wr}(hD:cB H dp A O)(hV:H.get vp=.cells (vc m vl vs vi dp lost))(hVn:vp<H.n)(M:kK H Q m vl vs vi)(Y:kf m)(hX:Row H Q vx 2 cs.length (bX cs))(hn:cs.length<1000)(hA:A.len<=1024)(hok:∀l∈dr m,∀a∈l,a≠0->193<=a/\a<A.len)(hQ:∀b,Q b->b<H.n)(hfl:(dr m).flatten.length<1000000)(hfu:1000000<fuel):∃H' va vw,(∀(d:Nat)(k:K),aj (aS (aO Tryz.prog) t fuel (d+5)) (.func 106 []) [.ptr vp 0,vx] H k=k (.cG [va,vw,.int 3 (if(cX (eZ m A.len)).length<fM cs cs.length then 7 else 0)]) H')/\ah H H'/\va.one=true/\vw.one=true/\(¬(cX (eZ m A.len)).length<fM cs cs.length->Own H H' va 1 cs.length ((zk cs ((cX (eZ m A.len)).take (fM cs cs.length)) cs.length).map (V.int 3))/\Own H H' vw 2 (fM cs cs.length) (bX (Eu cs ((cX (eZ m A.len)).take (fM cs cs.length)) cs.length))):=by
 have hw:=hD.wf;have l1:=Y.live.1;have l2:=Y.num;have l3:=Y.tok.2.2.2.2.1;obtain⟨Ml,Ms,Mi⟩:=M;have j1:=λ{id:Nat}{k:R}=>aP Ml.one (id:=id) (k:=k);have j2:=λ{id:Nat}{k:R}=>aP Mi.one (id:=id) (k:=k);have x1:=λ{id:Nat}{f:List V->R}=>Ci Ml.one (id:=id) (f:=f);have x2:=λ{id:Nat}{f:List V->R}=>Ci Mi.one (id:=id) (f:=f);have sn:=λ{id:Nat}{f:Nat->R}=>(let⟨_,h,_⟩:=Ms;h.sn (id:=id) (f:=f):bC id vs (λ_ _ len _ _=>f len) (f 0)=f m.ae.length);have sx:=λ{id:Nat}{f:Nat->R}=>hX.sn (id:=id) (f:=f);have hV':=hV;simp only[vc,aW,bE,YL,YJ]at hV';obtain⟨G1,hG1,f1,p1,n1⟩:=Heap.aV hw (.cells [vl,vi]);have o1:Own H G1 (.slice H.n 0 2 3 0) 1 2 [vl,vi]:=⟨rfl,λx hx=>by rcases YN.1 hx with rfl|hx;exact Ml.one;rw[YK.1 hx];exact Mi.one,YD ⟨_,_,_,[],rfl,p1,YF rfl,YC _,by omega⟩⟩;obtain⟨G2,vg,ns,f2,o2,hns,zi⟩:=OL (cp:=aO Tryz.prog) (fuel:=fuel) (vp:=vp) (vx:=vx) T Ms l2 f1 o1 (by omega);have hV1:=(f1.same _ hVn).trans hV';have hV2:=(f2.same _ hVn).trans hV';have hims:Ro G2 Q vg (dr m):=by
  refine⟨vl::vi::ns,?_,λi l hl=>?_⟩;.have:=o2.toRow hQ;rwa[show 2+m.ae.length=(dr m).length by simp[dr];omega]at this
  .match i,hl with|0,hl=>cases hl;exact⟨vl,rfl,Ml.fresh f2⟩|1,hl=>cases hl;exact⟨vi,rfl,Mi.fresh f2⟩|i+2,hl=>have hl:(m.ae.map (·.bT))[i]?=some l:=hl;rw[Yq]at hl;obtain⟨s,hs,rfl⟩:=Option.map_eq_some_iff.1 hl;obtain⟨x,hx,hI⟩:=hns i s hs;exact⟨x,hx,hI.fresh f2⟩
 have hlen:∀l∈dr m,l.length<1000000:=λl hl=>by have:l.length<=(dr m).flatten.length:=(List.sublist_flatten_of_mem hl).length_le;omega
 have zl:=λ{d:Nat}{k:K}=>tK (cp:=aO Tryz.prog) (fuel:=fuel) (T.jJ hc) (d:=d) (k:=k) (hD.fresh f2);obtain⟨G3,vcn,zc,f3,o3⟩:=FF (t:=t) (fuel:=fuel) T f2.wf hims (by simp[dr];omega) hlen hfu hA hok hfl;have zc:=λ{d:Nat}{k:K}=>zc d k;have w3:=f3.wf;obtain⟨G4,hG4,f4,p4,n4⟩:=Heap.aV w3 (.bytes 32 0);have f24:=f2.trans (f3.trans f4);obtain⟨G5,f5,f45,zn⟩:=Zc (cp:=aO Tryz.prog) (fuel:=fuel) (vcn:=vcn) T hX hn f24 (by omega);have hcn:cP G5 Q vcn (eZ m A.len):=((o3.toRow (O:=Q) λb h=>YE (hQ b h) f2.n).fresh (f4.trans f45):Row G5 Q vcn 1 A.len _)|>λh=>by unfold cP eZ;rw[dM];exact h
 have hnle:=mA cs cs.length;obtain⟨G6,vf,zt,f6,o6⟩:=aae (t:=t) (fuel:=fuel) (n:=fM cs cs.length) T f5.wf hcn (by unfold eZ;rw[dM];omega) hfu (by omega);have zt:=λ{d:Nat}{k:K}=>zt d k;have e1:=l_ m.ae.length;have e2:=l_ cs.length;by_cases hlt:(cX (eZ m A.len)).length<fM cs cs.length
 .rw[if_pos hlt]at zt⊢;refine⟨G6,.aE,.aE,λd k=>?_,f5.trans f6,rfl,rfl,λh=>absurd hlt h⟩;rw[aI T.k53 rfl rfl];simp only[go_sem,c53,SP,hV',↓j1,↓j2,↓x1,↓x2,hw,hG1];simp only[go_sem,SU,hV1,↓sn,e1];refine zi (d+4) _ _ _ ?_ ?_ ?_ ?_ ?_ ?_ ?_ ?_ λe' q0 q1 q4 q5 q7=>?_;.rfl
  .rfl
  .rfl
  .rfl
  .rfl
  .rfl
  .rfl
  .rfl
  simp only[go_sem,SV,q0,q7,hV2,↓zl,↓zc];simp only[go_sem,SW,SX,SY,SZ,q1,w3,hG4,p4,↓sx,e2];refine zn (d+4) _ _ _ ?_ ?_ ?_ ?_ ?_ ?_ ?_ ?_ ?_ λe' q1 q4 q5 q12 q13 q14=>?_;.exact q1
  .exact q4
  .exact q5
  .rfl
  .rfl
  .rfl
  .rfl
  .rfl
  .rfl
  simp only[go_sem,S8,q12,q14,↓zt];simp only[go_sem,S9]
 .rw[if_neg hlt]at zt⊢;have o6:=o6 hlt;have hfrl:((cX (eZ m A.len)).take (fM cs cs.length)).length=fM cs cs.length:=by rw[Yv];omega
  generalize(cX (eZ m A.len)).take (fM cs cs.length)=fr at o6 hfrl⊢;obtain⟨G7,va,vw,f7,oa,ow,zp⟩:=UY (cp:=aO Tryz.prog) (fuel:=fuel) (vf:=vf) (fr:=fr) T f6.wf (hX.fresh (f5.trans f6)) (by unfold cP;rw[hfrl];exact o6.toRow λb h=>YE (hQ b h) f5.n) hfrl hn (by omega);have f56:=f5.trans f6;refine⟨G7,va,vw,λd k=>?_,f56.trans f7,oa.one,ow.one,λ_=>⟨oa.sub f56.n,ow.sub f56.n⟩⟩;rw[aI T.k53 rfl rfl];simp only[go_sem,c53,SP,hV',↓j1,↓j2,↓x1,↓x2,hw,hG1];simp only[go_sem,SU,hV1,↓sn,e1];refine zi (d+4) _ _ _ ?_ ?_ ?_ ?_ ?_ ?_ ?_ ?_ λe' q0 q1 q4 q5 q7=>?_;.rfl
  .rfl
  .rfl
  .rfl
  .rfl
  .rfl
  .rfl
  .rfl
  simp only[go_sem,SV,q0,q7,hV2,↓zl,↓zc];simp only[go_sem,SW,SX,SY,SZ,q1,w3,hG4,p4,↓sx,e2];refine zn (d+4) _ _ _ ?_ ?_ ?_ ?_ ?_ ?_ ?_ ?_ ?_ λe' q1 q4 q5 q12 q13 q14=>?_;.exact q1
  .exact q4
  .exact q5
  .rfl
  .rfl
  .rfl
  .rfl
  .rfl
  .rfl
  simp only[go_sem,S8,q12,q14,↓zt];simp only[go_sem,S9,SQ,q1,↓sx,e2];refine zp (d+4) _ _ _ ?_ ?_ ?_ ?_ ?_ ?_ ?_ λe' q4 q5=>?_;.exact q4
  .exact q5
  .exact q13
  .rfl
  .rfl
  .rfl
  .rfl
  simp only[go_sem,SR,SS,q4,q5]
end
end Go.Ev
end
section
namespace Go.Ev
structure TS(H G:Heap)(B:Nat)(m:MT)(vl vs vi:V):Prop where
 f:ah H G
 g:G.get B=.cells (aW m vl vs vi)hi:B<G.n
 base:∃G1,ah H G1/\MO H G1 m vl vs vi/\G1.n<=B/\ah G1 G
theorem MO.fresh{H G G':Heap}{m:MT}{vl vs vi:V}(h:MO H G m vl vs vi)(f:ah G G'):MO H G' m vl vs vi:=⟨h.live.fresh f,let⟨xs,s⟩:=h.ae;⟨xs,s.1.fresh f,s.2.1,λi q hq=>let⟨x,a,b,c⟩:=s.2.2 i q hq;⟨x,a,b.fresh f,c⟩⟩,h.bT.fresh f,h.dl,h.di⟩
theorem TS.of{H G1 G:Heap}{m:MT}{vl vs vi:V}(f1:ah H G1)(o:MO H G1 m vl vs vi)(f:ah G1 G)(g:G.get G1.n=.cells (aW m vl vs vi))(n:G.n=G1.n+1):TS H G G1.n m vl vs vi:=⟨f1.trans f,g,by omega,G1,f1,o,YC _,f⟩
theorem TS.mo{H G:Heap}{B:Nat}{m:MT}{vl vs vi:V}(h:TS H G B m vl vs vi):MO H G m vl vs vi:=let⟨_,_,o,_,f⟩:=h.base;o.fresh f
theorem TS.lo{H G:Heap}{B:Nat}{m:MT}{vl vs vi:V}(h:TS H G B m vl vs vi):H.n<=B:=let⟨_,f,_,n,_⟩:=h.base;Yr f.n n
def sH:Tk:=⟨(0,0),(0,0),0,0,[]⟩
theorem uz:∀{ss}{xs}{s}{x},xs.length=ss.length->dK (ss++[s]) (xs++[x])=dK ss xs++bO s x|[],[],s,x,_=>by rfl|[],_::_,_,_,h=>by simp_all|_::_,[],_,_,h=>by simp_all|a::ss,b::xs,s,x,h=>by show bO a b++dK (ss++[s]) (xs++[x])=_;rw[uz (by simp_all),<-WA];rfl
theorem Br:∀{ss}{xs}{i}{s},ss[i]?=some s->xs.length=ss.length->(dK ss xs).set (i*4+3) (.bool true)=dK (ss.set i {s with hid:=true}) xs|[],_,i,_,h,_=>by rfl|_::_,[],i,_,_,h=>by simp_all|a::ss,b::xs,0,s,h,_=>by simp at h;subst h;rfl|a::ss,b::xs,i+1,s,h,h'=>by rw[show(i+1)*4+3=(i*4+3)+4by omega];show bO a b++(dK ss xs).set (i*4+3) (.bool true)=_;rw[Br (by simpa using h) (by simp_all)];rfl
theorem Heap.Du{H:Heap}(hw:H.wf)(x:eN):∃Gm G,H.mark.new x=Gm/\Gm.dS H.bD=G/\H.n<=Gm.bD/\ah H G/\G.get H.n=x/\G.n=H.n+1:=by
 have hm:H.mark.wf:=by rw[Heap.eK];exact hw
 have f:=ah.new hm (x:=x);refine⟨_,_,rfl,rfl,f.dS.2,f.dS.1,?_,?_⟩;.show(H.mark.new x).get H.mark.n=x;rw[Heap.aD hm,if_pos rfl]
 .show(H.mark.new x).n=H.mark.n+1;exact Heap.aK
section
variable{cp:RC->au}{t:Nat->Option du}{fuel:Nat}{H G:Heap}{Q:Nat->Prop}{B:Nat}{m:MT}{vl vs vi:V}
theorem oG(T:aB t)(S:TS H G B m vl vs vi):∃G',(∀(d)(k),aj (aS cp t fuel (d+1)) (.func 114 []) [.ptr B 0] G k=k (.cG []) G')/\TS H G' B {m with tok:=sH} vl vs .aE/\∀j,j≠B->G'.get j=G.get j:=by obtain⟨f,g,hi,G1,f1,o1,n1,f13⟩:=S;obtain⟨G2,hG2,f2,p2,n2,w2,k2⟩:=Heap.bq f13 n1 hi (.cells (aW {m with tok:=sH} vl vs .aE));have w:=f.wf;refine⟨G2,λd k=>?_,⟨f1.trans f2,p2,by omega,G1,f1,⟨o1.live,o1.ae,Own.nil,o1.dl,λb o n c s e=>by cases e⟩,n1,f2⟩,k2⟩;simp only[aW,bE,sH]at g hG2;rw[aI T.k57 rfl rfl];simp only[go_sem,c57,g,w,hi,hG2]
theorem TS.put{G2:Heap}(S:TS H G B m vl vs vi)(f2:ah G G2)(l:List V):∃G3,G2.put B (.cells l)=G3/\ah H G3/\G3.get B=.cells l/\G3.n=G2.n/\G3.wf/\(∀j,j≠B->G3.get j=G2.get j)/\MO H G3 m vl vs vi:=by obtain⟨f,g,hi,G1,f1,o1,n1,f13⟩:=S;obtain⟨G3,hG3,f3,p3,n3,w3,k3⟩:=Heap.bq (b:=B) (f13.trans f2) n1 (by have:=f2.n;omega) (.cells l);exact⟨G3,hG3,f1.trans f3,p3,n3,w3,k3,o1.fresh f3⟩
theorem Ll(T:aB t){Q1}{cb ca block p}{va}{at_}(S:TS H G B m vl vs vi)(Y:kf m)(gb:G.get cb=.cells [.int 3 block])(ga:G.get ca=.cells [va])(hva:cP G Q1 va at_)(hp:at_[0]?=some p)(hpn:nn p)(hbl:block<m.live.length)(hQ:∀b,Q b->b<H.n):∃G' vl',(∀(d)(k),aj (aS cp t fuel (d+3)) (.func 138 [.ptr cb 0,.ptr ca 0]) [.ptr B 0] G k=k (.cG []) G')/\ah H G'/\B<G'.n/\G'.get B=.cells (aW {m with live:=m.live.set block p} vl' vs vi)/\kK G' Q {m with live:=m.live.set block p} vl' vs vi/\∀j,j<G.n->j≠B->G'.get j=G.get j:=by
 have l1:=Y.live.1;have o:=S.mo;have w:=S.f.wf;have hi:=S.hi;have g:=S.g;have hal:=(YQ.1 hp).1;have hp0:=(YQ.1 hp).2;obtain⟨ab,ao,ac,az,hvae,hab,-,hrd⟩:=hva.open hal;have hrd:=λ{id}{k}=>hrd rfl (id:=id) (k:=k);rw[hp0,WN]at hrd;obtain⟨G2,vl',z2,f2,o2⟩:=Dj (cp:=cp) (fuel:=fuel) T w (cP.fC o.live λb h=>h) (by omega) hbl hpn;have z2:=λ{d}{k}=>z2 d k;have m2:=f2.n;obtain⟨G3,hG3,f3,p3,n3,w3,k3,o3⟩:=S.put f2 (aW {m with live:=m.live.set block p} vl' vs vi);have g2:=(f2.same _ hi).trans g;have i1:=λ{id}{k}=>aP o.live.one (id:=id) (k:=k);have i2:=λ{id}{k}=>aP o2.one (id:=id) (k:=k);have i3:=λ{id}{k}=>aP hva.one (id:=id) (k:=k);refine⟨G3,vl',λd k=>?_,f3,by omega,p3,⟨?_,(o3.at_ hQ).ae,(o3.at_ hQ).bT⟩,λj hj hne=>(k3 j hne).trans (f2.same _ hj)⟩
 .have w2:=f2.wf;have u2:B<G2.n:=by omega
  simp only[aW,bE]at g hG3 g2;subst hvae;rw[ax T.k69 rfl rfl];simp only[go_sem,ZE,c69,g,gb,ga,↓hrd,hal,↓z2,↓i2,g2,w2,u2,hG3]
 .have:=o2.gv (v:=.slice B 0 0 0 0) (by omega) (λj hj ho=>k3 j (ho _ _ _ _ _ rfl)) λb o n c s e b' o' n' c' s' e'=>by cases e';have:=(o2.cQ e).1;omega
  have h:=this.toRow λb h=>by have:=hQ b h;have:=S.f.n;omega
  unfold cP;simp_all
theorem OJ(T:aB t){ca a}(S:TS H G B m vl vs vi)(Y:kf m)(ga:G.get ca=.cells [.int 3 a]){s}(hs:m.ae[a]?=some s)(hQ:∀b,Q b->b<H.n):∃G',(∀(d)(k),aj (aS cp t fuel (d+1)) (.func 158 [.ptr ca 0]) [.ptr B 0] G k=k (.cG []) G')/\ah H G'/\B<G'.n/\G'.get B=.cells (aW {m with ae:=m.ae.set a {s with hid:=true}} vl vs vi)/\kK G' Q {m with ae:=m.ae.set a {s with hid:=true}} vl vs vi/\∀j,j<H.n->G'.get j=G.get j:=by
 have l2:=Y.num;have w:=S.f.wf;have hi:=S.hi;have g:=S.g;obtain⟨f,-,-,G1,f1,o1,n1,f13⟩:=S;have o:=o1.fresh f13;obtain⟨xs,ho,hxl,hx⟩:=o.ae;obtain⟨xs1,ho1,-⟩:=o1.ae;have hlt:=(YQ.1 hs).1;have hel:=uA hxl;obtain⟨y,hy,oy,offy⟩:=hx a s hs;obtain⟨bs,c,z,l,rfl,gbs,hbs,hbn,hll,hput⟩:=ho.put w (by intro e;rw[e]at hel;simp at hel;omega);have hbB:=(ho1.cQ rfl).2;obtain⟨np,op,kp⟩:=hput (a*4+3) (.bool true) (by omega) rfl;have fp:ah H (G.put bs (.cells (l.set (a*4+3) (.bool true)))):=f.put hbs hbn;generalize hG2:G.put bs (.cells (l.set (a*4+3) (.bool true)))=G2 at np op kp fp;have hset:=Br hs hxl;rw[hset]at op;have keepO:∀{v}{sz n}{row},Own H G v sz n row->(∀b o n q s,v=.slice b o n q s->iP (.slice bs 0 m.ae.length c z) b)->Own H G2 v sz n row:=λh hh=>h.gv (v:=.slice bs 0 m.ae.length c z) (by omega) (λq hq ho=>kp q (ho _ _ _ _ _ rfl)) (λb o n c' s e b' o' n' c'' s' e'=>by cases e';exact hh _ _ _ _ _ e _ _ _ _ _ rfl);have hBb:B≠bs:=by omega
 refine⟨G2,λd k=>?_,fp,by omega,(kp B hBb).trans g,⟨cP.fC (keepO o.live o1.dl) hQ,⟨xs,?_,by simpa using hxl,λi s' hs'=>?_⟩,cP.fC (keepO o.bT o1.di) hQ⟩,λj hj=>kp j (by omega)⟩
 .have a1:=n_ m.ae.length;have a2:=n_ a;have a3:=l_ a;have a4:a*4+3<l.length:=by omega
  simp only[aW,bE]at g;rw[ax T.k79 rfl rfl];simp only[go_sem,c79,g,ga,a3,a4,hlt,gbs,w,hbn,hG2]
 .have:=op.toRow hQ;rw[Wj];omega
 .by_cases hia:i=a;.subst hia;rw[List.getElem?_set_self hlt]at hs';cases hs';exact⟨y,hy,cP.fC (keepO oy offy) hQ⟩
  .rw[List.getElem?_set_ne (λe=>hia e.symm)]at hs';obtain⟨x,hx1,hx2,hx3⟩:=hx i s' hs';exact⟨x,hx1,cP.fC (keepO hx2 hx3) hQ⟩
theorem PN(T:aB t){ca:Nat}{gd:Gd}(S:TS H G B m vl vs vi)(Y:kf m)(ga:G.get ca=.cells (aZ gd))(hca:ca<G.n)(hcB:ca≠B)(hQ:∀b,Q b->b<H.n):∃G' vs',(∀(d:Nat)(k:K),aj (aS cp t fuel (d+2)) (.func 152 [.ptr ca 0]) [.ptr B 0] G k=k (.cG []) G')/\ah H G'/\B<G'.n/\G'.get B=.cells (aW {m with ae:=m.ae++[⟨gd,m.live,false⟩]} vl vs' vi)/\kK G' Q {m with ae:=m.ae++[⟨gd,m.live,false⟩]} vl vs' vi/\∀j,j<H.n->G'.get j=G.get j:=by
 have l1:=Y.live.1;have l2:=Y.num;have o:=S.mo;have w:=S.f.wf;have hi:=S.hi;have lo:=S.lo;have g:=S.g;have f:=S.f;obtain⟨-,-,-,G1,f1,o1,n1,f13⟩:=S;obtain⟨xs,ho1,hxl,hx1⟩:=o1.ae;have ho:=ho1.fresh f13;have hvB:iP vs B:=ho1.Dz n1;obtain⟨Gm,G2,y,z2,hu2,hl2,f2,oy⟩:=abh (fP (cp:=cp) (fuel:=fuel) (H:=G.mark) (O:=Q) T (by rw[Heap.eK];exact w) ((cP.fC o.live hQ).fresh (ah.Hc w)) (by omega));have m2:=f2.n;obtain⟨Gn,G3,hGn,hu3,hl3,f3,p3,n3⟩:=Heap.Du f2.wf (.cells [.int 7 gd.1,.int 7 gd.2,y,.bool false]);have f23:=f2.trans f3;obtain⟨vs',G4,hap,o4,f4,k4,n4,off4⟩:=Own.app (w:=vs) (x:=.slice G2.n 0 1 2 0) (m:=1) (new:=[.int 7 gd.1,.int 7 gd.2,y,.bool false]) (f.trans f23) (ho.fresh f23) (λ{id f}=>ia p3 rfl) rfl (λx hx=>by rcases YN.1 hx with rfl|hx;rfl;rcases YN.1 hx with rfl|hx;rfl;rcases YN.1 hx with rfl|hx;exact oy.one;rw[YK.1 hx];rfl) (by omega);have o4:Own H G4 vs' 4 (m.ae.length+1) (dK m.ae xs++bO ⟨gd,m.live,false⟩ y):=o4;rw[<-uz hxl]at o4;have g4:G4.get B=.cells (aW m vl vs vi):=(k4 B (by omega) hvB).trans ((f23.same _ hi).trans g);have hB4:B<G4.n:=by have:=f3.n;omega
 obtain⟨G5,hG5,f5,p5,n5,w5,k5⟩:=Heap.bq (b:=B) f4 lo hB4 (.cells (aW {m with ae:=m.ae++[⟨gd,m.live,false⟩]} vl vs' vi));have off5:iP vs' B:=off4 B (by have:=f3.n;omega) hvB;have keepO:∀{v:V}{sz n:Nat}{row:List V},Own H G v sz n row->(∀b o n c s,v=.slice b o n c s->iP vs b)->(∀b o n c s,v=.slice b o n c s->b≠B)->Own H G5 v sz n row:=λh hh hb=>((h.fresh f23).gv (v:=vs) n4 k4 hh).gv (v:=.slice B 0 0 0 0) (by omega) (λj hj ho=>k5 j (ho _ _ _ _ _ rfl)) λb o n c s e b' o' n' c' s' e'=>by cases e';exact hb _ _ _ _ _ e
 have keep5:∀{H1:Heap}{v:V}{sz n:Nat}{row:List V},Own H1 G4 v sz n row->(∀b o n c s,v=.slice b o n c s->b≠B)->Own H1 G5 v sz n row:=λh hb=>h.gv (v:=.slice B 0 0 0 0) (by omega) (λj hj ho=>k5 j (ho _ _ _ _ _ rfl)) λb o n c s e b' o' n' c' s' e'=>by cases e';exact hb _ _ _ _ _ e
 have offB:∀{v:V}{sz n:Nat}{row:List V},Own H G1 v sz n row->∀b o n c s,v=.slice b o n c s->b≠B:=λh b o n c s e=>by have:=(h.cQ e).2;omega
 refine⟨G5,vs',λd k=>?_,f5,by omega,p5,⟨cP.fC (keepO o.live o1.dl (offB o1.live)) hQ,⟨xs++[y],?_,by simp[hxl],λi s' hs'=>?_⟩,cP.fC (keepO o.bT o1.di (offB o1.bT)) hQ⟩,λj hj=>?_⟩
 .have j1:=λ{id:Nat}{k:R}=>aP o.live.one (id:=id) (k:=k);have j2:=λ{id:Nat}{k:R}=>aP o.bT.one (id:=id) (k:=k);have j3:=λ{id:Nat}{k:R}=>aP oy.one (id:=id) (k:=k);have j4:=λ{id:Nat}{k:R}=>aP ho.one (id:=id) (k:=k);have j5:=λ{id:Nat}{k:R}=>aP o4.one (id:=id) (k:=k);have x3:=λ{id:Nat}{f:List V->R}=>Ci oy.one (id:=id) (f:=f);have z2:=λ{d:Nat}{k:K}=>z2 d k;have w4:=f4.wf;have wm:G2.mark.wf:=by rw[Heap.eK];exact f2.wf
  have nm:G2.mark.n=G2.n:=rfl;simp only[aW,bE,aZ]at g g4 ga hG5;rw[ax T.k76 rfl rfl];simp only[YL,YJ];simp only[go_sem,c76,g,ga,↓j3,↓j5,↓x3,↓z2,hu2,hl2,wm,nm,hGn,hu3,hl3,↓hap,g4,w4,hB4,hG5]
 .have:=(keep5 o4 λb o n c s e he=>off5 _ _ _ _ _ e he.symm).toRow hQ;show Row G5 Q _ 4 (m.ae++[_]).length _;rw[YB];exact this
 .have hs':(m.ae++[⟨gd,m.live,false⟩])[i]?=some s':=hs';by_cases hil:i<m.ae.length;.rw[Yp hil]at hs';obtain⟨x,b1,b2,b3⟩:=hx1 i s' hs';exact⟨x,by rw[Yp (by omega)];exact b1,cP.fC (keepO (b2.fresh f13) b3 (offB b2)) hQ⟩
  .rw[Ym (by omega)]at hs';have hi0:i-m.ae.length=0:=by have:=(YQ.1 hs').1;simp at this;omega
   rw[hi0]at hs';cases hs';refine⟨y,by rw[Ym (by omega),hxl,hi0];rfl,?_⟩;have oy4:Own G G4 y 1 m.live.length (m.live.map (V.int 3)):=(oy.fresh f3).gv (v:=vs) n4 k4 λb o n c s e=>ho.Dz (oy.cQ e).1;exact cP.fC (keep5 oy4 λb o n c s e=>by have:=(oy4.cQ e).1;omega) λb h=>by have:=hQ b h;have:=f.n;omega
 .rw[k5 j (by omega),k4 j (by have:=f.n;have:=f3.n;omega) (ho.off hj),f23.same j (by have:=f.n;omega)]
end
section
variable{id:Nat}{ph:dz}{e:Env}{H:Heap}{k:K}{O:Nat->Prop}
theorem UO{s}{n b c z}{row l}{a y}(ha:aA a e=.slice b 0 n c z)(hy:aA y e=s)(hw:H.wf)(hb:b<H.n)(g:H.get b=.cells l)(hl:l.length=n)(h:Row H O s 1 n row)(h0:0<n)(hn:n<9223372036854775808):aQ (.copy 1 a y) id ph e H k=k (.int 3 n) (H.put b (.cells row)):=by
 have hN:=λ{id}{f}=>h.nc (id:=id) (f:=f) λ_ _ _=>rfl;have hrow:=by omega
 have hone:=h.2.1;obtain⟨_,_,h|⟨q,o,c',z',l',rfl,_⟩⟩:=h;.omega
 show aJ a e (λd=>aJ y e λs=>bC id d (λb o dl _ _=>Uk id s λsl=>OY sl dl λn=>dg id 1 H s λ_ l=>takeN id l (Nat.mul n 1) λm=>Nat.rec (k (.int 3 0) H) (λ_ _=>ei id H b o m λH=>lQ id n H k) n) (dg id 1 H s λ_ _=>k (.int 3 0) H))=_;rw[aq,ha,aq,hy,cE];show OY n n (λn=>dg id 1 H (.slice q o n c' z') λ_ l=>takeN id l (Nat.mul n 1) λm=>Nat.rec (k (.int 3 0) H) (λ_ _=>ei id H b 0 m λH=>lQ id n H k) n)=_;have hmin:∀f,OY n n f=f n:=λf=>by unfold OY;rw[bF];simp
 rw[hmin];show dg id 1 H (.slice q o n c' z') (λ_ l=>takeN id l (n*1) λm=>Nat.rec (k (.int 3 0) H) (λ_ _=>ei id H b 0 m λH=>lQ id n H k) n)=_;rw[hN,eW (by omega),oq,if_neg (by omega),PT g,Yk (by omega),ck hone,tS (by omega),ee hw hb,Mr,if_pos hn,QF,YJ,List.drop_of_length_le (by omega),YX]
def Au(v:V)(n:Nat):V:=match v with|.slice b o _ c s=>if c=0then .slice b o n 0 s else if c-1=0then .slice b o n 1 0 else .slice b o n c 0|v=>v
theorem MC{H0 H'}{v}{sz N n}{row}(h:Own H0 H' v sz N row)(hn:n<=N)(hO:∀b,O b->b<H0.n):Row H' O (Au v n) sz n (row.take (n*sz)):=by
 obtain⟨h1,h2,⟨rfl,rfl⟩|⟨b,c,s,rest,rfl,g,hc,hb1,hb2⟩⟩:=h
 .obtain rfl:n=0:=by omega
  exact⟨by simp,λx hx=>by simp_all,YF ⟨YF rfl,rfl⟩⟩
 .have hle:n*sz<=row.length:=by rw[h1];exact Nat.mul_le_mul_right _ hn
  have hrow:∀c s,Row H' O (.slice b 0 n c s) sz n (row.take (n*sz)):=λc s=>⟨by simp_all,λx hx=>h2 x (WK hx),YD ⟨b,0,c,s,row++rest,rfl,YF g,hb2,λh=>by have:=hO b h;omega,by rw[YB];omega,by rw[Wz,List.take_append_of_le_length hle]⟩⟩;unfold Au;split;.rename_i h;cases h;split;exact hrow _ _;split;exact hrow _ _;simp_all
  .rename_i h;exact absurd rfl (h _ _ _ _ _)
end
theorem ye:∀{ss}{xs}{n},xs.length=ss.length->(dK ss xs).take (n*4)=dK (ss.take n) (xs.take n)|[],[],n,_=>by simp[dK]|[],_::_,_,h=>by simp_all|_::_,[],_,h=>by simp_all|a::ss,b::xs,0,_=>by rfl|a::ss,b::xs,n+1,h=>by have:=ye (n:=n) (by simpa using h);show(bO a b++dK ss xs).take ((n+1)*4)=bO a b++dK (ss.take n) (xs.take n);rw[<-this,show(n+1)*4=(bO a b).length+n*4by simp[bO];omega,List.take_length_add_append]
def Rh(m:MT)(n:Nat):MT:={m with ae:=m.ae.take n,live:=(df {m with ae:=m.ae.take n}).bT}
theorem J9{m:MT}{n}{s}(hs:m.ae[n]?=some s):(df {m with ae:=m.ae.take (n+1)}).bT=s.bT:=by have hlt:=(YQ.1 hs).1;show((m.ae.take (n+1)).getLast?.getD _).bT=_;rw[YB1,Yv,Nat.min_eq_left (by omega),Wp,Yy,if_pos (by omega),hs];rfl
section
variable{cp:RC->au}{t:Nat->Option du}{fuel:Nat}{H G:Heap}{Q:Nat->Prop}{B:Nat}{m:MT}{vl vs vi:V}
theorem AP(T:aB t){ca n:Nat}(S:TS H G B m vl vs vi)(Y:kf m)(ga:G.get ca=.cells [.int 3 n])(hcn:ca<H.n)(hn:n<=m.ae.length)(hQ:∀b,Q b->b<H.n)(himg:∀s∈m.ae,s.bT.length=m.live.length)(hpos:0<m.live.length):∃G' vl' vs',(∀(d:Nat)(k:K),aj (aS cp t fuel (d+1)) (.func 156 [.ptr ca 0]) [.ptr B 0] G k=k (.cG []) G')/\ah H G'/\B<G'.n/\G'.get B=.cells (aW (Rh m n) vl' vs' vi)/\kK G' Q (Rh m n) vl' vs' vi/\∀j,j<H.n->G'.get j=G.get j:=by
 have l1:=Y.live.1;have l2:=Y.num;obtain⟨f,g,hi,G1,f1,o1,n1,f13⟩:=S;have w:=f.wf;have o:=o1.fresh f13;obtain⟨xs,ho1,hxl,hx1⟩:=o1.ae;have ho:=ho1.fresh f13;have mf:=f1.n;have hc1:(Au vs n).one=true:=(MC ho hn hQ).one;generalize hv2:Au vs n=vs2 at hc1;obtain⟨G2,hG2,f2,p2,n2,w2,k2⟩:=Heap.bq (b:=B) f13 n1 hi (.cells (aW m vl vs2 vi));obtain⟨G3,f3,o3,g3,n3,z3⟩:=uK (n:=m.live.length) (kl:=3) (x:=V.int 3 0) (a:=ue) rfl w2 rfl (by omega) (YC _);have p3:G3.get B=.cells (aW m vl vs2 vi):=(f3.same _ (by omega)).trans p2;have hB3:B<G3.n:=by omega
 obtain⟨G4,hG4,f4,p4,n4,w4,k4⟩:=Heap.bq (b:=B) (f2.trans f3) n1 hB3 (.cells (aW m (.slice G2.n 0 m.live.length (m.live.length+1) 0) vs2 vi));have g4:G4.get G2.n=.cells (Yc m.live.length (V.int 3 0)):=(k4 _ (by omega)).trans g3;have ca4:G4.get ca=.cells [.int 3 n]:=(k4 _ (by omega)).trans ((f3.same _ (by omega)).trans ((k2 _ (by omega)).trans ga));have j1:=λ{id:Nat}{k:R}=>aP o.live.one (id:=id) (k:=k);have j2:=λ{id:Nat}{k:R}=>aP o.bT.one (id:=id) (k:=k);have j3:=λ{id:Nat}{k:R}=>aP hc1 (id:=id) (k:=k);have sn:=λ{id:Nat}{f:Nat->R}=>o.live.sn (id:=id) (f:=f);have w3:=f3.wf;have a1:=l_ m.live.length;have a2:=n_ n;have a3:=n_ 0;have z3:=λ{id:Nat}{ph:dz}{e:Env}{k:K}(h1:aA ue e=.int 3 m.live.length)=>z3 (id:=id) (ph:=ph) (e:=e) (k:=k) h1;have snapsAt:∀{G':Heap},ah G1 G'->fN G' Q vs2 (m.ae.take n):=λ{G'}f'=>by
  refine⟨xs.take n,?_,by rw[Yv,Yv,hxl],λi s hs=>?_⟩;.have:=MC (ho1.fresh f') hn hQ;rw[ye hxl,hv2]at this;rwa[show(m.ae.take n).length=n by rw[Yv];omega]
  .rw[Yy]at hs;split at hs;.rename_i hin;obtain⟨x,b1,b2,b3⟩:=hx1 i s hs;exact⟨x,by rw[Yy,if_pos hin];exact b1,cP.fC (b2.fresh f') hQ⟩
   .cases hs
 by_cases h0:n=0
 .subst h0;refine⟨G4,.slice G2.n 0 m.live.length (m.live.length+1) 0,vs2,λd k=>?_,f1.trans f4,by omega,p4,⟨?_,snapsAt f4,cP.fC (o1.fresh f4).bT hQ⟩,λj hj=>?_⟩
  .simp only[aW,bE]at g hG2 p2 p3 hG4;rw[ax T.k78 rfl rfl];simp only[YL,YJ];obtain⟨-,-,⟨hvs,hN⟩|⟨b,c,s,rest,hvs,-,rfl|⟨rfl,rfl,-⟩,-⟩⟩:=ho;.subst hvs;simp only[Au]at hv2;subst hv2;simp only[go_sem,ZE,c78,g,ga,↓j3,w,hi,hG2,p2,↓sn,a1,↓z3,p3,w3,hB3,hG4,ca4,a2]
   .subst hvs;by_cases hN:m.ae.length=0;.simp only[Au,hN,WG,QH,if_neg Nat.one_ne_zero,if_true]at hv2;subst hv2;simp only[go_sem,ZE,c78,g,ga,↓j3,w,hi,hG2,p2,↓sn,a1,↓z3,p3,w3,hB3,hG4,ca4,a2,hN]
    .simp only[Au,Wp,if_neg (YR3 _),if_neg hN]at hv2;subst hv2;simp only[go_sem,ZE,Wp,Wx,c78,g,ga,↓j3,w,hi,hG2,p2,↓sn,a1,↓z3,p3,w3,hB3,hG4,ca4,a2,hN]
   .subst hvs;simp only[Au,if_true]at hv2;subst hv2;simp only[go_sem,ZE,c78,g,ga,↓j3,w,hi,hG2,p2,↓sn,a1,↓z3,p3,w3,hB3,hG4,ca4,a2]
  .show cP G4 Q _ (Yc m.live.length 0);have:Own G2 G4 (.slice G2.n 0 m.live.length (m.live.length+1) 0) 1 m.live.length (Yc m.live.length (V.int 3 0)):=o3.gv (v:=.slice B 0 0 0 0) (by omega) (λj hj ho=>k4 j (ho _ _ _ _ _ rfl)) λb o n c s e b' o' n' c' s' e'=>by cases e';cases e;omega
   have h:=this.toRow (O:=Q) λb h=>by have:=hQ b h;have:=f13.n;omega
   unfold cP;rw[WW,Wh];exact h
  .rw[k4 j (by omega),f3.same j (by have:=f13.n;omega),k2 j (by omega)]
 .obtain⟨q,rfl⟩:=s_ n;have hq:q<m.ae.length:=by omega
  have hs:m.ae[q]?=some m.ae[q]:=YA hq;have hlen:=himg _ (YT hq);have hlast:=J9 hs;obtain⟨x,hxq,ox,ofx⟩:=hx1 q _ hs;have hrow:=qK hs hxq;generalize m.ae[q]=sq at hs hlen hlast ox hrow;have hx4:cP G4 (λb=>b<H.n) x sq.bT:=cP.fC (ox.fresh f4) λb h=>h;have w4':=f4.wf;have hx4':Row G4 (λb=>b<H.n) x 1 m.live.length (sq.bT.map (V.int 3)):=by have:=hx4;unfold cP at this;rwa[hlen]at this
  obtain⟨G5,hG5,f5,p5,n5,w5,k5⟩:=Heap.bq (b:=G2.n) f4 (by omega) (by omega) (.cells (sq.bT.map (V.int 3)));have BG:=λ{id:Nat}{ph:dz}{e:Env}{k:K}(h1:aA wE e=.slice G2.n 0 m.live.length (m.live.length+1) 0)(h2:aA Ap e=x)=>UO (id:=id) (ph:=ph) (e:=e) (k:=k) h1 h2 w4' (show G2.n<G4.n by omega) g4 (WW ..) hx4' hpos (by omega);rw[hG5]at BG;have p5B:G5.get B=.cells (aW m (.slice G2.n 0 m.live.length (m.live.length+1) 0) vs2 vi):=(k5 B (by omega)).trans p4;refine⟨G5,.slice G2.n 0 m.live.length (m.live.length+1) 0,vs2,λd k=>?_,f1.trans f5,by omega,p5B,⟨?_,snapsAt f5,cP.fC (o1.fresh f5).bT hQ⟩,λj hj=>?_⟩
  .have hxx:(dK m.ae xs)[q*4+2]?=some x:=by
    have:(((dK m.ae xs).drop (q*4)).take 4)[2]?=some x:=by rw[hrow];rfl
    rwa[Yy,if_pos (by omega),WB]at this
   have jx:=λ{id:Nat}{k:R}=>aP ox.one (id:=id) (k:=k);have a5:=n_ q;have a6:=l_ q;have a7:(q+1+18446744073709551615)%18446744073709551616=q:=by omega
   have a8:=l_ (q+1);have a9:0<q+1:=by omega
   have a10:q<q+1:=by omega
   simp only[aW,bE]at g hG2 p2 p3 hG4 p4;rw[ax T.k78 rfl rfl];simp only[YL,YJ];obtain⟨-,-,⟨hvs,hN⟩|⟨b,c,s,rest,hvs,gb,hc,-⟩⟩:=ho;.omega
   .have hb1:b<G1.n:=(ho1.cQ hvs).2;have gb4:G4.get b=.cells (dK m.ae xs++rest):=(f4.same _ hb1).trans ((f13.same _ hb1).symm.trans gb);have hrd:∀{id:Nat}{k:V->R},nth id (dK m.ae xs++rest) (q*4+2) k=k x:=gY (by rw[Yp (YQ.1 hxx).1];exact hxx);subst hvs;rcases hc with rfl|⟨rfl,rfl,-⟩
    .have hN:¬m.ae.length=0:=by omega
     simp only[Au,Wp,if_neg (YR3 _),if_neg hN]at hv2;subst hv2;simp only[go_sem,Wp,Wx,c78,g,ga,↓j3,w,hi,hG2,p2,↓sn,a1,↓z3,p3,w3,hB3,hG4,ca4,a2,a3,hN,hn,p4,a6,a7,a8,a9,a10,gb4,↓hrd,↓BG]
    .simp only[Au,if_true]at hv2;subst hv2;simp only[go_sem,Wx,c78,g,ga,↓j3,w,hi,hG2,p2,↓sn,a1,↓z3,p3,w3,hB3,hG4,ca4,a2,a3,hn,p4,a6,a7,a8,a9,a10,gb4,↓hrd,↓BG]
  .show cP G5 Q _ (df _).bT;rw[hlast];have:Own G2 G5 (.slice G2.n 0 m.live.length (m.live.length+1) 0) 1 m.live.length (sq.bT.map (V.int 3)):=⟨by simp[hlen],λy hy=>by obtain⟨p,-,rfl⟩:=YW.1 hy;rfl,YD ⟨_,_,_,[],rfl,by rw[YX];exact p5,YF rfl,YC _,by omega⟩⟩;have h:=this.toRow (O:=Q) λb h=>by have:=hQ b h;have:=f13.n;omega
   unfold cP;rw[hlen];exact h
  .rw[k5 j (by have:=f13.n;omega),k4 j (by omega),f3.same j (by have:=f13.n;omega),k2 j (by omega)]
end
def stM(m:MT)(tk:Tk)(l:List Nat):MT:=if tk.next<tk.all then{m with tok:={tk with bT:=l}}else{m with ae:=m.ae++[⟨tk.t,l,false⟩],live:=l}
section
variable{cp:RC->au}{t:Nat->Option du}{fuel:Nat}{H G:Heap}{Q:Nat->Prop}{B:Nat}{m:MT}{vl vs vi:V}
theorem K0(T:aB t){ca cb:Nat}{tk:Tk}{x0 vL:V}{l:List Nat}{Hb:Heap}(f0:ah Hb H)(S:TS H G B m vl vs vi)(Y:kf m)(ga:G.get ca=.cells [vL])(gc:G.get cb=.cells (bE tk x0))(hca:ca<H.n)(hcb:cb<H.n)(hcc:ca≠cb)(hb:Hb.n<=cb)(hx0:x0.one=true)(hvL:vL.one=true)(hn1:nn tk.next)(hn2:nn tk.all)(hll:l.length<1000)(hL:∀{G':Heap},(∀j,j<H.n->j≠cb->G'.get j=G.get j)->G.n<=G'.n->cP G' Q vL l)(hQ:∀b,Q b->b<Hb.n):∃G' vl' vs' vi',(∀(d:Nat)(k:K),aj (aS cp t fuel (d+2)) (.func 116 [.ptr cb 0,.ptr ca 0]) [.ptr B 0] G k=k (.cG []) G')/\ah Hb G'/\B<G'.n/\G'.get B=.cells (aW (stM m tk l) vl' vs' vi')/\kK G' Q (stM m tk l) vl' vs' vi'/\(∀j,j<H.n->j≠cb->G'.get j=G.get j)/\G.n<=G'.n:=by
 have l1:=Y.live.1;have l2:=Y.num;obtain⟨f,g,hi,G1,f1,o1,n1,f13⟩:=S;have hQH:=λb h=>YE (hQ b h) f0.n;have w:=f.wf;have mf:=f1.n;have m13:=f13.n;have m0:=f0.n;obtain⟨xs,ho1,hxl,hx1⟩:=o1.ae;have offB:∀{v}{sz n}{row},Own H G1 v sz n row->∀b o n c s,v=.slice b o n c s->b≠B:=λh b o n c s e=>by have:=(h.cQ e).2;omega
 have offC:∀{v}{sz n}{row},Own H G1 v sz n row->∀b o n c s,v=.slice b o n c s->b≠cb:=λh b o n c s e=>by have:=(h.cQ e).1;omega
 have jL:=λ{id}{k}=>aP hvL (id:=id) (k:=k);have j1:=λ{id}{k}=>aP o1.live.one (id:=id) (k:=k);have j2:=λ{id}{k}=>aP o1.bT.one (id:=id) (k:=k);have j4:=λ{id}{k}=>aP ho1.one (id:=id) (k:=k);have jx:=λ{id}{k}=>aP hx0 (id:=id) (k:=k);unfold stM;by_cases hlt:tk.next<tk.all
 .rw[if_pos hlt];have fb:=f0.trans f;obtain⟨G2,hG2,f2,p2,n2,w2,k2⟩:=Heap.bq fb hb (by omega) (.cells (bE tk vL));have g2:=(k2 B (by omega)).trans g;obtain⟨G3,hG3,f3,p3,n3,w3,k3⟩:=Heap.bq (b:=B) f2 (by omega) (by omega) (.cells (aW {m with tok:={tk with bT:=l}} vl vs vL));have keepO:∀{v}{sz n}{row},Own H G1 v sz n row->Own H G3 v sz n row:=λh=>((h.fresh f13).gv (v:=.slice cb 0 0 0 0) (by omega) (λj hj ho=>k2 j (ho _ _ _ _ _ rfl)) (λb o n c s e b' o' n' c' s' e'=>by cases e';exact offC h _ _ _ _ _ e)).gv (v:=.slice B 0 0 0 0) (by omega) (λj hj ho=>k3 j (ho _ _ _ _ _ rfl)) λb o n c s e b' o' n' c' s' e'=>by cases e';exact offB h _ _ _ _ _ e
  have hsame:∀j,j<H.n->j≠cb->G3.get j=G.get j:=λj hj hne=>(k3 j (by omega)).trans (k2 j hne);refine⟨G3,vl,vs,vL,λd k=>?_,f3,by omega,p3,⟨cP.fC (keepO o1.live) hQH,⟨xs,(keepO ho1).toRow hQH,hxl,λi s hs=>let⟨x,b1,b2,b3⟩:=hx1 i s hs;⟨x,b1,cP.fC (keepO b2) hQH⟩⟩,hL hsame (by omega)⟩,hsame,by omega⟩;have hcn:cb<G.n:=by omega
  have hBn:B<G2.n:=by omega
  simp only[aW,bE]at g gc hG2 g2 hG3 p2;rw[ax T.k58 rfl rfl];simp only[YL,YJ];simp only[go_sem,c58,gc,ga,hn1,hn2,hlt,↓jL,w,hcn,hG2,p2,g2,w2,hBn,hG3]
 .rw[if_neg hlt];have ho:=ho1.fresh f13;have hvB:=ho1.Dz n1;obtain⟨Gn,G3,hGn,hu3,hl3,f3,p3,n3⟩:=Heap.Du w (.cells [.int 7 tk.t.1,.int 7 tk.t.2,vL,.bool false]);obtain⟨vs',G4,hap,o4,f4,k4,n4,off4⟩:=Own.app (w:=vs) (x:=.slice G.n 0 1 2 0) (f.trans f3) (ho.fresh f3) (λ{id f}=>ia p3 rfl) rfl (λx hx=>by rcases YN.1 hx with rfl|hx;rfl;rcases YN.1 hx with rfl|hx;rfl;rcases YN.1 hx with rfl|hx;exact hvL;rw[YK.1 hx];rfl) (by omega);have o4:Own H G4 vs' 4 (m.ae.length+1) (dK m.ae xs++bO ⟨tk.t,l,false⟩ vL):=o4;rw[<-uz hxl]at o4;have g4:=(k4 B (by omega) hvB).trans ((f3.same _ hi).trans g);have hB4:B<G4.n:=by omega
  have lo:H.n<=B:=by omega
  obtain⟨G5,hG5,f5,p5,n5,w5,k5⟩:=Heap.bq f4 lo hB4 (.cells (aW m vl vs' vi));have off5:=off4 B (by omega) hvB;have same5:=λj hj=>(k5 j (by omega)).trans ((k4 j (by omega) (ho.off hj)).trans (f3.same j (by omega)));obtain⟨G6,vl',z6,f6,o6⟩:=fP (cp:=cp) (fuel:=fuel) T w5 (hL (λj hj _=>same5 j hj) (by omega)) (by omega);have m6:=f6.n;obtain⟨G7,hG7,f7,p7,n7,w7,k7⟩:=Heap.bq (f5.trans f6) lo (by omega) (.cells (aW {m with ae:=m.ae++[⟨tk.t,l,false⟩],live:=l} vl' vs' vi));have p6:=(f6.same _ (by omega)).trans p5;have keep7:∀{H1}{v}{sz n}{row},Own H1 G4 v sz n row->(∀b o n c s,v=.slice b o n c s->b≠B)->Own H1 G7 v sz n row:=λh hb=>((h.gv (v:=.slice B 0 0 0 0) (by omega) (λj hj ho=>k5 j (ho _ _ _ _ _ rfl)) (λb o n c s e b' o' n' c' s' e'=>by cases e';exact hb _ _ _ _ _ e)).fresh f6).gv (v:=.slice B 0 0 0 0) (by omega) (λj hj ho=>k7 j (ho _ _ _ _ _ rfl)) λb o n c s e b' o' n' c' s' e'=>by cases e';exact hb _ _ _ _ _ e
  have keepO:∀{v}{sz n}{row},Own H G1 v sz n row->(∀b o n c s,v=.slice b o n c s->iP vs b)->Own H G7 v sz n row:=λh hh=>keep7 (((h.fresh f13).fresh f3).gv n4 k4 hh) (offB h);have same7:=λj hj=>(k7 j (by omega)).trans ((f6.same j (by omega)).trans (same5 j hj));have w6:=f6.wf;have hB6:B<G6.n:=by omega
  have hvl:=o6.gv (v:=.slice B 0 0 0 0) (by omega) (λj hj ho=>k7 j (ho _ _ _ _ _ rfl)) λb o n c s e b' o' n' c' s' e'=>by cases e';have:=(o6.cQ e).1;omega
  refine⟨G7,vl',vs',vi,λd k=>?_,f0.trans f7,by omega,p7,⟨cP.fC hvl (λb h=>by have:=hQH b h;omega),⟨xs++[vL],?_,by simp[hxl],λi s' hs'=>?_⟩,cP.fC (keepO o1.bT o1.di) hQH⟩,λj hj _=>same7 j hj,by omega⟩
  .have j6:=λ{id}{k}=>aP o4.one (id:=id) (k:=k);have j7:=λ{id}{k}=>aP o6.one (id:=id) (k:=k);have xL:=λ{id}{f}=>Ci hvL (id:=id) (f:=f);have z6:=λ{d}{k}=>z6 d k;have w4:=f4.wf;have wm:G.mark.wf:=by rw[Heap.eK];exact w
   have nm:G.mark.n=G.n:=rfl;have ga5:=(same5 ca hca).trans ga;simp only[aW,bE]at g gc g4 hG5 p6 hG7;rw[ax T.k58 rfl rfl];simp only[YL,YJ];simp only[go_sem,c58,g,gc,ga,hn1,hn2,hlt,↓jL,↓j6,↓j7,↓xL,wm,nm,hGn,hu3,hl3,↓hap,g4,w4,hB4,hG5,ga5,↓z6,p6,w6,hB6,hG7]
  .have:=(keep7 o4 λb o n c s e he=>off5 _ _ _ _ _ e he.symm).toRow hQH;show Row G7 Q _ 4 (m.ae++[_]).length _;rw[YB];exact this
  .have hs':=hs';by_cases hil:i<m.ae.length;.rw[Yp hil]at hs';obtain⟨x,b1,b2,b3⟩:=hx1 i s' hs';exact⟨x,by rw[Yp (by omega)];exact b1,cP.fC (keepO b2 b3) hQH⟩
   .rw[Ym (by omega)]at hs';have hi0:=by have:=(YQ.1 hs').1;simp at this;omega
    rw[hi0]at hs';cases hs';exact⟨vL,by rw[Ym (by omega),hxl,hi0];rfl,hL (λj hj _=>same7 j hj) (by omega)⟩
end
structure VP(H:Heap)(dp vp a n:Nat)(A:AD)(O:Nat->Prop)(m:MT)(vl vs vi:V):Prop where
 cK:cB H dp A O
 off:A.off=false
 can:mK A a n
 lo:193<=A.len
 hi:A.len<=1024get:H.get vp=.cells (vc m vl vs vi dp false)vn:vp<H.n
 vo:¬O vp
 nx:kK H (bg O vp) m vl vs vi
 ok:kf m
def oJ(H H':Heap)(dp vp:Nat)(O O':Nat->Prop)(m:MT)(vl vs vi:V)(A':AD)(m':MT)(lost:Bool):Prop:=Step H (bg O vp) H' (bg O' vp)/\cB H' dp A' O'/\¬O' vp/\vp<H'.n/\∃vl' vs' vi',H'.get vp=.cells (vc m' vl' vs' vi' dp lost)/\kK H' (bg O' vp) m' vl' vs' vi'/\∀X:Nat->Prop,(∀b,X b->b<H.n)->kK H (λb=>X b\/bg O vp b) m vl vs vi->kK H' (λb=>X b\/bg O' vp b) m' vl' vs' vi'
theorem VP.fresh{H H':Heap}{dp vp a n:Nat}{A:AD}{O:Nat->Prop}{m:MT}{vl vs vi:V}(S:VP H dp vp a n A O m vl vs vi)(f:ah H H'):VP H' dp vp a n A O m vl vs vi:=⟨S.cK.fresh f,S.off,S.can,S.lo,S.hi,(f.same _ S.vn).trans S.get,YE S.vn f.n,S.vo,S.nx.fresh f,S.ok⟩
theorem VP.lt{H:Heap}{dp vp a n:Nat}{A:AD}{O:Nat->Prop}{m:MT}{vl vs vi:V}(S:VP H dp vp a n A O m vl vs vi):∀b,bg O vp b->b<H.n:=λb h=>h.elim (S.cK.lt b) λh=>by rw[h];exact S.vn
theorem VP.done{H:Heap}{dp vp a n:Nat}{A:AD}{O:Nat->Prop}{m:MT}{vl vs vi:V}(S:VP H dp vp a n A O m vl vs vi):oJ H H dp vp O O m vl vs vi A m false:=⟨(ah.refl S.cK.wf).step,S.cK,S.vo,S.vn,vl,vs,vi,S.get,S.nx,λX _ h=>h⟩
theorem oJ.before{H0 H H':Heap}{dp vp:Nat}{O O1 O':Nat->Prop}{A':AD}{m m':MT}{vl vs vi:V}{lost:Bool}(h:oJ H H' dp vp O1 O' m vl vs vi A' m' lost)(s:Step H0 (bg O vp) H (bg O1 vp)):oJ H0 H' dp vp O O' m vl vs vi A' m' lost:=let⟨h1,h2,h3,h4,vl',vs',vi',h5,h6,h7⟩:=h;⟨s.trans h1,h2,h3,h4,vl',vs',vi',h5,h6,λX hX hM=>h7 X (λb hb=>YE (hX b hb) s.n) (hM.bU s.or)⟩
def CC(pk:List UInt8->List (List UInt8))(A:AD)(a:Nat)(m m':MT)(bw:List Wr):MT:=if(lO pk A a m' bw).2=0then m' else m
def Ti(pk:List UInt8->List (List UInt8))(A:AD)(a:Nat)(m':MT)(bw:List Wr):Bool:=(px m').2==0&&(lO pk A a m' bw).2==6
section
variable{cp:RC->au}{t:Nat->Option du}{fuel:Nat}{H:Heap}{pk:List UInt8->List (List UInt8)}{unpk:List (List UInt8)->Option (List UInt8)}
theorem jF(T:aB t)(hc:aM t)(F:bH pk unpk)(hp:t 110=some (.nat (dO pk))){Hb}{dp vp a n bt c z}{A}{O}{m m'}{vl vs vi vb}{bw}{fs}(f0:ah Hb H)(S:VP Hb dp vp a n A O m vl vs vi)(Y':kf m')(hbw:∀w∈bw,w.1<18446744073709551616/\w.2.1<1000000/\tM w.2)(hbl:bw.length<1000)(hbt:H.get bt=.cells fs)(hbn:bt<H.n)(hfl:fs.length<1000)(hf1:∀f∈fs,f.one=true)(ht:∀(G1 G:Heap)(vl1 vs1 vi1:V),ah H G->TS H G G1.n m vl1 vs1 vi1->∃G' vl2 vs2 vi2,Lq cp t fuel G1.n bt fs G G'/\ah Hb G'/\G1.n<G'.n/\G'.get G1.n=.cells (aW m' vl2 vs2 vi2)/\kK G' (λb=>b<Hb.n) m' vl2 vs2 vi2/\Row G' (bg O vp) vb 2 bw.length (bX bw))(hfu:1000000<fuel):∃H' O',(∀(d:Nat)(k:K),aj (aS cp t fuel (d+8)) (.func 112 []) [.ptr vp 0,vb,.slice bt 0 fs.length c z] H k=k (.int 3 (lO pk A a m' bw).2) H')/\oJ Hb H' dp vp O O' m vl vs vi (lO pk A a m' bw).1 (CC pk A a m m' bw) (Ti pk A a m' bw):=by
 obtain⟨H',O',z1,s,D,v1,v2,h⟩:=Fv T hc F hp f0 S.cK S.off S.can S.lo S.hi S.get S.vn S.vo S.nx S.ok Y' hbw hbl hbt hbn hfl hf1 (λG1 G vl1 vs1 vi1 f1 o f g hn=>ht G1 G vl1 vs1 vi1 (f1.trans f) (TS.of f1 o f g hn)) hfu;refine⟨H',O',z1,s,D,v1,v2,?_⟩;rcases h with⟨h0,vl2,vs2,vi2,h1,h2,h3⟩|⟨h0,h1,h2,h3⟩;.exact⟨vl2,vs2,vi2,by unfold CC Ti;simp_all,by unfold CC;simp_all,λX hX _=>by unfold CC;simp_all⟩
 .exact⟨vl,vs,vi,by unfold CC Ti;simp_all,by unfold CC;simp_all,λX _ hM=>by unfold CC;simp_all⟩
theorem ko:kP sH.b/\kP sH.t/\nn sH.next/\nn sH.all/\DB sH.bT:=by
 have z:(0:Nat)<18446744073709551616:=by omega
 have z2:=n_ 0;exact⟨⟨z,z⟩,⟨z,z⟩,z2,z2,⟨by show 0<100;omega,λp hp=>by cases hp⟩⟩
theorem kf.drop{m:MT}(h:kf m):kf {m with tok:=sH}:=⟨h.live,h.num,h.ae,ko⟩
theorem AN(T:aB t)(hc:aM t)(F:bH pk unpk)(hp:t 110=some (.nat (dO pk))){dp vp a n q}{A}{O}{m}{vl vs vi}(S:VP H dp vp a n A O m vl vs vi)(hq:nn q)(himg:∀s∈m.ae,s.bT.length=m.live.length)(hpos:0<m.live.length)(Y':kf (Rh {m with tok:=sH} q))(hfu:1000000<fuel):∃H' O',(∀(d)(k),aj (aS cp t fuel (d+9)) (.func 66 []) [.ptr vp 0,.int 3 q] H k=k (.int 3 (if m.ae.length<q then 2 else(lO pk A a (Rh {m with tok:=sH} q) []).2)) H')/\oJ H H' dp vp O O' m vl vs vi (if m.ae.length<q then A else(lO pk A a (Rh {m with tok:=sH} q) []).1) (if m.ae.length<q then m else CC pk A a m (Rh {m with tok:=sH} q) []) (if m.ae.length<q then false else Ti pk A a (Rh {m with tok:=sH} q) []):=by
 have hn0:=S.ok.num;obtain⟨G0,hG0,f0,p0,n0⟩:=Heap.aV S.cK.wf (.cells [.int 3 q]);have S0:=S.fresh f0;obtain⟨G1,z1,s1,D1,n1,g1,k1⟩:=iu (cp:=cp) (fuel:=fuel) T hc S0.cK S0.get S0.vn S0.vo;rw[S.off]at z1 g1;have z1:=λ{d}{k}=>z1 (d+5) k;have S1:VP G1 dp vp a n A O m vl vs vi:=⟨D1,S.off,S.can,S.lo,S.hi,g1,by rw[n1];exact S0.vn,S.vo,S0.nx.bU s1,S.ok⟩;have hne:H.n≠vp:=by have:=S.vn;omega
 have p1:=(k1 _ hne).trans p0;have s01:=f0.step.trans s1;have w0:=S.cK.wf;have g1':=g1;simp only[vc,aW,bE,YL,YJ]at g1';have sn:=λ{id}{f:Nat->R}=>(let⟨_,h,_⟩:=S1.nx.ae;h.sn:bC id vs (λ_ _ len _ _=>f len) (f 0)=f m.ae.length);have a1:=l_ m.ae.length;have a2:=n_ m.ae.length;have a3:=n_ 0;have a4:¬q<0:=by omega
 by_cases h0:m.ae.length<q;.simp only[if_pos h0];refine⟨G1,O,λd k=>?_,S1.done.before s01⟩;rw[aI T.k33 rfl rfl];simp only[go_sem,c33,w0,hG0,↓z1,p1,g1',↓sn,a1,a2,a3,a4,hq,h0,YV,or_self]
 .simp only[if_neg h0];obtain⟨G2,hG2,f2,p2,n2⟩:=Heap.aV D1.wf (.cells [.func 114 [],.func 156 [.ptr H.n 0]]);have p12:=(f2.same _ (by omega)).trans p1;obtain⟨H',O',z3,hd⟩:=jF (bw:=[]) T hc F hp f2 S1 Y' (λw h=>by cases h) (by decide) p2 (by omega) (by show 2<1000;omega) (λf hf=>by rcases YN.1 hf with rfl|hf;rfl;rw[YK.1 hf];rfl) (λB G vl1 vs1 vi1 fG ts=>by obtain⟨G',zt,ts',kt⟩:=oG T ts;have hlo:=ts.lo;have hQ:∀b,b<G1.n->b<G2.n:=λb h=>YE h f2.n;obtain⟨G'',vl2,vs2,zr,fr,hr,pr,mr,kr⟩:=AP (cp:=cp) T ts' S.ok.drop ((kt _ (by omega)).trans ((fG.same _ (by omega)).trans p12)) (by omega) (Nat.le_of_not_lt h0) hQ himg hpos;exact⟨G'',vl2,vs2,.aE,⟨G',λd k=>zt (d+4) k,kt _ (by omega),G'',λd k=>zr (d+4) k,kr _ (by omega),rfl⟩,f2.trans fr,hr,pr,mr,rfl,λx hx=>(by cases hx),YF ⟨YF rfl,rfl⟩⟩) hfu;have z3:∀{d}{k},aj (aS cp t fuel (d+8)) (.func 112 []) [.ptr vp 0,.aE,.slice G1.n 0 2 3 0] G2 k=k (.int 3 (lO pk A a (Rh {m with tok:=sH} q) []).2) H':=λ{d k}=>z3 d k;refine⟨H',O',λd k=>?_,hd.before s01⟩;have w1:=D1.wf;rw[aI T.k33 rfl rfl];simp only[go_sem,c33,w0,hG0,↓z1,p1,g1',↓sn,a1,a2,a3,a4,hq,h0,w1,hG2,↓z3,YV,or_self]
end
theorem eU{m}{q}{s}(hs:m.ae[q]?=some s)(hq:m.ae.length=q+1):df m=s:=by show m.ae.getLast?.getD _=_;rw[YB1,hq,Wp,hs];rfl
theorem gk{m}(h:m.ae.length=0):df m=⟨(0,0),Yc m.live.length 0,false⟩:=by show m.ae.getLast?.getD _=_;simp_all
theorem yY{m}(h:kf m):kP (df m).g:=by
 rcases hm:m.ae.getLast? with _|s
 .have:df m=⟨(0,0),Yc m.live.length 0,false⟩:=by unfold df;simp_all
  rw[this];have z:(0:Nat)<18446744073709551616:=by omega
  exact⟨z,z⟩
 .have:df m=s:=by unfold df;simp_all
  rw[this];exact(h.ae s (List.mem_of_getLast? hm)).1
def Xc(m:MT)(g:Gd):MT:={m with tok:=sH,ae:=m.ae++[⟨g,m.live,false⟩]}
section
variable{cp:RC->au}{t:Nat->Option du}{fuel:Nat}{H:Heap}{pk:List UInt8->List (List UInt8)}{unpk:List (List UInt8)->Option (List UInt8)}
theorem uJ(T:aB t){m:MT}{vl vs vi:V}{vp dp:Nat}{lost:Bool}{Q:Nat->Prop}(hw:H.wf)(hV:H.get vp=.cells (vc m vl vs vi dp lost))(hVn:vp<H.n)(M:kK H Q m vl vs vi)(Y:kf m)(hQ:∀b,Q b->b<H.n):∃H' x,(∀(d:Nat)(k:K),aj (aS cp t fuel (d+1)) (.func 108 []) [.ptr vp 0] H k=k (.agg (bO (df m) x)) H')/\ah H H'/\cP H' Q x (df m).bT:=by
 have l1:=Y.live.1;have l2:=Y.num;have hV':=hV;simp only[vc,aW,bE,YL,YJ]at hV';have sn:=λ{id}{f:Nat->R}=>(let⟨_,h,_⟩:=M.ae;h.sn:bC id vs (λ_ _ len _ _=>f len) (f 0)=f m.ae.length);have sl:=λ{id}{f}=>M.live.sn (id:=id) (f:=f);have a1:=by omega
 have a2:=n_ m.ae.length;have a3:=n_ 0;have a4:=l_ m.live.length;obtain⟨G1,hG1,f1,p1,n1⟩:=Heap.aV hw (.cells [.int 7 0,.int 7 0,.aE,.bool false]);have g1:=(f1.same _ hVn).trans hV';have w1:=f1.wf;have b1:H.n<G1.n:=by omega
 by_cases h0:m.ae.length=0
 .rw[gk h0];obtain⟨G2,f2,o2,g2,n2,z2⟩:=uK (n:=m.live.length) (x:=V.int 3 0) rfl w1 rfl (by omega) (YC _);obtain⟨G3,hG3,f3,p3,n3,w3,k3⟩:=Heap.bq (f1.trans f2) (YC _) (by omega) (.cells [.int 7 0,.int 7 0,.slice G1.n 0 m.live.length (m.live.length+1) 0,.bool false]);have p2:=(f2.same _ (by omega)).trans p1;have w2:=f2.wf;have b2:H.n<G2.n:=by omega
  have z2:=λ{id}{ph}{e}{k}(h1:aA wE e=.int 3 m.live.length)=>z2 (id:=id) (ph:=ph) (k:=k) h1;have nz:=by omega
  refine⟨G3,.slice G1.n 0 m.live.length (m.live.length+1) 0,λd k=>?_,f3,?_⟩;.rw[aI T.k54 rfl rfl];simp only[go_sem,ZE,c54,hw,hG1,g1,↓sn,a1,a3,a4,h0,↓z2,p2,w2,b2,hG3,↓eM,p3,bO]
  .have:=o2.gv (v:=.slice H.n 0 0 0 0) (by omega) (λj hj ho=>k3 j (ho _ _ _ _ _ rfl)) λb o n c s e b' o' n' c' s' e'=>by cases e';cases e;omega
   have h:=this.toRow λb h=>by have:=hQ b h;omega
   unfold cP;rw[WW,Wh];exact h
 .obtain⟨q,hq⟩:∃q,m.ae.length=q+1:=⟨m.ae.length-1,by omega⟩;have hlt:q<m.ae.length:=by omega
  obtain⟨b,o,c,z,x,hvs,hbn,hbQ,hI,hrd⟩:=M.ae.open hlt;have hsq:=YA hlt;rw[eU hsq hq];generalize m.ae[q]=s at hI hrd;have hrd:=λ{id}{k}=>hrd (f1.same _ hbn) (id:=id) (k:=k);obtain⟨G2,hG2,f2,p2,n2,w2,k2⟩:=Heap.bq f1 (YC _) b1 (.cells (bO s x));have jx:=λ{id}{k}=>aP hI.one (id:=id) (k:=k);refine⟨G2,x,λd k=>?_,f2,hI.fresh f2⟩;have a5:=n_ q;have a6:=l_ q;have a7:(q+1+18446744073709551615)%18446744073709551616=q:=by omega
  have a8:=l_ (q+1);have a9:0<q+1:=by omega
  have a10:q<q+1:=by omega
  have a11:=n_ (q+1);simp only[bO]at hrd hG2 p2⊢;rw[hq]at sn hvs;subst hvs;rw[aI T.k54 rfl rfl];simp only[go_sem,c54,hw,hG1,g1,a3,a6,a7,a8,a9,a10,a11,↓hrd,↓jx,p1,w1,b1,hG2,↓eM,p2]
theorem PL(T:aB t)(hc:aM t)(F:bH pk unpk)(hp:t 110=some (.nat (dO pk))){dp vp a n:Nat}{g:Gd}{A:AD}{O:Nat->Prop}{m:MT}{vl vs vi:V}(S:VP H dp vp a n A O m vl vs vi)(hg:kP g)(Y':kf (Xc m g))(hfu:1000000<fuel):∃H' O',(∀(d:Nat)(k:K),aj (aS cp t fuel (d+9)) (.func 60 []) [.ptr vp 0,.agg (aZ g)] H k=k (.int 3 (if ek g (df m).g=false then 2 else if 20<=m.ae.length then 3 else(lO pk A a (Xc m g) []).2)) H')/\oJ H H' dp vp O O' m vl vs vi (if ek g (df m).g=false\/20<=m.ae.length then A else(lO pk A a (Xc m g) []).1) (if ek g (df m).g=false\/20<=m.ae.length then m else CC pk A a m (Xc m g) []) (if ek g (df m).g=false\/20<=m.ae.length then false else Ti pk A a (Xc m g) []):=by
 have hn0:=S.ok.num;obtain⟨G0,hG0,f0,p0,n0⟩:=Heap.aV S.cK.wf (.cells (aZ g));have S0:=S.fresh f0;obtain⟨G1,z1,s1,D1,n1,g1,k1⟩:=iu (cp:=cp) (fuel:=fuel) T hc S0.cK S0.get S0.vn S0.vo;rw[S.off]at z1 g1;have z1:=λ{d}{k}=>z1 (d+5) k;have S1:VP G1 dp vp a n A O m vl vs vi:=⟨D1,S.off,S.can,S.lo,S.hi,g1,by rw[n1];exact S0.vn,S.vo,S0.nx.bU s1,S.ok⟩;have hne:H.n≠vp:=by have:=S.vn;omega
 have p1:=(k1 _ hne).trans p0;have s01:=f0.step.trans s1;have w0:=S.cK.wf;have wm:G1.mark.wf:=by exact D1.wf
 obtain⟨Gm',x,zl',fl',-⟩:=uJ T wm g1 S1.vn (S1.nx.fresh (ah.Hc D1.wf)) S.ok S1.lt;obtain⟨Gm,G2,zl,hu2,hl2,f2⟩:=ri (cp:=cp) (fuel:=fuel) ⟨Gm',zl',fl'⟩;obtain⟨G3,za,f3⟩:=xx (cp:=cp) (fuel:=fuel) T f2.wf hg (yY S.ok);have zl:=λ{d}{k}=>zl d k;have za:=λ{d}{k}=>za d k;have f13:=f2.trans f3;have S3:=S1.fresh f13;have p3:=(f13.same _ (by omega)).trans p1;have g3':=S3.get;simp only[vc,aW,bE,YL,YJ]at g3';have sn:=λ{id}{f:Nat->R}=>(let⟨_,h,_⟩:=S1.nx.ae;h.sn:bC id vs (λ_ _ len _ _=>f len) (f 0)=f m.ae.length);have a1:=l_ m.ae.length;have a2:=n_ m.ae.length;have a3:=n_ 20;have p1':=p1;simp only[aZ]at p1' za;have s13:=s01.trans f13.step;simp only[bO]at zl;simp only[aZ]at hG0;rcases hab:ek g (df m).g with _|_;.rw[hab]at za;refine⟨G3,O,λd k=>?_,S3.done.before s13⟩;rw[aI T.k30 rfl rfl];simp only[go_sem,c30,aZ,w0,hG0,↓z1,p1',↓zl,hu2,hl2,↓za,YV,or_self,YE4]
 .rw[hab]at za;by_cases h20:20<=m.ae.length;.simp only[Qi,if_false,h20,or_true,if_true];refine⟨G3,O,λd k=>?_,S3.done.before s13⟩;rw[aI T.k30 rfl rfl];simp only[go_sem,c30,aZ,w0,hG0,↓z1,p1',↓zl,hu2,hl2,↓za,g3',↓sn,a1,a2,a3,h20,YV,or_self,WZ]
  .simp only[Qi,if_false,h20,or_self];obtain⟨G4,hG4,f4,p4,n4⟩:=Heap.aV f3.wf (.cells [.func 114 [],.func 152 [.ptr H.n 0]]);have m3:=f3.n;have m2:=f2.n;have p34:=(f4.same _ (by omega)).trans p3;obtain⟨H',O',z3,hd⟩:=jF (bw:=[]) T hc F hp f4 S3 Y' (λw h=>by cases h) (by decide) p4 (by omega) (by show 2<1000;omega) (λf hf=>by rcases YN.1 hf with rfl|hf;rfl;rw[YK.1 hf];rfl) (λB G vl1 vs1 vi1 fG ts=>by obtain⟨G',zt,ts',kt⟩:=oG T ts;have hlo:=ts.lo;have hQ:∀b,b<G3.n->b<G4.n:=λb h=>YE h f4.n;have mt:=ts'.f.n;obtain⟨G'',vs2,zr,fr,hr,pr,mr,kr⟩:=PN (cp:=cp) T ts' S.ok.drop ((kt _ (by omega)).trans ((fG.same _ (by omega)).trans p34)) (by omega) (by omega) hQ;exact⟨G'',vl1,vs2,.aE,⟨G',λd k=>zt (d+4) k,kt _ (by omega),G'',λd k=>zr (d+3) k,kr _ (by omega),rfl⟩,f4.trans fr,hr,pr,mr,rfl,λx hx=>(by cases hx),YF ⟨YF rfl,rfl⟩⟩) hfu;have z3:∀{d}{k},aj (aS cp t fuel (d+8)) (.func 112 []) [.ptr vp 0,.aE,.slice G3.n 0 2 3 0] G4 k=k (.int 3 (lO pk A a (Xc m g) []).2) H':=λ{d k}=>z3 d k;refine⟨H',O',λd k=>?_,hd.before s13⟩;have w3:=f3.wf;rw[aI T.k30 rfl rfl];simp only[go_sem,c30,aZ,w0,hG0,↓z1,p1',↓zl,hu2,hl2,↓za,g3',↓sn,a1,a2,a3,h20,w3,hG4,↓z3,YV,or_self,WZ]
end
open Go.Proofs
theorem Gq{cs}{x}(h:x∈cX cs):x<cs.length:=List.mem_range.1 (List.mem_filter.1 h).1
def gO(m:MT)(n:Nat)(cs:List Wr):List Nat:=(cX (eZ m n)).take (fM cs cs.length)
theorem Mj{m}{n i}{cs}(hn:n<=1024):(gO m n cs).getD i 0<1024:=by
 rw[YG];rcases h:(gO m n cs)[i]?with _|x;.simp
 .have h1:=Gq (WK (Yb h));rw[eZ,dM]at h1;show x<1024;omega
theorem KD{cs}{m}{n}(hn:n<=1024)(hc:∀c∈cs,c.2.1<1000000/\tM c.2):∀i,i<=cs.length->∀w∈Eu cs (gO m n cs) i,w.1<18446744073709551616/\w.2.1<1000000/\tM w.2
 |0,_,w,h=>by cases h|i+1,hi,w,h=>by
  rcases Yl.1 h with h|h;.exact KD hn hc i (by omega) w h
  .split at h;.cases h
   .rw[YK.1 h];have hl:=Mj (m:=m) (i:=fM cs i) (cs:=cs) hn;have hm:cs.getD i (0,(32,0))∈cs:=by rw[YG,YA (show i<cs.length by omega)];simp
    exact⟨by omega,hc (cs.getD i (0,(32,0))) hm⟩
def Rj(m:MT)(n block:Nat)(d:Tx):MT:={m with live:=m.live.set block ((zk [(block,d)] (gO m n [(block,d)]) 1).getD 0 0)}
def Rk(m:MT)(n block:Nat)(d:Tx):List Wr:=Eu [(block,d)] (gO m n [(block,d)]) 1
def iN(m:MT)(n block:Nat)(d:Tx):Prop:=(cX (eZ m n)).length<fM [(block,d)] 1
instance(m:MT)(n block:Nat)(d:Tx):Decidable (iN m n block d):=inferInstanceAs(Decidable (_<_))
section
variable{t:Nat->Option du}{fuel:Nat}{H:Heap}{pk:List UInt8->List (List UInt8)}{unpk:List (List UInt8)->Option (List UInt8)}
set_option maxRecDepth 4000in theorem IF(T:aB t)(hc:aM t)(F:bH pk unpk)(hp:t 110=some (.nat (dO pk))){dp vp a n block:Nat}{data:List UInt8}{A:AD}{O:Nat->Prop}{m:MT}{vl vs vi:V}(S:VP H dp vp a n A O m vl vs vi)(hbk:block<18446744073709551616)(hdl:data.length<1000000)(hok:∀l∈dr m,∀a∈l,a≠0->193<=a/\a<A.len)(hfl:(dr m).flatten.length<1000000)(Y':tL m block data=true->kf (Rj m A.len block (tx data)))(hfu:1000000<fuel):∃H' O',(∀(d:Nat)(k:K),aj (aS (aO Tryz.prog) t fuel (d+9)) (.func 48 []) [.ptr vp 0,.int 3 block,tv data] H k=k (.int 3 (if tL m block data=false then 2 else if iN m A.len block (tx data)then 7 else(lO pk A a (Rj m A.len block (tx data)) (Rk m A.len block (tx data))).2)) H')/\oJ H H' dp vp O O' m vl vs vi (if tL m block data=false\/iN m A.len block (tx data)then A else(lO pk A a (Rj m A.len block (tx data)) (Rk m A.len block (tx data))).1) (if tL m block data=false\/iN m A.len block (tx data)then m else CC pk A a m (Rj m A.len block (tx data)) (Rk m A.len block (tx data))) (if tL m block data=false\/iN m A.len block (tx data)then false else Ti pk A a (Rj m A.len block (tx data)) (Rk m A.len block (tx data))):=by
 have hn0:=S.ok.num;have hl0:=S.ok.live.1;obtain⟨G0,hG0,f0,p0,n0⟩:=Heap.aV S.cK.wf (.cells [.int 3 block]);have S0:=S.fresh f0;obtain⟨G1,z1,s1,D1,n1,g1,k1⟩:=iu (cp:=aO Tryz.prog) (fuel:=fuel) T hc S0.cK S0.get S0.vn S0.vo;rw[S.off]at z1 g1;have z1:=λ{d}{k}=>z1 (d+5) k;have S1:VP G1 dp vp a n A O m vl vs vi:=⟨D1,S.off,S.can,S.lo,S.hi,g1,by rw[n1];exact S0.vn,S.vo,S0.nx.bU s1,S.ok⟩;have hne:H.n≠vp:=by have:=S.vn;omega
 have p1:=(k1 _ hne).trans p0;have s01:=f0.step.trans s1;have w0:=S.cK.wf;have w1:=D1.wf;have zm:=λ{d}{k}=>Q8 (cp:=aO Tryz.prog) (fuel:=fuel) T g1 S1.nx (by omega) hbk hdl d k;have hmb:(decide (block<9223372036854775808)&&tL m block data)=tL m block data:=by
  unfold tL;by_cases h:block<m.live.length;.rw[decide_eq_true (show block<9223372036854775808by omega),Bool.true_and]
  .rw[decide_eq_false h,Qt,Qv]
 rw[hmb]at zm;simp only[tv]at zm;rcases hmay:tL m block data with _|_;.rw[hmay]at zm;simp only[if_true,true_or];refine⟨G1,O,λd k=>?_,S1.done.before s01⟩;simp only[tv];rw[aI T.k24 rfl rfl];simp only[go_sem,c24,w0,hG0,↓z1,p1,↓zm,YV,or_self,YE4]
 .rw[hmay]at zm;simp only[Qi,if_false,false_or];have hblk:=by unfold tL at hmay;rw[Bool.and_eq_true,decide_eq_true_eq]at hmay;exact hmay.1
  obtain⟨G2,hG2,f2,p2,n2⟩:=Heap.aV w1 (.cells [.int 3 block,.str data.length (enc data)]);have S2:=S1.fresh f2;have hX:Row G2 (bg O vp) (.slice G1.n 0 1 2 0) 2 1 (bX [(block,tx data)]):=⟨rfl,(λx hx=>by rcases YN.1 hx with rfl|hx;rfl;rw[YK.1 hx];rfl),YD ⟨_,0,2,0,_,rfl,YF p2,by omega,λh=>by have:=S1.lt _ h;omega,by show 0+1*2<=2;omega,rfl⟩⟩;obtain⟨G3,va,vw,z3,f3,hva,hvw,h3⟩:=zo T hc S2.cK S2.get S2.vn S2.nx S.ok hX (by show 1<1000;omega) S.hi hok S2.lt hfl hfu;have z3:=λ{d}{k}=>z3 (d+3) k;obtain⟨G4,hG4,f4,p4,n4⟩:=Heap.aV f3.wf (.cells [.aE]);obtain⟨G5,hG5,f5,p5,n5,w5,k5⟩:=Heap.bq f4 (YC _) (by omega) (.cells [va]);have S5:=(S2.fresh f3).fresh f5;have s15:=s01.trans ((f2.trans f3).trans f5).step;have ja:=λ{id}{k}=>aP hva (id:=id) (k:=k);have jw:=λ{id}{k}=>aP hvw (id:=id) (k:=k);have w3:=f3.wf;have w4:=f4.wf;have b4:G3.n<G4.n:=by omega
  have m3:=f3.n;have p15:=((f2.trans f3).trans f5).same _ (by omega)|>.trans p1;by_cases hfull:iN m A.len block (tx data);.simp only[if_pos hfull];rw[show(if(cX (eZ m A.len)).length<fM [(block,tx data)] [(block,tx data)].length then 7 else 0)=7from if_pos hfull]at z3;refine⟨G5,O,λd k=>?_,S5.done.before s15⟩;simp only[tv];rw[aI T.k24 rfl rfl];simp only[go_sem,c24,w0,hG0,↓z1,p1,↓zm,YV,or_self,WZ,w1,hG2,↓z3,w3,hG4,p4,↓ja,w4,b4,hG5]
  .simp only[if_neg hfull];rw[show(if(cX (eZ m A.len)).length<fM [(block,tx data)] [(block,tx data)].length then 7 else 0)=0from if_neg hfull]at z3;obtain⟨oa,ow⟩:=h3 hfull;obtain⟨G6,hG6,f6,p6,n6⟩:=Heap.aV w5 (.cells [.func 138 [.ptr H.n 0,.ptr G3.n 0]]);have hQ5:=λb h=>S2.lt b h;have hwl:fM [(block,tx data)] 1<=1:=mA _ _;have hplw:(Rk m A.len block (tx data)).length=fM [(block,tx data)] 1:=xg _ _ _;have ra:Row G5 (bg O vp) va 1 1 ((zk [(block,tx data)] (gO m A.len [(block,tx data)]) 1).map (V.int 3)):=(oa.toRow hQ5).fresh f5;have rw_:Row G5 (bg O vp) vw 2 (Rk m A.len block (tx data)).length (bX (Rk m A.len block (tx data))):=by rw[hplw];exact(ow.toRow hQ5).fresh f5
   have hpl1:(zk [(block,tx data)] (gO m A.len [(block,tx data)]) 1).length=1:=oe _ _ _;obtain⟨p,hpp⟩:∃p,zk [(block,tx data)] (gO m A.len [(block,tx data)]) 1=[p]:=List.length_eq_one_iff.1 hpl1;have hpn:nn p:=by
    have:(zk [(block,tx data)] (gO m A.len [(block,tx data)]) 1).getD 0 0<1024:=by
     show(if _ then 0 else _)<1024;split;.omega
     .exact Mj S.hi
    rw[hpp]at this;have:p<1024:=this;unfold nn;omega
   have hwrm:Rj m A.len block (tx data)={m with live:=m.live.set block p}:=by unfold Rj;rw[hpp];rfl
   have Yw:=Y' hmay;have p36:=(f6.same _ (by omega)).trans p5;have p16:=(f6.same _ (by omega)).trans p15;have hbw:=KD (cs:=[(block,tx data)]) (m:=m) S.hi (λc hc=>by rw[YK.1 hc];exact⟨hdl,jj _⟩) 1 (YC 1);obtain⟨H',O',z7,hd⟩:=jF (bw:=Rk m A.len block (tx data)) T hc F hp f6 S5 Yw hbw (by omega) p6 (by omega) (by show 1<1000;omega) (λf hf=>by rw[YK.1 hf];rfl) (λB G vl1 vs1 vi1 fG ts=>by have hlo:=ts.lo;have mG:=fG.n;have hQ:∀b,b<G5.n->b<G6.n:=λb h=>YE h f6.n;obtain⟨G',vl2,zw,fw,hw',pw,mw,kw⟩:=Ll (cp:=aO Tryz.prog) T ts S.ok ((fG.same _ (by omega)).trans p16) ((fG.same _ (by omega)).trans p36) (by have:=((ra.fresh f6).fresh fG);rw[hpp]at this;exact this) rfl hpn hblk hQ;rw[hwrm];have hf:=f6.trans fw;refine⟨G',vl2,vs1,vi1,⟨G',λd k=>zw (d+2) k,kw _ (by omega) (by omega),rfl⟩,hf,hw',pw,mw,rw_.fresh hf⟩) hfu;have z7:∀{d}{k},aj (aS (aO Tryz.prog) t fuel (d+8)) (.func 112 []) [.ptr vp 0,vw,.slice G5.n 0 1 2 0] G6 k=k (.int 3 (lO pk A a (Rj m A.len block (tx data)) (Rk m A.len block (tx data))).2) H':=λ{d k}=>z7 d k;refine⟨H',O',λd k=>?_,hd.before s15⟩;simp only[tv];rw[aI T.k24 rfl rfl];simp only[go_sem,c24,w0,hG0,↓z1,p1,↓zm,YV,or_self,WZ,w1,hG2,↓z3,w3,hG4,p4,↓ja,w4,b4,hG5,w5,hG6,↓z7]
end
end Go.Ev
end
section
namespace Go.Ev
section
variable{cp:RC->au}{t:Nat->Option du}{fuel:Nat}{H:Heap}
theorem EM(T:aB t){dp vp a n}{A}{O}{m}{vl vs vi}(S:VP H dp vp a n A O m vl vs vi)(d)(k):aj (aS cp t fuel (d+1)) (.func 56 []) [.ptr vp 0] H k=k (.int 3 m.live.length) H:=by
 have g:=S.get;simp only[vc,aW,bE,YL,YJ]at g;have sl:=λ{id}{f}=>S.nx.live.sn (id:=id) (f:=f);have a1:m.live.length<9223372036854775808:=by have:=S.ok.live.1;omega
 rw[aI T.k28 rfl rfl];simp only[go_sem,c28,g,↓sl,a1]
theorem OV(T:aB t)(hc:aM t){dp vp a n}{A}{O}{m}{vl vs vi}(S:VP H dp vp a n A O m vl vs vi)(hlp:∀p∈m.live,p<A.len)(hfu:1000<fuel):∃H' v',(∀(d)(k),aj (aS cp t fuel (d+5)) (.func 46 []) [.ptr vp 0] H k=k (.cG [v',.int 3 0]) H')/\Step H (bg O vp) H' (bg O vp)/\VP H' dp vp a n A O m vl vs vi/\Own H H' v' 1 m.live.length (m.live.map λp=>sv (cV A p)):=by have hl0:=S.ok.live.1;obtain⟨G1,z1,s1,D1,n1,g1,k1⟩:=iu (cp:=cp) (fuel:=fuel) T hc S.cK S.get S.vn S.vo;rw[S.off]at z1 g1;have z1:=λ{d}{k}=>z1 (d+1) k;have S1:VP G1 dp vp a n A O m vl vs vi:=⟨D1,S.off,S.can,S.lo,S.hi,g1,by rw[n1];exact S.vn,S.vo,S.nx.bU s1,S.ok⟩;obtain⟨G2,v',z2,f2,o2⟩:=mc (cp:=cp) T hc D1 S.off g1 S1.vn S1.nx.live (by omega) hlp S.hi hfu;have z2:=λ{d}{k}=>z2 d k;have g1':=g1;simp only[vc,aW,bE,YL,YJ]at g1';refine⟨G2,v',λd k=>?_,s1.trans f2.step,S1.fresh f2,o2.sub (by omega)⟩;rw[aI T.k23 rfl rfl];simp only[go_sem,c23,↓z1,g1',↓z2,YV,or_self]
end
section
variable{cp:RC->au}{t:Nat->Option du}{fuel:Nat}{H:Heap}{O:Nat->Prop}
theorem X8(T:aB t){s}{x}{g}{cg}(hw:H.wf)(hx:x.one=true)(gg:H.get cg=.cells (aZ g))(hn:cg<H.n):∃H',(∀(d)(k),aj (aS cp t fuel (d+1)) (.func 230 [.ptr cg 0]) [.agg (bO s x)] H k=k (.bool (decide (s.g=g))) H')/\ah H H':=by
 obtain⟨G1,hG1,f1,p1,n1⟩:=Heap.aV hw (.cells (bO s x));have g1:=(f1.same _ hn).trans gg;have jx:=λ{id}{k}=>aP hx (id:=id) (k:=k);refine⟨G1,λd k=>?_,f1⟩;obtain⟨⟨s1,s2⟩,im,hd⟩:=s;obtain⟨g1',g2'⟩:=g;simp only[bO,aZ]at hG1 p1 g1;rw[ax T.afs rfl rfl];simp only[YL,YJ];by_cases h1:s1=g1'
 .by_cases h2:s2=g2';.subst h1;subst h2;simp only[go_sem,XA,bO,↓jx,hw,hG1,p1,g1,bG,cq,dw,decide_true]
  .subst h1;have hne:¬((s1,s2):Gd)=(s1,g2'):=λh=>h2 (congrArg YS4 h);simp only[go_sem,XA,bO,↓jx,hw,hG1,p1,g1,bG,cq,h2,hne,decide_false]
 .have hne:¬((s1,s2):Gd)=(g1',g2'):=λh=>h1 (congrArg YK4 h);simp only[go_sem,XA,bO,↓jx,hw,hG1,p1,g1,bG,cq,h1,hne,decide_false]
def rZ(ss:List Sn)(g:Gd):Option Nat:=ss.findIdx? λs=>decide (s.g=g)
theorem J5(T:aB t){vs:V}{ss:List Sn}{g:Gd}{cg:Nat}(hw:H.wf)(hS:fN H O vs ss)(hn:ss.length<1000)(gg:H.get cg=.cells (aZ g))(hcn:cg<H.n)(hfu:1000<fuel):∃H',(∀(d:Nat)(k:K),aj (aS cp t fuel (d+2)) (.func 228 []) [vs,.func 230 [.ptr cg 0]] H k=k (.int 3 ((rZ ss g).getD 18446744073709551615)) H')/\ah H H':=by
 have nl:=n_ ss.length;have sn:=λ{id}{f:Nat->R}=>(let⟨_,h,_⟩:=hS;h.sn:bC id vs (λ_ _ len _ _=>f len) (f 0)=f ss.length);have a0:=l_ ss.length;have run:=kC (c:=xE) (fuel:=fuel) (ph:=λd=>aS cp t fuel (d+1)) (I:=λi _ G=>ah H G/\∀(j)(s),j<i->ss[j]?=some s->s.g≠g) (S:=λi _ e=>af s000 e=vs/\af s001 e=.func 230 [.ptr cg 0]/\af s007 e=.int 3 ss.length/\af s010 e=.int 3 i) (J:=λq G=>ah H G/\rZ ss g=some q) (Q:=λq e=>af s004 e=.int 3 q) (j:=λ_=>0) (λi _ G hil⟨f,hno⟩=>by
   obtain⟨b,o,c,z,x,rfl,hbn,-,hI,hrd⟩:=hS.open hil;have hsi:=YA hil;have hrd:=λ{id}{k}=>hrd (f.same _ hbn) (id:=id) (k:=k);have hidx:ss[i].g=g->rZ ss g=some i:=λh=>by unfold rZ;rw[QM];refine⟨hil,decide_eq_true h,λj hj=>?_⟩;have:=hno j ss[j] hj (YA (by omega));exactλh=>this (of_decide_eq_true h)
   generalize hsd:ss[i]=s at hsi hI hrd hidx;obtain⟨G1,z1,f1⟩:=X8 (cp:=cp) (fuel:=fuel) T f.wf hI.one ((f.same _ hcn).trans gg) (YE hcn f.n);have z1:∀{d}{k:K},_=k (.bool (decide (s.g=g))) G1:=λ{d}{k}=>z1 d k;have a1:=n_ i;have a2:=l_ i;have a3:=m_ (i+1);by_cases h:s.g=g;.refine YD ⟨i,G1,⟨f.trans f1,hidx h⟩,λd kx r e y⟨q0,q1,q7,q10⟩hk=>?_⟩;simp only[decide_eq_true h]at z1;rw[ak];simp only[go_sem,xE,q0,q1,q7,q10,hil,nl,a1,a2,↓hrd,↓z1];refine hk _ ?_;simp only[go_sem,↓reduceIte]
   .refine YF ⟨(),G1,⟨f.trans f1,λj s' hj hs'=>?_⟩,λd kx r e y⟨q0,q1,q7,q10⟩hk=>?_⟩
    .by_cases hji:j<i;.exact hno j s' hji hs'
     .obtain rfl:j=i:=by omega
      rw[hsi]at hs';cases hs';exact h
    rw[ak];simp only[go_sem,xE,q0,q1,q7,q10,hil,nl,a1,a2,a3,↓hrd,↓z1,h,decide_false];exact hk _ (by simp only[go_sem,q0,q1,q7,and_self])) ss.length 0 () H (by omega) ⟨ah.refl hw,λj s hj=>by omega⟩;rcases run with⟨_,G',⟨f',hno⟩,z⟩|⟨q,G',⟨f',hq⟩,z⟩
 .have BJ:rZ ss g=none:=by unfold rZ;rw[List.findIdx?_eq_none_iff];intro s hs;obtain⟨j,hj,rfl⟩:=List.getElem_of_mem hs;have:=hno j _ hj (YA hj);simpa using this
  rw[BJ];refine⟨G',λd k=>?_,f'⟩;rw[aI T.acF rfl rfl];simp only[go_sem,ab2,↓sn,a0];refine z d _ fuel _ _ (by omega) ⟨?_,?_,?_,?_⟩ λr e'⟨q0,q1,q7,q10⟩=>?_;.rfl
  .rfl
  .rfl
  .rfl
  have e6:¬ss.length<ss.length:=by omega
  rw[ak];simp only[go_sem,xE,q7,q10,nl,e6,Wv]
 .rw[hq];refine⟨G',λd k=>?_,f'⟩;rw[aI T.acF rfl rfl];simp only[go_sem,ab2,↓sn,a0];refine z d _ fuel _ _ (by omega) ⟨?_,?_,?_,?_⟩ λe' q4=>?_;.rfl
  .rfl
  .rfl
  .rfl
  simp only[go_sem,q4,YU]
end
theorem Row.cell{H:Heap}{O:Nat->Prop}{v:V}{sz n:Nat}{row:List V}(h:Row H O v sz n row)(hn:0<n):∃b o c s,v=.slice b o n c s/\b<H.n/\¬O b/\∀{G:Heap},G.get b=H.get b->∀{j:Nat}{x:V},row[j]?=some x->∀{id:Nat}{k:V->R},DL id (G.get b) (o+j) k=k x:=by
 obtain⟨h1,h2,h|⟨b,o,c,z,l,g1,g2,g3,g4,g5,g6⟩⟩:=h;.omega
 refine⟨b,o,c,z,g1,g3,g4,λ{G}hG{j x}hx{id k}=>?_⟩;have hlt:j<n*sz:=by rw[<-h1];exact(YQ.1 hx).1
 have hx':=hx;rw[<-g6,Yy,if_pos hlt,WB]at hx;rw[hG];exact sg g2 hx (h2 x (Yb hx'))
theorem fN.hid{H:Heap}{O:Nat->Prop}{v:V}{ss:List Sn}(h:fN H O v ss){i:Nat}(hi:i<ss.length):∃b o c s,v=.slice b o ss.length c s/\b<H.n/\¬O b/\∀{G:Heap},G.get b=H.get b->∀{id:Nat}{k:V->R},DL id (G.get b) (o+i*4+3) k=k (.bool ss[i].hid):=by
 obtain⟨xs,hR,hl,hx⟩:=h;obtain⟨x,hxi,-⟩:=hx i _ (YA hi);obtain⟨b,o,c,z,g1,g2,g3,g4⟩:=hR.cell (by omega);refine⟨b,o,c,z,g1,g2,g3,λ{G}hG{id k}=>?_⟩;have e:=qK (YA hi) hxi;have e2:(((dK ss xs).drop (i*4)).take 4)[3]?=some (.bool ss[i].hid):=by rw[e];rfl
 rw[Yy,if_pos (by omega),WB]at e2;rw[YC2];exact g4 hG e2
theorem Dh{ss}{g}{i}(h:rZ ss g=some i):∃hi:i<ss.length,ss[i].g=g:=by unfold rZ at h;rw[QM]at h;obtain⟨h1,h2,-⟩:=h;simp_all
def cW(m:MT)(g:Gd):Nat×Nat:=match rZ m.ae g with|none=>(0,5)|some i=>if(m.ae.getD i ⟨(0,0),[],false⟩).hid=true then(0,14)else(i,0)
section
variable{cp:RC->au}{t:Nat->Option du}{fuel:Nat}{H:Heap}
theorem BB(T:aB t)(hc:aM t){dp vp a n}{g}{A}{O}{m}{vl vs vi}(S:VP H dp vp a n A O m vl vs vi)(hfu:1000<fuel):∃H',(∀(d)(k),aj (aS cp t fuel (d+4)) (.func 154 []) [.ptr vp 0,.agg (aZ g)] H k=k (.cG [.int 3 (cW m g).1,.int 3 (cW m g).2]) H')/\Step H (bg O vp) H' (bg O vp)/\VP H' dp vp a n A O m vl vs vi:=by
 have hn0:=S.ok.num;obtain⟨G0,hG0,f0,p0,n0⟩:=Heap.aV S.cK.wf (.cells (aZ g));have S0:=S.fresh f0;obtain⟨G1,z1,s1,D1,n1,g1,k1⟩:=iu (cp:=cp) (fuel:=fuel) T hc S0.cK S0.get S0.vn S0.vo;rw[S.off]at z1 g1;have z1:=λ{d}{k}=>z1 d k;have S1:VP G1 dp vp a n A O m vl vs vi:=⟨D1,S.off,S.can,S.lo,S.hi,g1,by rw[n1];exact S0.vn,S.vo,S0.nx.bU s1,S.ok⟩;have hne:H.n≠vp:=by have:=S.vn;omega
 have p1:=(k1 _ hne).trans p0;have s01:=f0.step.trans s1;have w0:=S.cK.wf;have g1':=g1;simp only[vc,aW,bE,YL,YJ]at g1';obtain⟨G2,z2,f2⟩:=J5 (cp:=cp) T D1.wf S1.nx.ae hn0 p1 (by omega) hfu;have z2:=λ{d}{k}=>z2 (d+1) k;have S2:=S1.fresh f2;have g2':=S2.get;simp only[vc,aW,bE,YL,YJ]at g2';simp only[aZ]at hG0;refine⟨G2,λd k=>?_,s01.trans f2.step,S2⟩;have a3:=n_ 0;unfold cW;rcases hi:rZ m.ae g with _|i
 .rw[hi]at z2;simp only[Wv]at z2;have a4:ej (.lt 9223372036854775808 18446744073709551616) 18446744073709551615 0=true:=by decide
  rw[aI T.k77 rfl rfl];simp only[go_sem,c77,aZ,w0,hG0,↓z1,g1',↓z2,a4,YV,or_self]
 .rw[hi]at z2;simp only[YU]at z2;obtain⟨hlt,-⟩:=Dh hi;obtain⟨b,o,c,z,rfl,hbn,-,hrd⟩:=S1.nx.ae.hid hlt;have hrd:=λ{id}{k}=>hrd (f2.same _ hbn) (id:=id) (k:=k);have a1:=n_ i;have a2:=l_ i;simp only[YG,YA hlt,YU];have a4:¬i<0:=by omega
  rw[aI T.k77 rfl rfl];rcases hh:m.ae[i].hid with _|_;.rw[hh]at hrd;simp only[go_sem,c77,aZ,w0,hG0,↓z1,g1',↓z2,a1,a2,a3,a4,hlt,g2',↓hrd,YV,or_self]
  .rw[hh]at hrd;simp only[go_sem,c77,aZ,w0,hG0,↓z1,g1',↓z2,a1,a2,a3,a4,hlt,g2',↓hrd,YV,or_self]
end
def GC(m:MT)(i:Nat):MT:={m with ae:=m.ae.set i {m.ae.getD i ⟨(0,0),[],false⟩with hid:=true}}
theorem lk{m}{g}(h:(cW m g).2=0):∃i,∃hi:i<m.ae.length,cW m g=(i,0)/\m.ae[i].g=g/\m.ae[i].hid=false/\rZ m.ae g=some i:=by
 unfold cW at h⊢;rcases hx:rZ m.ae g with _|i;.simp_all
 .obtain⟨hi,hg⟩:=Dh hx;rcases hh:m.ae[i].hid with _|_;.simp_all
  simp_all
theorem F5{m}{g}(h:m.ae.length<1000):(cW m g).1<1000/\(cW m g).2<1000:=by
 unfold cW;rcases hx:rZ m.ae g with _|i;.simp
 .obtain⟨hi,-⟩:=Dh hx;simp only;split;.simp
  omega
section
variable{cp:RC->au}{t:Nat->Option du}{fuel:Nat}{H:Heap}{pk:List UInt8->List (List UInt8)}{unpk:List (List UInt8)->Option (List UInt8)}
theorem OH(T:aB t)(hc:aM t)(F:bH pk unpk)(hp:t 110=some (.nat (dO pk))){dp vp a n}{g}{A}{O}{m}{vl vs vi}(S:VP H dp vp a n A O m vl vs vi)(Y':(cW m g).2=0->kf (GC m (cW m g).1))(hfu:1000000<fuel):∃H' O',(∀(d)(k),aj (aS cp t fuel (d+9)) (.func 76 []) [.ptr vp 0,.agg (aZ g)] H k=k (.int 3 (if(cW m g).2≠0then(cW m g).2else(lO pk A a (GC m (cW m g).1) []).2)) H')/\oJ H H' dp vp O O' m vl vs vi (if(cW m g).2≠0then A else(lO pk A a (GC m (cW m g).1) []).1) (if(cW m g).2≠0then m else CC pk A a m (GC m (cW m g).1) []) (if(cW m g).2≠0then false else Ti pk A a (GC m (cW m g).1) []):=by
 obtain⟨G0,hG0,f0,p0,n0⟩:=Heap.aV S.cK.wf (.cells (aZ g));have S0:=S.fresh f0;obtain⟨G2,z2,s2,S2⟩:=BB (cp:=cp) (fuel:=fuel) T hc S0 (by omega);have z2:=λ{d}{k}=>z2 (d+4) k;have s02:=f0.step.trans s2;have w0:=S.cK.wf;have w2:=S2.cK.wf;obtain⟨G3,hG3,f3,p3,n3⟩:=Heap.aV w2 (.cells [.int 3 0]);have w3:=f3.wf;have b3:G2.n<G3.n:=by omega
 obtain⟨G4,hG4,f4,p4,n4,w4,k4⟩:=Heap.bq f3 (YC _) b3 (.cells [.int 3 (cW m g).1]);have S4:=S2.fresh f4;have s04:=s02.trans f4.step;have p0':=p0;simp only[aZ]at hG0 p0' z2;by_cases h:(cW m g).2=0
 .have hif:¬(cW m g).2≠0:=λx=>x h;simp only[if_neg hif];obtain⟨i,hi,hr,hgi,hhi,-⟩:=lk h;have hY:=Y' h;rw[hr]at z2 p4 hG4 hY⊢;have hs:=YA hi;have hm:GC m i={m with ae:=m.ae.set i {m.ae[i]with hid:=true}}:=by unfold GC;rw[YG,hs,YU]
  obtain⟨G5,hG5,f5,p5,n5⟩:=Heap.aV w4 (.cells [.func 158 [.ptr G2.n 0]]);have p45:=(f5.same _ (by omega)).trans p4;obtain⟨H',O',z6,hd⟩:=jF (bw:=[]) T hc F hp f5 S4 hY (λw h=>by cases h) (by decide) p5 (by omega) (by show 1<1000;omega) (λf hf=>by rw[YK.1 hf];rfl) (λB G vl1 vs1 vi1 fG ts=>by have hQ:∀b,b<G4.n->b<G5.n:=λb h=>YE h f5.n;obtain⟨G'',zr,fr,hr,pr,mr,kr⟩:=OJ (cp:=cp) T ts S.ok ((fG.same _ (by omega)).trans p45) hs hQ;rw[<-hm]at pr mr;exact⟨G'',vl1,vs1,vi1,⟨G'',λd k=>zr (d+4) k,by rw[kr _ (by omega),fG.same _ (by omega)],rfl⟩,f5.trans fr,hr,pr,mr,rfl,λx hx=>(by cases hx),YF ⟨YF rfl,rfl⟩⟩) hfu;have z6:∀{d}{k},aj (aS cp t fuel (d+8)) (.func 112 []) [.ptr vp 0,.aE,.slice G4.n 0 1 2 0] G5 k=k (.int 3 (lO pk A a (GC m i) []).2) H':=λ{d k}=>z6 d k;refine⟨H',O',λd k=>?_,hd.before s04⟩;rw[aI T.k38 rfl rfl];simp only[go_sem,c38,aZ,w0,hG0,p0',↓z2,w2,hG3,p3,w3,b3,hG4,w4,hG5,↓z6]
 .simp only[if_pos (show(cW m g).2≠0from h)];refine⟨G4,O,λd k=>?_,S4.done.before s04⟩;rw[aI T.k38 rfl rfl];simp only[go_sem,c38,aZ,w0,hG0,p0',↓z2,w2,hG3,p3,w3,b3,hG4,h,not_false_eq_true]
end
structure sI(cs:List Wr)(b:Nat):Prop where lt:∀c∈cs,c.1<b/\c.2.1=32/\tM c.2up:∀i,i+1<cs.length->(cs.getD i (0,(0,0))).1<(cs.getD (i+1) (0,(0,0))).1
structure MU(m:MT)(tk:Tk)(cs:List Wr):Prop where
 b:tk.b=(df m).g
 t:ek tk.t (df m).g=true
 gt:kP tk.t
 all:tk.all<=m.live.length
 next:tk.next<=tk.all
 z:(tk.next=0)=(tk.all=0)ch:sI cs m.live.length
def oS(cs:List Wr):Nat->Nat|0=>18446744073709551615|i+1=>(cs.getD i (0,(0,0))).1
section
variable{cp:RC->au}{t:Nat->Option du}{fuel:Nat}{H:Heap}{O:Nat->Prop}
theorem adD(T:aB t){m}{vl vs vi}{vp dp block x}{lost}(hV:H.get vp=.cells (vc m vl vs vi dp lost))(M:kK H O m vl vs vi)(hl:m.live.length<1000000)(hb:block<m.live.length)(d)(k):aj (aS cp t fuel (d+1)) (.func 136 []) [.ptr vp 0,.int 3 block,.str 32 x] H k=k (.bool true) H:=by simp only[vc,aW,bE,YL,YJ]at hV;have sn:=λ{id}{f}=>M.live.sn (id:=id) (f:=f);have e1:=l_ m.live.length;have e2:=n_ m.live.length;have e4:=n_ block;rw[aI T.k68 rfl rfl];simp only[go_sem,ZE,c68,hV,↓sn,e1,e2,e4,hb,Ya]
theorem Is(T:aB t){m:MT}{vl vs vi vx:V}{vp dp B:Nat}{lost:Bool}{Q:Nat->Prop}{cs:List Wr}{G0:Heap}(hV:H.get vp=.cells (vc m vl vs vi dp lost))(hVn:vp<H.n)(M:kK H O m vl vs vi)(hl:m.live.length<1000000)(hX:Row H Q vx 2 cs.length (bX cs))(hn:cs.length<1000)(hch:sI cs m.live.length)(f0:ah H G0)(hfu:1000<fuel):∃G',ah H G'/\ah G0 G'/\∀(d:Nat)(kx:Nat->KE)(e:Env)(x:R),af s000 e=.ptr vp 0->af s004 e=.ptr B 0->af s010 e=.int 3 18446744073709551615->af s072 e=vx->af s073 e=.int 3 cs.length->af s074 e=.int 3 0->(∀e',af s000 e'=.ptr vp 0->af s004 e'=.ptr B 0->kx 1 e' G'=x)->kq Fa fuel (aS cp t fuel (d+1)) kx fuel e G0=x:=by
 have nl:=n_ cs.length;obtain⟨_,G',⟨f',g'⟩,z⟩:=bK (c:=Fa) (ph:=λd=>aS cp t fuel (d+1)) (I:=λi _ G=>ah H G/\ah G0 G) (S:=λi _ e=>af s000 e=.ptr vp 0/\af s004 e=.ptr B 0/\af s010 e=.int 3 (oS cs i)/\af s072 e=vx/\af s073 e=.int 3 cs.length/\af s074 e=.int 3 i) (λi _ G hil⟨f,g⟩=>by
   have hsi:cs[i]?=some cs[i]:=YA hil;obtain⟨c1,c2,c3⟩:=hch.lt _ (YT hil);have hup:(ej (.le 9223372036854775808 18446744073709551616) cs[i].1 (oS cs i)=true)=False:=by rw[Ft];cases i with|zero=>simp only[oS,eq_iff_iff,iff_false];omega|succ j=>have:=hch.up j hil;simp only[YG,hsi,YU]at this;simp only[oS,YG,eq_iff_iff,iff_false];omega
   have hpr:oS cs (i+1)=cs[i].1:=by simp only[oS,YG,hsi,YU]
   obtain⟨b,o,c,z,rfl,hbn,-,hrd⟩:=hX.open hil;have hrd1:=λ{id}{k}=>(hrd (f.same _ hbn)).1 (id:=id) (k:=k);rw[lZ hsi]at hrd1;generalize hcx:cs[i]=x at c1 c2 c3 hup hpr hrd1;obtain⟨p,u,w⟩:=x;subst c2;obtain⟨G1,hG1,f1,p1,n1⟩:=Heap.aV f.wf (.cells [.int 3 0,.str 0 0]);have b1:G.n<G1.n:=by omega
   obtain⟨G2,hG2,f2,p2,n2,w2,k2⟩:=Heap.bq f1 (YC _) b1 (.cells [.int 3 p,.str 32 w]);have fx:=f.trans f2;have hm:=λ{d}{k}=>adD (cp:=cp) (fuel:=fuel) (x:=w) T ((fx.same _ hVn).trans hV) (M.fresh fx) hl c1 d k;have a1:=n_ i;have a2:=l_ i;have a3:=m_ (i+1);have wf:=f.wf;have w1:=f1.wf;refine⟨(),G2,⟨fx,g.trans f2⟩,λd kx r e y⟨q0,q4,q10,q72,q73,q74⟩hk=>?_⟩;rw[ak];simp only[go_sem,Fa,q0,q10,q72,q73,q74,hil,nl,a1,a2,a3,↓hrd1,wf,hG1,p1,w1,b1,hG2,p2,↓hm,hup];exact hk _ (by simp only[go_sem,q0,q4,q72,q73,hpr,and_self])) cs.length 0 () G0 (by omega) ⟨f0,ah.refl f0.wf⟩;refine⟨G',f',g',λd kx e x q0 q4 q10 q72 q73 q74 hk=>z d kx fuel e x (by omega) ⟨q0,q4,q10,q72,q73,q74⟩ λr e'⟨q0,q4,q10,q72,q73,q74⟩=>?_⟩;have e6:¬cs.length<cs.length:=by omega
 rw[ak];simp only[go_sem,Fa,q73,q74,nl,e6];exact hk _ q0 q4
end
def uW(m:MT)(tk:Tk):Nat:=if tk.next=tk.all/\20<=m.ae.length then 3 else 0
section
variable{cp:RC->au}{t:Nat->Option du}{fuel:Nat}{H:Heap}
set_option maxRecDepth 4000in theorem Ir(T:aB t){dp vp a n:Nat}{A:AD}{O:Nat->Prop}{m:MT}{vl vs vi vx y:V}{tk:Tk}{cs:List Wr}(S:VP H dp vp a n A O m vl vs vi)(Z:MU m tk cs)(hb:kP tk.b)(hy:y.one=true)(hX:Row H (bg O vp) vx 2 cs.length (bX cs))(hn:cs.length<1000)(hfu:1000<fuel):∃H',(∀(d:Nat)(k:K),aj (aS cp t fuel (d+2)) (.func 104 []) [.ptr vp 0,.agg (bE tk y),vx] H k=k (.int 3 (uW m tk)) H')/\ah H H':=by
 have hn0:=S.ok.num;have hl0:=S.ok.live.1;have w0:=S.cK.wf;have jy:=λ{id}{k}=>aP hy (id:=id) (k:=k);obtain⟨G0,hG0,f0,p0,n0⟩:=Heap.aV w0 (.cells (bE tk y));have S0:=S.fresh f0;have w00:=f0.wf;obtain⟨G1,xl,z1,f1,-⟩:=uJ (cp:=cp) (fuel:=fuel) T w00 S0.get S0.vn S0.nx S.ok S0.lt;have z1:=λ{d}{k}=>z1 d k;have w1:=f1.wf;have f01:=f0.trans f1;obtain⟨G2,hG2,f2,p2,n2⟩:=Heap.aV w1 (.cells [.int 7 0,.int 7 0]);have b2:G1.n<G2.n:=by omega
 have w2:=f2.wf;obtain⟨G3,hG3,f3,p3,n3,w3,k3⟩:=Heap.bq f2 (YC _) b2 (.cells (aZ (df m).g));have f03:=f01.trans f3;have m1:=f1.n;have q3:=((f3.same _ (by omega)).trans (f1.same _ (by omega))).trans p0;have S3:=S.fresh f03;have hlg:=yY S.ok;obtain⟨G4,z4,f4⟩:=xx (cp:=cp) (fuel:=fuel) T w3 Z.gt hlg;have z4:=λ{d}{k}=>z4 d k;have w4:=f4.wf;have S4:=S3.fresh f4;have wm4:G4.mark.wf:=by rw[Heap.eK];exact w4
 obtain⟨G5x,G5,z5,hu5,hl5,f5⟩:=ri ⟨G4.mark,λd k=>EM (cp:=cp) (fuel:=fuel) T (S4.fresh (ah.Hc w4)) d k,ah.refl wm4⟩;have z5:=λ{d}{k}=>z5 d k;have f05:=f03.trans (f4.trans f5);have q4:=(f4.same _ (by have:=f3.n;omega)).trans q3;have q5:=(f5.same _ (by have:=f3.n;have:=f4.n;omega)).trans q4;have S5:=S.fresh f05;obtain⟨G6,f6,g6,z6⟩:=Is (cp:=cp) (B:=H.n) T S5.get S5.vn S5.nx (by omega) (hX.fresh f05) hn Z.ch (ah.refl f5.wf) hfu;have hz6:=f05.trans g6;have q6:=(g6.same _ (by have:=f5.n;have:=f4.n;have:=f3.n;omega)).trans q5;have S6:=S.fresh hz6;have g6':=S6.get;simp only[vc,aW,bE,YL,YJ]at g6';have sn:=λ{id}{f:Nat->R}=>(let⟨_,h,_⟩:=S.nx.ae;h.sn:bC id vs (λ_ _ len _ _=>f len) (f 0)=f m.ae.length);have sx:=λ{id}{f}=>hX.sn (id:=id) (f:=f);have hb2:tk.b.1=(df m).g.1/\tk.b.2=(df m).g.2:=by rw[Z.b];exact⟨rfl,rfl⟩
 obtain⟨hb3,hb4⟩:=hb2;have hab:=Z.t;have z1all:=Z.all;have z1next:=Z.next;have hzz:=Z.z;rw[hab]at z4;generalize hgl:(df m).g=gl at*;simp only[bO,hgl]at z1;simp only[aZ,bE,hb3,hb4]at hG0 p3 hG3 q3 z4 q4 q5 q6;have a1:=l_ m.ae.length;have a2:=n_ m.ae.length;have a3:=n_ 20;have a4:=n_ 0;have a5:=n_ tk.all;have a6:=n_ tk.next;have a7:=n_ m.live.length;have a8:¬m.live.length<tk.all:=by omega
 have a9:¬tk.all<tk.next:=by omega
 have a10:=l_ cs.length;have a11:=by omega
 have a12:=by omega
 refine⟨G6,λd k=>?_,hz6⟩;rw[aI T.k52 rfl rfl];unfold uW;simp only[go_sem,c52,aa4,bE,hb3,hb4,w0,hG0,↓jy,↓z1,w1,hG2,p2,w2,b2,hG3];by_cases hz:tk.next=0
 .have hza:tk.all=0:=by rw[<-hzz];exact hz
  simp only[go_sem,ZE,SM,p3,q3,↓bG,↓cq,↓dw,↓z4,q4,↓z5,hu5,hl5,q5,a4,a7,hz,hza];simp only[go_sem,SN,SO,↓sx,a10];refine z6 d _ _ _ ?_ ?_ ?_ ?_ ?_ ?_ λe' q0' q4'=>?_;.rfl
  .rfl
  .rfl
  .rfl
  .rfl
  .rfl
  by_cases h20:20<=m.ae.length;.simp only[go_sem,Bc,Bd,Be,q0',q4',q6,g6',↓sn,a1,a2,a3,hz,hza,h20,and_self]
  .simp only[go_sem,Bc,Bd,Be,q0',q4',q6,g6',↓sn,a1,a2,a3,hz,hza,h20,and_false]
 .have hza:¬tk.all=0:=by rw[<-hzz];exact hz
  simp only[go_sem,SM,p3,q3,↓bG,↓cq,↓dw,↓z4,q4,↓z5,hu5,hl5,q5,a4,a5,a6,a7,a8,a9,hz,hza];simp only[go_sem,SN,SO,↓sx,a10];refine z6 d _ _ _ ?_ ?_ ?_ ?_ ?_ ?_ λe' q0' q4'=>?_;.rfl
  .rfl
  .rfl
  .rfl
  .rfl
  .rfl
  by_cases hna:tk.next=tk.all
  .by_cases h20:20<=m.ae.length;.simp only[go_sem,Bc,Bd,Be,q0',q4',q6,g6',↓sn,a1,a2,a3,hna,h20,and_self]
   .simp only[go_sem,Bc,Bd,Be,q0',q4',q6,g6',↓sn,a1,a2,a3,hna,h20,and_false]
  .simp only[go_sem,Bc,Bd,Be,q4',q6,hna,false_and]
end
theorem eqG{id}{g h:Gd}{f}:hU id [1,1] [.int 7 g.1,.int 7 g.2] [.int 7 h.1,.int 7 h.2] f=f (decide (g=h)):=by
 obtain⟨g1,g2⟩:=g;obtain⟨h1,h2⟩:=h;by_cases e1:g1=h1
 .by_cases e2:g2=h2;.subst e1 e2;simp only[cq,dw,if_true,decide_true]
  .have hne:¬((g1,g2):Gd)=(h1,h2):=λh=>e2 (congrArg YS4 h);simp only[cq,dw,e1,e2,if_true,if_false];simp_all
 .have hne:¬((g1,g2):Gd)=(h1,h2):=λh=>e1 (congrArg YK4 h);simp only[cq,dw,e1,if_false,hne,decide_false]
theorem Ow{g h:Gd}(e:g=h){id}{f}:hU id [1,1] [.int 7 g.1,.int 7 g.2] [.int 7 h.1,.int 7 h.2] f=f true:=by rw[eqG,decide_eq_true e]
theorem XS{g h:Gd}(e:¬g=h){id}{f}:hU id [1,1] [.int 7 g.1,.int 7 g.2] [.int 7 h.1,.int 7 h.2] f=f false:=by rw[eqG,decide_eq_false e]
def stC(m:MT)(tk:Tk):Prop:=m.tok.b=tk.b/\m.tok.t=tk.t/\m.tok.all=tk.all
instance agL(m:MT)(tk:Tk):Decidable (stC m tk):=inferInstanceAs(Decidable (_/\_/\_))
def rF(m:MT)(tk:Tk):List Nat:=if stC m tk then m.tok.bT else(df m).bT
def fk(l:List Nat)(cs:List Wr)(at_:List Nat):Nat->List Nat|0=>l|i+1=>(fk l cs at_ i).set (cs.getD i (0,(0,0))).1 (at_.getD i 0)
theorem nG{l}{cs}{at_}:∀i,(fk l cs at_ i).length=l.length|0=>rfl|i+1=>by simp only[fk,Wj,nG i]
section
variable{cp:RC->au}{t:Nat->Option du}{fuel:Nat}{H:Heap}
set_option maxRecDepth 4000in theorem PO(T:aB t){H0:Heap}{vp dp B L:Nat}{m:MT}{vl vs vi w y:V}{lost:Bool}{tk:Tk}(f0:ah H0 H)(hV:H.get vp=.cells (vc m vl vs vi dp lost))(hi:vi.one=true)(gB:H.get B=.cells (bE tk y))(gL:H.get L=.cells [w])(h0L:H0.n<=L)(hL:L<H.n)(hBn:B<H.n)(hVn:vp<H.n)(hLB:L≠B)(hLv:L≠vp)(hw1:w.one=true)(hy:y.one=true):∃H',ah H0 H'/\H.n<=H'.n/\H'.get L=.cells [if stC m tk then vi else w]/\(∀j,j<H.n->j≠L->H'.get j=H.get j)/\∀(d:Nat)(kn:KE)(kx:Nat->KE)(e:Env)(x:R)(v0 v2 va vw:V),af s000 e=.ptr vp 0->af s002 e=v2->af s004 e=.ptr B 0->af s011 e=va->af s012 e=vw->af s014 e=.ptr L 0->(∀e',af s000 e'=.ptr vp 0->af s002 e'=v2->af s004 e'=.ptr B 0->af s011 e'=va->af s012 e'=vw->af s014 e'=.ptr L 0->gH Sr fuel (aS cp t fuel d) e' H' kn kx=x)->gH A8 fuel (aS cp t fuel d) e H kn kx=x:=by
 have w0:=f0.wf;obtain⟨G1,hG1,f1,p1,n1⟩:=Heap.aV w0 (.cells [.int 7 0,.int 7 0,.int 7 0,.int 7 0,.int 3 0,.int 3 0,.aE]);have w1:=f1.wf;have b1:H.n<G1.n:=by omega
 obtain⟨G2,hG2,f2,p2,n2,w2,k2⟩:=Heap.bq f1 (YC _) b1 (.cells (bE m.tok vi));have gB2:=(f2.same _ hBn).trans gB;have gL2:=(f2.same _ hL).trans gL;have bL:L<G2.n:=by omega
 have ji:=λ{id}{k}=>aP hi (id:=id) (k:=k);have hV':=hV;simp only[vc,aW,bE,YL,YJ]at hV';have f02:=f0.trans f2;obtain⟨G3,hG3,f3,p3,n3,w3,k3⟩:=Heap.bq f02 h0L bL (.cells [vi]);simp only[bE]at hG2 p2 gB2;by_cases hc:stC m tk;.simp only[if_pos hc];refine⟨G3,f3,by omega,p3,λj hj hne=>(k3 j hne).trans (f2.same _ hj),λd kn kx e x v0 v2 va vw q0 q2 q4 q11 q12 q14 hk=>?_⟩;obtain⟨c1,c2,c3⟩:=hc;have e1:=λ{id}{f}=>Ow c1 (id:=id) (f:=f);have e2:=λ{id}{f}=>Ow c2 (id:=id) (f:=f);have e3:=eq_true c3;simp only[go_sem,A8,q0,q4,q14,hV',w0,hG1,p1,w1,b1,↓ji,hG2,p2,gB2,↓bG,↓e1,↓e2,e3,gL2,w2,bL,hG3];exact hk _ q0 q2 q4 q11 q12 q14
 .simp only[if_neg hc];refine⟨G2,f02,by omega,gL2,λj hj hne=>f2.same _ hj,λd kn kx e x v0 v2 va vw q0 q2 q4 q11 q12 q14 hk=>?_⟩;by_cases c1:m.tok.b=tk.b
  .have e1:=λ{id}{f}=>Ow c1 (id:=id) (f:=f);by_cases c2:m.tok.t=tk.t;.have e2:=λ{id}{f}=>Ow c2 (id:=id) (f:=f);have c3:¬m.tok.all=tk.all:=λh=>hc ⟨c1,c2,h⟩;simp only[go_sem,A8,q0,q4,hV',w0,hG1,p1,w1,b1,↓ji,hG2,p2,gB2,↓bG,↓e1,↓e2,c3];exact hk _ q0 q2 q4 q11 q12 q14
   .have e2:=λ{id}{f}=>XS c2 (id:=id) (f:=f);simp only[go_sem,A8,q0,q4,hV',w0,hG1,p1,w1,b1,↓ji,hG2,p2,gB2,↓bG,↓e1,↓e2];exact hk _ q0 q2 q4 q11 q12 q14
  .have e1:=λ{id}{f}=>XS c1 (id:=id) (f:=f);simp only[go_sem,A8,q0,q4,hV',w0,hG1,p1,w1,b1,↓ji,hG2,p2,gB2,↓bG,↓e1];exact hk _ q0 q2 q4 q11 q12 q14
theorem KZ(T:aB t){O:Nat->Prop}{H0 H1 G0:Heap}{vx va vL v0 v4 vw:V}{cs:List Wr}{at_ l:List Nat}{L:Nat}(f0:ah H0 G0)(hX:Row H0 O vx 2 cs.length (bX cs))(hA:cP H0 O va at_)(hal:at_.length=cs.length)(hn:cs.length<1000)(hcs:∀c∈cs,c.1<l.length)(hat:∀p∈at_,nn p)(hl:l.length<1000)(o0:Own H1 G0 vL 1 l.length (l.map (V.int 3)))(h01:H0.n<=H1.n)(hL1:L<H1.n)(gL:G0.get L=.cells [vL])(hfu:1000<fuel)(h10:H1.n<=G0.n):∃G',ah H0 G'/\Own H1 G' vL 1 l.length ((fk l cs at_ cs.length).map (V.int 3))/\G'.get L=.cells [vL]/\G0.n<=G'.n/\(∀j,j<H1.n->G'.get j=G0.get j)/\∀(d:Nat)(kx:Nat->KE)(e:Env)(x:R),af s000 e=v0->af s004 e=v4->af s011 e=va->af s012 e=vw->af s014 e=.ptr L 0->af s105 e=vx->af s106 e=.int 3 cs.length->af s107 e=.int 3 0->(∀e',af s000 e'=v0->af s004 e'=v4->af s012 e'=vw->af s014 e'=.ptr L 0->kx 1 e' G'=x)->kq ET fuel (aS cp t fuel d) kx fuel e G0=x:=by
 have nl:=n_ cs.length;have m0:=f0.n;obtain⟨_,G',⟨f',o',g',n',k'⟩,z⟩:=bK (c:=ET) (I:=λi _ G=>ah H0 G/\Own H1 G vL 1 l.length ((fk l cs at_ i).map (V.int 3))/\G.get L=.cells [vL]/\G0.n<=G.n/\∀j,j<H1.n->G.get j=G0.get j) (S:=λi _ e=>af s000 e=v0/\af s004 e=v4/\af s012 e=vw/\af s011 e=va/\af s014 e=.ptr L 0/\af s105 e=vx/\af s106 e=.int 3 cs.length/\af s107 e=.int 3 i) (λi _ G hil⟨f,o,g,n,k⟩=>by
   have hsi:cs[i]?=some cs[i]:=YA hil;have c1:=hcs _ (YT hil);have hia:i<at_.length:=by omega
   have hat1:=hat _ (YT hia);obtain⟨bx,ox,cx,zx,rfl,hbx,-,hrd⟩:=hX.open hil;have hrd1:=λ{id}{k}=>(hrd (f.same _ hbx)).1 (id:=id) (k:=k);rw[lZ hsi]at hrd1;obtain⟨ba,oa,ca,za,rfl,hba,-,hra⟩:=hA.open hia;have hg1:(cs.getD i (0,(0,0)))=cs[i]:=by rw[YG,hsi,YU]
   have hg2:at_.getD i 0=at_[i]:=by rw[YG,YA hia,YU]
   generalize cs[i]=x at hsi c1 hrd1 hg1;generalize at_[i]=p at hat1 hra hg2;obtain⟨q,u,wx⟩:=x;simp only at c1 hrd1 hg1;have hsl:(fk l cs at_ i).length=l.length:=nG i;have hlen:((fk l cs at_ i).map (V.int 3)).length=l.length:=by rw[Yg,hsl]
   obtain⟨G1,hG1,f1,p1,n1⟩:=Heap.aV f.wf (.cells [.int 3 0,.str 0 0]);have b1:G.n<G1.n:=by omega
   obtain⟨G2,hG2,f2,p2,n2,w2,k2⟩:=Heap.bq f1 (YC _) b1 (.cells [.int 3 q,.str u wx]);have fx:=f.trans f2;have o2:=o.fresh f2;have hne:((fk l cs at_ i).map (V.int 3))≠[]:=by intro e;rw[e]at hlen;simp at hlen;omega
   obtain⟨bs,c,z,row,rfl,gbs,hbs,hbn,hll,hput⟩:=o2.put w2 hne;obtain⟨n4,o4,k4⟩:=hput q (.int 3 p) (by omega) rfl;have hLG:L<G.n:=by omega
   have gL2:=(f2.same _ hLG).trans g;have f4:=fx.put (x:=.cells (row.set q (.int 3 p))) (Yr h01 hbs) hbn;generalize hG4:G2.put bs (.cells (row.set q (.int 3 p)))=G4 at f4 n4 o4 k4;have hra1:=λ{id}{k}=>hra ((fx.same _ hba)) (id:=id) (k:=k);have a1:=n_ i;have a2:=l_ i;have a3:=m_ (i+1);have a4:=n_ q;have a5:=l_ q;have a6:q<row.length:=by omega
   have wf:=f.wf;have w1:=f1.wf;refine⟨(),G4,⟨f4,?_,?_,by omega,λj hj=>?_⟩,λd kx r e y⟨q0,q4,q12,q11,q14,q25,q26,q27⟩hk=>?_⟩;.rw[<-List.map_set]at o4;simp only[fk,hg1,hg2];exact o4
   .rw[k4 _ (by omega)];exact gL2
   .rw[k4 _ (by omega),f2.same _ (by omega)];exact k j hj
   rw[ak];simp only[go_sem,ET,q11,q14,q25,q26,q27,hil,hal,nl,a1,a2,a3,a5,a6,c1,↓hrd1,wf,hG1,p1,w1,b1,hG2,p2,gL2,↓hra1,gbs,w2,hbn,hG4];exact hk _ (by simp only[go_sem,q0,q4,q12,q11,q14,q25,q26,hal,and_self])) cs.length 0 () G0 (by omega) ⟨f0,o0,gL,YC _,λ_ _=>rfl⟩;refine⟨G',f',o',g',n',k',λd kx e x q0 q4 q11 q12 q14 q25 q26 q27 hk=>z d kx fuel e x (by omega) ⟨q0,q4,q12,q11,q14,q25,q26,q27⟩ λr e'⟨q0,q4,q12,q11,q14,q25,q26,q27⟩=>?_⟩;have e6:¬cs.length<cs.length:=by omega
 rw[ak];simp only[go_sem,ET,q26,q27,nl,e6];exact hk _ q0 q4 q12 q14
end
open Go.Proofs
def IP(m:MT)(n:Nat)(tk:Tk)(cs:List Wr):MT:=stM {m with tok:=sH} tk (fk (rF m tk) cs (zk cs (gO m n cs) cs.length) cs.length)
def PK(m:MT)(n:Nat)(cs:List Wr):List Wr:=Eu cs (gO m n cs) cs.length
def kh(m:MT)(n:Nat)(cs:List Wr):Prop:=(cX (eZ m n)).length<fM cs cs.length
instance adl(m:MT)(n:Nat)(cs:List Wr):Decidable (kh m n cs):=inferInstanceAs(Decidable (_<_))
def sgE(pk:List UInt8->List (List UInt8))(A:AD)(a:Nat)(m:MT)(tk:Tk)(cs:List Wr):Nat:=if uW m tk≠0then uW m tk else if kh m A.len cs then 7 else(lO pk A a (IP m A.len tk cs) (PK m A.len cs)).2
def Ip(m:MT)(n:Nat)(tk:Tk)(cs:List Wr):Prop:=uW m tk≠0\/kh m n cs
instance af8(m:MT)(n:Nat)(tk:Tk)(cs:List Wr):Decidable (Ip m n tk cs):=inferInstanceAs(Decidable (_\/_))
theorem yp{m}{n}{cs}(hn:n<=1024):∀p∈gO m n cs,p<1024:=λp hp=>by have h:=Gq (WK hp);unfold eZ at h;rw[dM]at h;omega
theorem DH{cs}{fr}(h:∀p∈fr,p<1024):∀i,∀p∈zk cs fr i,p<1024
 |0,p,hp=>by cases hp|i+1,p,hp=>by
  rcases Yl.1 hp with hp|hp;.exact DH h i p hp
  .rw[YK.1 hp];split;.omega
   .rw[YG];rcases hx:fr[fM cs i]?with _|x;.simp
    .exact h x (Yb hx)
section
variable{cp:RC->au}{t:Nat->Option du}{fuel:Nat}{H:Heap}
theorem sC(T:aB t)(hc:aM t){dp vp a n}{A}{O}{m}{vl vs vi}(S:VP H dp vp a n A O m vl vs vi):(∀(d)(k),aj (aS cp t fuel (d+3)) (.func 102 []) [.ptr vp 0] H k=k (.int 3 0) (H.put vp (.cells (vc m vl vs vi dp false))))/\VP (H.put vp (.cells (vc m vl vs vi dp false))) dp vp a n A O m vl vs vi/\Step H (bg O vp) (H.put vp (.cells (vc m vl vs vi dp false))) (bg O vp):=by
 have hw:=S.cK.wf;have hVn:=S.vn;have hV:=S.get;have s1:Step H (bg O vp) (H.put vp (.cells (vc m vl vs vi dp false))) (bg O vp):=Step.ju hw hVn (YD rfl);have D1:=(S.cK.bU (Q:=λb=>b=vp) (Step.ju (x:=.cells (vc m vl vs vi dp false)) hw hVn rfl) λb hb e=>S.vo (by simp_all)).1;have hon:=λ{d}{k}=>Ks (cp:=cp) (fuel:=fuel) (T.jJ hc) (d:=d) (k:=k) S.cK;rw[S.off]at hon;have g1:(H.put vp (.cells (vc m vl vs vi dp false))).get vp=.cells (vc m vl vs vi dp false):=by rw[Heap.aC hw hVn,if_pos rfl]
 refine⟨λd k=>?_,⟨D1,S.off,S.can,S.lo,S.hi,g1,by rw[Heap.aR];omega,S.vo,S.nx.bU s1,S.ok⟩,s1⟩;generalize hG:H.put vp (.cells (vc m vl vs vi dp false))=G at g1;simp only[vc,aW,bE,YL,YJ]at hV hG g1;rw[aI T.k51 rfl rfl];simp only[go_sem,c51,hV,hw,hVn,↓hon,hG,g1]
theorem ah.qT{x y:eN}{p:Nat}(hw:H.wf)(hp:p<H.n):ah (H.put p x) ((H.new y).put p x):=by
 have hw1:(H.new y).wf:=by rw[Heap.aY];exact hw
 have hp1:p<(H.new y).n:=by rw[Heap.aK];omega
 refine⟨by rw[Heap.bu];exact hw1,by rw[Heap.aR,Heap.aR,Heap.aK];omega,λb hb=>?_,λlo h1 h2=>?_⟩;.rw[Heap.aR]at hb;rw[Heap.aC hw hp,Heap.aC hw1 hp1,Heap.aD hw,if_neg (show¬b=H.n by omega)]
 .rw[Heap.El hw hp]at h1;rw[Heap.El hw1 hp1,Heap.oH];exact h1
end
section
variable{t:Nat->Option du}{fuel:Nat}{H:Heap}{pk:List UInt8->List (List UInt8)}{unpk:List (List UInt8)->Option (List UInt8)}
set_option maxRecDepth 4000in theorem KX(T:aB t)(hc:aM t)(F:bH pk unpk)(hp:t 110=some (.nat (dO pk))){dp vp a n:Nat}{A:AD}{O:Nat->Prop}{m:MT}{vl vs vi vx y:V}{tk:Tk}{cs:List Wr}(S:VP H dp vp a n A O m vl vs vi)(Z:MU m tk cs)(hb:kP tk.b)(hy:y.one=true)(hX:Row H (bg O vp) vx 2 cs.length (bX cs))(hn:cs.length<1000)(hok:∀l∈dr m,∀a∈l,a≠0->193<=a/\a<A.len)(hfl:(dr m).flatten.length<1000000)(hsl:(rF m tk).length=m.live.length)(Y':kf (IP m A.len tk cs))(hfu:1000000<fuel):∃H' O',(∀(d:Nat)(k:K),aj (aS (aO Tryz.prog) t fuel (d+9)) (.func 32 []) [.ptr vp 0,.agg (bE tk y),vx] H k=k (.int 3 (sgE pk A a m tk cs)) H')/\oJ H H' dp vp O O' m vl vs vi (if Ip m A.len tk cs then A else(lO pk A a (IP m A.len tk cs) (PK m A.len cs)).1) (if Ip m A.len tk cs then m else CC pk A a m (IP m A.len tk cs) (PK m A.len cs)) (if Ip m A.len tk cs then false else Ti pk A a (IP m A.len tk cs) (PK m A.len cs)):=by
 have hn0:=S.ok.num;have hl0:=S.ok.live.1;have w0:=S.cK.wf;have jy:=λ{id:Nat}{k:R}=>aP hy (id:=id) (k:=k);obtain⟨G0,hG0,f0,p0,n0⟩:=Heap.aV w0 (.cells (bE tk y));have S0:=S.fresh f0;obtain⟨z1,S1,s1⟩:=sC (cp:=aO Tryz.prog) (fuel:=fuel) T hc S0;obtain⟨-,Sb,sb⟩:=sC (cp:=aO Tryz.prog) (fuel:=fuel) T hc S;have z1:=λ{d:Nat}{k:K}=>z1 (d+5) k;have hne:H.n≠vp:=by have:=S.vn;omega
 have fb1:ah (H.put vp (.cells (vc m vl vs vi dp false))) (G0.put vp (.cells (vc m vl vs vi dp false))):=by rw[<-hG0];exact ah.qT w0 S.vn
 have n1:(G0.put vp (.cells (vc m vl vs vi dp false))).n=G0.n:=Heap.aR;have nb1:(H.put vp (.cells (vc m vl vs vi dp false))).n=H.n:=Heap.aR;have p1:(G0.put vp (.cells (vc m vl vs vi dp false))).get H.n=.cells (bE tk y):=by rw[Heap.aC f0.wf S0.vn,if_neg hne];exact p0
 generalize(H.put vp (.cells (vc m vl vs vi dp false)))=Hb at Sb sb fb1 nb1;generalize hG1:(G0.put vp (.cells (vc m vl vs vi dp false)))=G1 at z1 S1 s1 fb1 n1 p1;have s01:Step H (bg O vp) G1 (bg O vp):=f0.step.trans s1;have hX1:Row G1 (bg O vp) vx 2 cs.length (bX cs):=hX.bU s01;obtain⟨G2,z2,f2⟩:=Ir (cp:=aO Tryz.prog) (fuel:=fuel) T S1 Z hb hy hX1 hn (by omega);have z2:=λ{d:Nat}{k:K}=>z2 (d+6) k;have S2:=S1.fresh f2;have s02:Step H (bg O vp) G2 (bg O vp):=s01.trans f2.step;have p2:G2.get H.n=.cells (bE tk y):=(f2.same _ (by omega)).trans p1;have hX2:=hX1.fresh f2;have hrl:uW m tk=0\/uW m tk=3:=by unfold uW;split;exact YD rfl;exact YF rfl
 simp only[bE]at hG0 z2;have p1':=p1;simp only[bE]at p1';unfold sgE;by_cases hr:¬uW m tk=0
 .simp only[if_pos (show uW m tk≠0from hr),if_pos (show Ip m A.len tk cs from YF hr)];refine⟨G2,O,λd k=>?_,S2.done.before s02⟩;rw[aI T.k16 rfl rfl];rcases hrl with h|h;.exact absurd h hr
  rw[h]at z2⊢;simp only[go_sem,c16,Lx,Ly,bE,w0,hG0,↓jy,↓z1,p1',↓z2,YV]
 have hr':¬uW m tk≠0:=hr;have hr:=Classical.not_not.1 hr;rw[hr]at z2;simp only[if_neg hr'];have hlt:=S2.lt;obtain⟨G3,va,vw,z3,f3,j1,j2,o3⟩:=zo T hc S2.cK S2.get S2.vn S2.nx S.ok hX2 hn S.hi hok hlt hfl hfu;have z3:=λ{d:Nat}{k:K}=>z3 (d+3) k;have S3:=S2.fresh f3;have s03:Step H (bg O vp) G3 (bg O vp):=s02.trans f3.step;have p3:G3.get H.n=.cells (bE tk y):=(f3.same _ (by have:=f2.n;omega)).trans p2;have i1:=λ{id:Nat}{k:R}=>aP j1 (id:=id) (k:=k);have i2:=λ{id:Nat}{k:R}=>aP j2 (id:=id) (k:=k);by_cases hfull:kh m A.len cs;.simp only[if_pos hfull,if_pos (show Ip m A.len tk cs from YD hfull)];rw[if_pos (show(cX (eZ m A.len)).length<fM cs cs.length from hfull)]at z3;refine⟨G3,O,λd k=>?_,S3.done.before s03⟩;rw[aI T.k16 rfl rfl];simp only[go_sem,c16,Lx,Ly,bE,w0,hG0,↓jy,↓z1,p1',↓z2,YV];simp only[go_sem,Sp,Sq,↓z3]
 have hno:¬Ip m A.len tk cs:=λh=>h.elim hr' hfull;have hnf:¬(cX (eZ m A.len)).length<fM cs cs.length:=hfull;simp only[if_neg hfull,if_neg hno];rw[if_neg hnf]at z3;obtain⟨oA,oW⟩:=o3 hnf;obtain⟨G4,vL0,z4,f4,hI4⟩:=uJ (cp:=aO Tryz.prog) (fuel:=fuel) T f3.wf S3.get S3.vn S3.nx S.ok S3.lt;have z4:=λ{d:Nat}{k:K}=>z4 (d+7) k;have S4:=S3.fresh f4;obtain⟨G5,hG5,f5,p5,n5⟩:=Heap.aV f4.wf (.cells [.aE]);have w4:=f4.wf;have w5:=f5.wf;have b5:G4.n<G5.n:=by omega
 obtain⟨G6,hG6,f6,p6,n6,w6,k6⟩:=Heap.bq f5 (YC _) b5 (.cells [vL0]);have jL0:=λ{id:Nat}{k:R}=>aP hI4.one (id:=id) (k:=k);have m2:=f2.n;have m3:=f3.n;have m4:=f4.n;have m6:=f6.n;have f36:=f4.trans f6;have S6:=S3.fresh f36;have p36:G6.get H.n=.cells (bE tk y):=(f36.same _ (by omega)).trans p3;have hv3:=S3.vn;obtain⟨G7,f7,n7,p7,k7,z7⟩:=PO T f6 S6.get S.nx.bT.one p36 p6 (YC _) (by omega) (by omega) (by omega) (by omega) (by have:=S3.vn;omega) hI4.one hy;have f37:=f4.trans f7;have S7:=S3.fresh f37;have w7:=f7.wf;have hIL:cP G7 (bg O vp) (if stC m tk then vi else vL0) (rF m tk):=by
  unfold rF;by_cases h:stC m tk;.rw[if_pos h,if_pos h];exact S7.nx.bT
  .rw[if_neg h,if_neg h];exact hI4.fresh f7
 generalize(if stC m tk then vi else vL0)=vI at p7 hIL;have hsl1:(rF m tk).length<1000000:=by omega
 obtain⟨G8,vL,z8,f8,o8⟩:=fP (cp:=aO Tryz.prog) (fuel:=fuel) T w7 hIL hsl1;have z8:=λ{d:Nat}{k:K}=>z8 (d+7) k;have m7:=f7.n;have m8:=f8.n;have jL:=λ{id:Nat}{k:R}=>aP o8.one (id:=id) (k:=k);have p8:G8.get G4.n=.cells [vI]:=(f8.same _ (by omega)).trans p7;have w8:=f8.wf;have b8:G4.n<G8.n:=by omega
 have f48:=f7.trans f8;obtain⟨G9,hG9,f9,p9,n9,w9,k9⟩:=Heap.bq f48 (YC _) b8 (.cells [vL]);have oL9:Own G7 G9 vL 1 (rF m tk).length ((rF m tk).map (V.int 3)):=by rw[<-hG9];exact o8.qk w8 b8 (o8.off (by omega))
 have f39:=f4.trans f9;have fr:=yp (m:=m) (cs:=cs) S.hi;have hat:∀p∈zk cs (gO m A.len cs) cs.length,nn p:=λp hp=>by have:=DH fr cs.length p hp;unfold nn;omega
 have hAI:cP G3 (bg O vp) va (zk cs (gO m A.len cs) cs.length):=by have h:=oA.toRow S2.lt;unfold cP;rw[oe];exact h
 obtain⟨Ga,fa,oa,ga,na,ka,za⟩:=KZ (fuel:=fuel) (v0:=.ptr vp 0) (v4:=.ptr H.n 0) (vw:=vw) T f39 (hX2.fresh f3) hAI (oe _ _ _) hn (λc hc=>by rw[hsl];exact(Z.ch.lt c hc).1) hat (by omega) oL9 (by omega) (by omega) p9 (by omega) (by omega);have S10:=S3.fresh fa;have p10:Ga.get H.n=.cells (bE tk y):=(fa.same _ (by omega)).trans p3;have wa:=fa.wf;obtain⟨Gb,hGb,fb,pb,nb⟩:=Heap.aV wa (.cells [.func 114 [],.func 116 [.ptr H.n 0,.ptr G4.n 0]]);have f3b:=fa.trans fb;have S11:=S3.fresh f3b;have hm3:=f3.n;have hV3:=S3.vn;have hcell:G4.n<Ga.n:=by omega
 have pb1:Gb.get G4.n=.cells [vL]:=(fb.same _ hcell).trans ga;have pb2:Gb.get H.n=.cells (bE tk y):=(fb.same _ (by omega)).trans p10;have hbwok:∀w∈PK m A.len cs,w.1<18446744073709551616/\w.2.1<1000000/\tM w.2:=KD S.hi (λc hc=>⟨by have:=(Z.ch.lt c hc).2.1;omega,(Z.ch.lt c hc).2.2⟩) cs.length (YC _);have hWl:(PK m A.len cs).length=fM cs cs.length:=xg _ _ _;have hnz:=mA cs cs.length;have fHb:ah Hb Gb:=fb1.trans (f2.trans (f3.trans f3b));obtain⟨H',O',zc,hd⟩:=jF T hc F hp fHb Sb Y' hbwok (by omega) pb (by omega) (by show 2<1000;omega) (λf hf=>by rcases YN.1 hf with rfl|hf;rfl;rw[YK.1 hf];rfl) (λB G vl1 vs1 vi1 fG ts=>by
  obtain⟨G',zt,ts',kt⟩:=oG T ts;have hlo:=ts.lo;have hQ:∀b,b<Hb.n->b<Hb.n:=λb h=>h;have mG:=fG.n;have mt:=ts'.f.n;have hkeep:∀j,j<Gb.n->G'.get j=Gb.get j:=λj hj=>(kt _ (by omega)).trans (fG.same _ hj);have fHb3:Hb.n<=G7.n:=by omega
  have obv:=fb.n;obtain⟨G'',vl2,vs2,vi2,zr,fr,hr,pr,mr,kr,nr⟩:=K0 (cp:=aO Tryz.prog) (fuel:=fuel) (ca:=G4.n) (cb:=H.n) (tk:=tk) (x0:=y) (vL:=vL) (l:=fk (rF m tk) cs (zk cs (gO m A.len cs) cs.length) cs.length) (Q:=λb=>b<Hb.n) T fHb ts' S.ok.drop ((hkeep _ (by omega)).trans pb1) ((hkeep _ (by omega)).trans pb2) (by omega) (by omega) (by omega) (by omega) hy o8.one (by unfold nn;have:=Z.next;have:=Z.all;omega) (by unfold nn;have:=Z.all;omega) (by rw[nG];omega) (λ{G5}hk hn5=>by
   have hrow:=oa.toRow (O:=λb=>b<Hb.n) (λb h=>by have:=fHb3;omega);obtain⟨q1,q2,q3⟩:=hrow;refine⟨by rw[Yg,Wb],q2,?_⟩;rw[nG];rcases q3 with q3|⟨b,o,c,s,l,e1,e2,e3,e4,e5,e6⟩;.exact YF q3
   .obtain⟨hb1,hb2⟩:=oa.cQ e1;refine YD ⟨b,o,c,s,l,e1,?_,by omega,e4,e5,e6⟩;rw[hk b (by omega) (by omega),hkeep b (by omega),fb.same _ hb2];exact e2) hQ;exact⟨G'',vl2,vs2,vi2,⟨G',λd k=>zt (d+4) k,kt Ga.n (by omega),G'',λd k=>zr (d+3) k,kr Ga.n (by omega) (by omega),rfl⟩,fr,hr,pr,mr,by
   obtain⟨q1,q2,q3⟩:=oW.toRow (O:=bg O vp) S2.lt;rw[hWl];refine⟨q1,q2,?_⟩;rcases q3 with q3|⟨b,o,c,s,l,e1,e2,e3,e4,e5,e6⟩;.exact YF q3
   .obtain⟨hb1,hb2⟩:=oW.cQ e1;refine YD ⟨b,o,c,s,l,e1,?_,by omega,e4,e5,e6⟩;rw[kr b (by omega) (by omega),hkeep b (by omega),f3b.same _ hb2];exact e2⟩) hfu;have zc:∀{d:Nat}{k:K},aj (aS (aO Tryz.prog) t fuel (d+8)) (.func 112 []) [.ptr vp 0,vw,.slice Ga.n 0 2 3 0] Gb k=k (.int 3 (lO pk A a (IP m A.len tk cs) (PK m A.len cs)).2) H':=λ{d k}=>zc d k;have sx:=λ{id:Nat}{f:Nat->R}=>hX.sn (id:=id) (f:=f);have hcl:=l_ cs.length;refine⟨H',O',λd k=>?_,hd.before sb⟩;rw[aI T.k16 rfl rfl];simp only[go_sem,c16,Lx,Ly,bE,w0,hG0,↓jy,↓z1,p1',↓z2];simp only[go_sem,Sp,Sq,↓z3,aaF,↓z4,w4,hG5,p5,w5,b5,hG6,↓jL0,bO];refine z7 (d+8) _ _ _ _ (.ptr vp 0) vx va vw ?_ ?_ ?_ ?_ ?_ ?_ λe' q0 q2 q4 q11 q12 q14=>?_;.rfl
 .rfl
 .rfl
 .rfl
 .rfl
 .rfl
 simp only[go_sem,Sr,aaG,q2,q14,p7,p8,↓z8,w8,b8,hG9,↓jL,↓sx,hcl];refine za (d+8) _ _ _ ?_ ?_ ?_ ?_ ?_ ?_ ?_ ?_ λe'' q0 q4 q12 q14=>?_;.exact q0
 .exact q4
 .exact q11
 .exact q12
 .exact q14
 .rfl
 .rfl
 .rfl
 simp only[go_sem,aaH,So,q0,q4,q12,q14,wa,hGb,↓zc]
end
end Go.Ev
end
section
namespace Go.Ev
def jK(l:List Gd):List V:=l.flatMap aZ
theorem Oq:∀l:List Gd,(jK l).length=l.length*2|[]=>rfl|g::l=>by show(aZ g++jK l).length=_;rw[YB,Oq l,YH,Wi];simp only[aZ,YH,YS];omega
theorem tz(a b):jK (a++b)=jK a++jK b:=List.flatMap_append
theorem FT(g):∀y∈aZ g,y.one=true:=λy hy=>by
 rcases YN.1 hy with rfl|hy;.rfl
 .rw[YK.1 hy];rfl
section
variable{cp:RC->au}{t:Nat->Option du}{fuel:Nat}{H:Heap}{O:Nat->Prop}
theorem OU(T:aB t){vs:V}{ss:List Sn}(hw:H.wf)(hS:fN H O vs ss)(hn:ss.length<1000)(hfu:1000<fuel):∃G' v',ah H G'/\Own H G' v' 2 ss.length (jK (ss.map (·.g)))/\∀(d:Nat)(kx:Nat->KE)(e:Env)(x:R),af s003 e=.aE->af s014 e=vs->af s015 e=.int 3 ss.length->af s016 e=.int 3 0->(∀e',af s003 e'=v'->kx 1 e' G'=x)->kq ES fuel (aS cp t fuel d) kx fuel e H=x:=by
 have nl:=n_ ss.length;obtain⟨v',G',⟨f',o'⟩,z⟩:=bK (c:=ES) (I:=λi v G=>ah H G/\Own H G v 2 i (jK ((ss.take i).map (·.g)))) (S:=λi v e=>af s003 e=v/\af s014 e=vs/\af s015 e=.int 3 ss.length/\af s016 e=.int 3 i) (λi v G hil⟨f,o⟩=>by
   obtain⟨b,ob,c,z,y,rfl,hbn,-,hy,hrd⟩:=hS.open hil;have htk:ss.take (i+1)=ss.take i++[ss[i]]:=by rw[List.take_add_one,YA hil];rfl
   have hrd:=λ{id}{k}=>hrd (f.same _ hbn) (id:=id) (k:=k);generalize ss[i]=s at htk hy hrd;have w0:=f.wf;obtain⟨G1,hG1,f1,p1,n1⟩:=Heap.aV w0 (.cells [.int 7 0,.int 7 0,.aE,.bool false]);obtain⟨G2,hG2,f2,p2,n2,w2,k2⟩:=Heap.bq f1 (YC _) (by omega) (.cells (bO s y));obtain⟨G3,hG3,f3,p3,n3⟩:=Heap.aV w2 (.cells (aZ s.g));have f03:=(f.trans f2).trans f3;obtain⟨v',G4,hap,o4,f4,-⟩:=Own.app (w:=v) (x:=.slice G2.n 0 1 2 0) f03 ((o.fresh f2).fresh f3) (λ{id f}=>ia p3 rfl) rfl (FT _) (by omega);have i1:=λ{id}{k}=>aP hy.one (id:=id) (k:=k);have w1:=f1.wf;have a1:=n_ i;have a2:=l_ i;have a3:=m_ (i+1);have a4:G.n<G1.n:=by omega
   refine⟨v',G4,⟨f4,by rw[htk,Yz,tz];simpa[jK]using o4⟩,λd kx r e x⟨q3,q14,q15,q16⟩hk=>?_⟩;simp only[bO]at hG2 p2 hrd;simp only[aZ]at hG3;rw[ak];simp only[go_sem,ES,q3,q14,q15,q16,hil,nl,a1,a2,a3,a4,↓hrd,w0,hG1,p1,w1,hG2,p2,↓i1,w2,hG3,↓hap];refine hk _ ?_;simp only[go_sem,q14,q15,and_self]) ss.length 0 .aE H (by omega) ⟨ah.refl hw,Own.nil⟩;rw[We]at o';refine⟨G',v',f',o',λd kx e x q3 q14 q15 q16 hk=>z d kx fuel e x (by omega) ⟨q3,q14,q15,q16⟩ λr e'⟨q3,q14,q15,q16⟩=>?_⟩;have e6:¬ss.length<ss.length:=by omega
 rw[ak];simp only[go_sem,ES,q15,q16,nl,e6];exact hk _ q3
theorem Ad(T:aB t){dp vp a n}{A}{m}{vl vs vi}(S:VP H dp vp a n A O m vl vs vi)(hfu:1000<fuel):∃H' v',(∀(d)(k),aj (aS cp t fuel (d+1)) (.func 26 []) [.ptr vp 0] H k=k v' H')/\ah H H'/\Own H H' v' 2 m.ae.length (jK (m.ae.map (·.g))):=by
 obtain⟨G',v',f',o',z⟩:=OU T S.cK.wf S.nx.ae S.ok.num hfu;have g:=S.get;simp only[vc,aW,bE,YL,YJ]at g;have sn:=λ{id}{f:Nat->R}=>(let⟨_,h,_⟩:=S.nx.ae;h.sn:bC id vs (λ_ _ len _ _=>f len) (f 0)=f m.ae.length);have a1:m.ae.length<9223372036854775808:=by have:=S.ok.num;omega
 refine⟨G',v',λd k=>?_,f',o'⟩;rw[aI T.k13 rfl rfl];simp only[go_sem,c13,g,↓sn,a1];refine z d _ _ _ ?_ ?_ ?_ ?_ λe' q3=>?_;.rfl
 .rfl
 .rfl
 .rfl
 simp_all
theorem fN.bT{v:V}{ss:List Sn}(h:fN H O v ss){i:Nat}(hi:i<ss.length):∃b o c s x,v=.slice b o ss.length c s/\b<H.n/\¬O b/\cP H O x ss[i].bT/\∀{G:Heap},G.get b=H.get b->∀{id:Nat}{k:V->R},DL id (G.get b) (o+i*4+2) k=k x:=by
 obtain⟨xs,hR,hl,hx⟩:=h;obtain⟨x,hxi,hI⟩:=hx i _ (YA hi);obtain⟨b,o,c,z,g1,g2,g3,g4⟩:=hR.cell (by omega);refine⟨b,o,c,z,x,g1,g2,g3,hI,λ{G}hG{id k}=>?_⟩;have e:=qK (YA hi) hxi;have e2:(((dK ss xs).drop (i*4)).take 4)[2]?=some x:=by rw[e];rfl
 rw[Yy,if_pos (by omega),WB]at e2;rw[YC2];exact g4 hG e2
theorem Ld(T:aB t)(hc:aM t){dp vp a n:Nat}{g:Gd}{A:AD}{m:MT}{vl vs vi:V}(S:VP H dp vp a n A O m vl vs vi)(hlp:∀s∈m.ae,∀p∈s.bT,p<A.len)(hfu:1000<fuel):∃H' v',(∀(d:Nat)(k:K),aj (aS cp t fuel (d+5)) (.func 62 []) [.ptr vp 0,.agg (aZ g)] H k=k (.cG [v',.int 3 (cW m g).2]) H')/\Step H (bg O vp) H' (bg O vp)/\VP H' dp vp a n A O m vl vs vi/\((cW m g).2≠0->v'=.aE)/\∀(i:Nat)(s:Sn),cW m g=(i,0)->m.ae[i]?=some s->Own H H' v' 1 s.bT.length (s.bT.map λp=>sv (cV A p)):=by
 have hn0:=S.ok.num;obtain⟨G0,hG0,f0,p0,n0⟩:=Heap.aV S.cK.wf (.cells (aZ g));have S0:=S.fresh f0;obtain⟨G2,z2,s2,S2⟩:=BB (cp:=cp) (g:=g) T hc S0 (by omega);have z2:=λ{d}{k}=>z2 d k;have s02:=f0.step.trans s2;have w0:=S.cK.wf;have a3:=n_ 0;obtain⟨l1,l2⟩:=F5 (g:=g) hn0;have p0':=p0;have g2':=S2.get;simp only[vc,aW,bE,YL,YJ]at g2';simp only[aZ]at hG0 p0' z2;by_cases h:(cW m g).2=0
 .obtain⟨i,hi,hr,hgi,hhi,-⟩:=lk h;have hs:=YA hi;obtain⟨b,o,c,z,x,rfl,hbn,-,hI,hrd⟩:=S2.nx.ae.bT hi;have hrd:=λ{id}{k}=>hrd rfl (id:=id) (k:=k);obtain⟨G3,v',z3,f3,o3⟩:=mc (cp:=cp) T hc S2.cK S2.off S2.get S2.vn hI (by have:=(S.ok.ae _ (YT hi)).2.1;omega) (hlp _ (YT hi)) S.hi hfu;have z3:=λ{d}{k}=>z3 d k;have jx:=λ{id}{k}=>aP hI.one (id:=id) (k:=k);have a1:=n_ i;have a2:=l_ i;refine⟨G3,v',λd k=>?_,s02.trans f3.step,S2.fresh f3,λhne=>absurd h hne,λj s hj hsj=>?_⟩;.rw[aI T.k31 rfl rfl];simp only[hr]at z2⊢;simp only[go_sem,c31,aZ,w0,hG0,p0',↓z2,g2',a2,hi,↓hrd,↓z3]
  .rw[hr]at hj;obtain rfl:i=j:=congrArg YK4 hj;rw[hs]at hsj;cases hsj;exact o3.sub (by have:=s02.n;omega)
 .refine⟨G2,.aE,λd k=>?_,s02,S2,λ_=>rfl,λi s hi=>absurd (by rw[hi]) h⟩;rw[aI T.k31 rfl rfl];simp only[go_sem,c31,aZ,w0,hG0,p0',↓z2,h,not_false_eq_true]
end
def t0:Tx:=(0,0)
def jG(a b:List Tx):Nat->List Wr|0=>[]|i+1=>jG a b i++(if a.getD i t0=b.getD i t0 then[]else[(i,b.getD i t0)])
def Et(a b:List Tx):List Wr:=jG a b b.length
theorem mT(a b):∀i,(jG a b i).length<=i|0=>YC _|i+1=>by have:=mT a b i;simp only[jG,YB];split<;>simp<;>omega
abbrev AZ(H:Heap)(O:Nat->Prop)(v:V)(l:List Tx):Prop:=Row H O v 1 l.length (l.map sv)
theorem AZ.open{H:Heap}{O:Nat->Prop}{v:V}{l:List Tx}(h:AZ H O v l){i:Nat}(hi:i<l.length):∃b o c s,v=.slice b o l.length c s/\b<H.n/\¬O b/\∀{G:Heap},G.get b=H.get b->∀{id:Nat}{k:V->R},DL id (G.get b) (o+i) k=k (sv l[i]):=by obtain⟨b,o,c,z,h1,h2,h3,h4⟩:=Row.open h hi;refine⟨b,o,c,z,h1,h2,h3,λ{G}hG{id k}=>?_⟩;have:=(h4 hG).2 (x:=sv l[i]) (by simp[hi]) (id:=id) (k:=k);rw[Wb]at this;exact this
theorem wu{x y:Tx}:(x.1=y.1/\x.2=y.2)=(x=y):=by obtain⟨a,b⟩:=x;obtain⟨c,d⟩:=y;simp
section
variable{cp:RC->au}{t:Nat->Option du}{fuel:Nat}{H:Heap}{O:Nat->Prop}
theorem Q7(T:aB t){va vb:V}{a b:List Tx}(hw:H.wf)(hA:AZ H O va a)(hB:AZ H O vb b)(hab:a.length=b.length)(hn:b.length<1000)(hfu:1000<fuel):∃G' v',ah H G'/\Own H G' v' 2 (Et a b).length (bX (Et a b))/\∀(d:Nat)(kx:Nat->KE)(e:Env)(x:R),af s010 e=va->af s012 e=vb->af s013 e=.aE->af s114 e=.int 3 b.length->af s115 e=.int 3 0->(∀e',af s013 e'=v'->kx 1 e' G'=x)->kq Ba fuel (aS cp t fuel d) kx fuel e H=x:=by
 have nl:=n_ b.length;obtain⟨v',G',⟨f',o'⟩,z⟩:=bK (c:=Ba) (fuel:=fuel) (I:=λi v G=>ah H G/\Own H G v 2 (jG a b i).length (bX (jG a b i))) (S:=λi v e=>af s010 e=va/\af s012 e=vb/\af s013 e=v/\af s114 e=.int 3 b.length/\af s115 e=.int 3 i) (λi v G hil⟨f,o⟩=>by
   obtain⟨bb,ob,cb,zb,hvb,hbn,-,hrb⟩:=hB.open hil;obtain⟨ba,oa,ca,za,hva,han,-,hra⟩:=hA.open (i:=i) (by omega);have hrb:=λ{id}{k}=>hrb (f.same _ hbn) (id:=id) (k:=k);have hra:=λ{id}{k}=>hra (f.same _ han) (id:=id) (k:=k);have hg1:a.getD i t0=a[i]:=by rw[YG,YA (show i<a.length by omega),YU]
   have hg2:b.getD i t0=b[i]:=by rw[YG,YA hil,YU]
   have hst:jG a b (i+1)=jG a b i++(if a[i]=b[i]then[]else[(i,b[i])]):=by simp only[jG,hg1,hg2]
   have hcl:=mT a b i;have hal:=by omega
   generalize a[i]=x at hra hst;generalize b[i]=y at hrb hst;subst hva hvb;simp only[sv]at hra hrb;have w0:=f.wf;have a1:=n_ i;have a2:=l_ i;have a3:=m_ (i+1);by_cases hxy:x=y
   .rw[if_pos hxy,YX]at hst;have e1:(x.1=y.1/\x.2=y.2)=True:=by rw[wu];exact eq_true hxy
    refine⟨v,G,⟨f,by rw[hst];exact o⟩,λd kx r e x⟨q10,q12,q13,q114,q115⟩hk=>?_⟩;rw[ak];simp only[go_sem,Ba,q10,q12,q114,q115,hil,hab,nl,a1,a2,a3,↓hra,↓hrb,e1,WZ];exact hk _ (by simp only[go_sem,q10,q12,q13,q114,hab,and_self])
   .rw[if_neg hxy]at hst;have e1:(x.1=y.1/\x.2=y.2)=False:=by rw[wu];exact eq_false hxy
    obtain⟨G3,hG3,f3,p3,n3⟩:=Heap.aV w0 (.cells [.int 3 i,.str y.1 y.2]);obtain⟨v',G4,hap,o4,f4,-⟩:=Own.app (w:=v) (x:=.slice G.n 0 1 2 0) (f.trans f3) (o.fresh f3) (λ{id f}=>ia p3 rfl) rfl (λz hz=>by rcases YN.1 hz with rfl|hz;rfl;rw[YK.1 hz];rfl) (by omega);refine⟨v',G4,⟨f4,by rw[hst,YB,dY];exact o4⟩,λd kx r e x⟨q10,q12,q13,q114,q115⟩hk=>?_⟩;rw[ak];simp only[go_sem,Ba,q10,q12,q13,q114,q115,hil,hab,nl,a1,a2,a3,↓hra,↓hrb,e1,w0,hG3,↓hap];refine hk _ ?_;simp only[go_sem,q10,q12,q114,hab,and_self]) b.length 0 .aE H (by omega) ⟨ah.refl hw,Own.nil⟩;refine⟨G',v',f',o',λd kx e x q10 q12 q13 q114 q115 hk=>z d kx fuel e x (by omega) ⟨q10,q12,q13,q114,q115⟩ λr e'⟨q10,q12,q13,q114,q115⟩=>?_⟩;have e6:¬b.length<b.length:=by omega
 rw[ak];simp only[go_sem,Ba,q114,q115,nl,e6];exact hk _ q13
def nB(m:MT)(i:Nat):List Nat:=if i=0then Yc m.live.length 0 else(m.ae.getD (i-1) ⟨(0,0),[],false⟩).bT
set_option maxRecDepth 4000in theorem AV(T:aB t)(hc:aM t){dp vp a n i:Nat}{A:AD}{m:MT}{vl vs vi:V}(S:VP H dp vp a n A O m vl vs vi)(hi:nn i)(hlp:∀s∈m.ae,∀p∈s.bT,p<A.len)(hil:∀s∈m.ae,s.bT.length=m.live.length)(hfu:1000<fuel):∃H' v',(∀(d:Nat)(k:K),aj (aS cp t fuel (d+5)) (.func 98 []) [.ptr vp 0,.int 3 i] H k=k (.cG [v',.int 3 (if i<m.ae.length then 0 else 5)]) H')/\Step H (bg O vp) H' (bg O vp)/\VP H' dp vp a n A O m vl vs vi/\(¬i<m.ae.length->v'=.aE)/\∀s,m.ae[i]?=some s->Own H H' v' 2 (Et ((nB m i).map (cV A)) (s.bT.map (cV A))).length (bX (Et ((nB m i).map (cV A)) (s.bT.map (cV A)))):=by
 have hn0:=S.ok.num;have hl0:=S.ok.live.1;obtain⟨z1,S1,s1⟩:=sC (cp:=cp) (fuel:=fuel) T hc S;have z1:=λ{d}{k}=>z1 (d+1) k;generalize H.put vp (.cells (vc m vl vs vi dp false))=G1 at z1 S1 s1;have g1':=S1.get;simp only[vc,aW,bE,YL,YJ]at g1';have sn:=λ{id}{f:Nat->R}=>(let⟨_,h,_⟩:=S1.nx.ae;h.sn:bC id vs (λ_ _ len _ _=>f len) (f 0)=f m.ae.length);have a1:=l_ m.ae.length;have a2:=n_ m.ae.length;have a3:=n_ 0;have a4:¬i<0:=by omega
 by_cases hlt:i<m.ae.length
 .have hsi:=YA hlt;have hge:¬m.ae.length<=i:=by omega
  rw[if_pos hlt];have w1:=S1.cK.wf;have hll:∀s∈m.ae,s.bT.length<1000:=λs hs=>by rw[hil s hs];omega
  have sl:=λ{id}{f}=>S1.nx.live.sn (id:=id) (f:=f);have b1:=l_ m.live.length;obtain⟨G2,f2,o2,-,n2,z2⟩:=uK (x:=.int 3 0) (n:=m.live.length) rfl w1 rfl (by omega) (YC _) (a:=.s s043);have S2:=S1.fresh f2;have g2':=S2.get;simp only[vc,aW,bE,YL,YJ]at g2';have base:∃vb,cP G2 (bg O vp) vb (nB m i)/\(∀p∈nB m i,p<A.len)/\(nB m i).length=m.live.length/\∀(d)(kn)(kx)(e)(x),af s000 e=.ptr vp 0->af s001 e=.int 3 i->af s007 e=.slice G1.n 0 m.live.length (m.live.length+1) 0->(∀e',af s000 e'=.ptr vp 0->af s001 e'=.int 3 i->af s007 e'=vb->gH SH fuel (aS cp t fuel d) e' G2 kn kx=x)->gH LF fuel (aS cp t fuel d) e G2 kn kx=x:=by
   unfold nB;by_cases h0:i=0
   .subst h0;simp only[if_true];refine⟨.slice G1.n 0 m.live.length (m.live.length+1) 0,?_,λp hp=>?_,WW,λd kn kx e x q0 q1 q7 hk=>?_⟩;.have:=o2.toRow S1.lt;unfold cP;rw[WW,Wh];exact this
    .rw[(List.mem_replicate.1 hp).2];have:=S.lo;omega
    .have e0:¬0<0:=by omega
     simp only[go_sem,LF,q1,a3,e0];exact hk _ q0 q1 q7
   .obtain⟨j,rfl⟩:=s_ i;have hj:j<m.ae.length:=by omega
    simp only[h0,if_false,Wp];rw[YG,YA hj,YU];obtain⟨b,o,c,z,x,hvs,hbn,-,hI,hrd⟩:=S2.nx.ae.bT hj;have hrd:=λ{id}{k}=>hrd rfl (id:=id) (k:=k);have jx:=λ{id}{k}=>aP hI.one (id:=id) (k:=k);refine⟨x,hI,hlp _ (YT hj),hil _ (YT hj),λd kn kx e y q0 q1 q7 hk=>?_⟩;have e1:0<j+1:=by omega
    have e2:(j+1+18446744073709551615)%18446744073709551616=j:=by unfold nn at hi;omega
    have e3:=n_ j;have e4:=l_ j;have e5:=by omega
    subst hvs;simp only[go_sem,LF,q0,q1,a3,hi,e1,e2,e4,hj,g2',↓hrd];exact hk _ q0 q1 rfl
  obtain⟨vb,hIb,hpb,hlb,zb⟩:=base;obtain⟨G3,wa,z3,f3,o3⟩:=mc (cp:=cp) T hc S2.cK S2.off S2.get S2.vn hIb (by omega) hpb S.hi hfu;have z3:=λ{d}{k}=>z3 d k;have S3:=S2.fresh f3;have g3':=S3.get;simp only[vc,aW,bE,YL,YJ]at g3';obtain⟨b,o,c,z,x,hvs,hbn,-,hI,hrd⟩:=S3.nx.ae.bT hlt;have hrd:=λ{id}{k}=>hrd rfl (id:=id) (k:=k);have jx:=λ{id}{k}=>aP hI.one (id:=id) (k:=k);obtain⟨G4,wb,z4,f4,o4⟩:=mc (cp:=cp) T hc S3.cK S3.off S3.get S3.vn hI (hll _ (YT hlt)) (hlp _ (YT hlt)) S.hi hfu;have z4:=λ{d}{k}=>z4 d k;have S4:=S3.fresh f4;have hilx:=hil _ (YT hlt);generalize m.ae[i]=s at hsi hI o4 hilx;have hA:AZ G4 (bg O vp) wa ((nB m i).map (cV A)):=by have:=(o3.toRow S2.lt).fresh f4;unfold AZ;rw[Yg,List.map_map];exact this
  have hB:AZ G4 (bg O vp) wb (s.bT.map (cV A)):=by have:=o4.toRow S3.lt;unfold AZ;rw[Yg,List.map_map];exact this
  obtain⟨G5,v',f5,o5,z5⟩:=Q7 T S4.cK.wf hA hB (by rw[Yg,Yg,hlb,hilx]) (by rw[Yg,hilx];omega) hfu;have sb:=λ{id}{f}=>hB.sn (id:=id) (f:=f);simp only[Yg]at z5 sb;have b5:=l_ s.bT.length;have hs15:=s1.trans (f2.trans (f3.trans (f4.trans f5))).step;have hsn:=s1.n;refine⟨G5,v',λd k=>?_,hs15,S4.fresh f5,λh=>absurd hlt h,λs' hs'=>by rw[hsi]at hs';cases hs';exact o5.sub (by have:=f3.n;have:=f4.n;omega)⟩;rw[aI T.k49 rfl rfl];simp only[go_sem,c49,SC,SG,↓z1,g1',↓sn,a1,a2,a3,a4,hi,hge];simp only[go_sem,aaZ,g1',↓sl,b1,↓z2];refine zb (d+4) _ _ _ _ ?_ ?_ ?_ λe' q0 q1 q7=>?_;.rfl
  .rfl
  .rfl
  have b3:=hi;have b4:=l_ i;subst hvs;simp only[go_sem,SH,aa0,aa1,q0,q1,q7,↓z3,g3',b4,hlt,↓hrd,↓z4];simp only[go_sem,aa2,aa3,SD,↓sb,b5];refine z5 (d+4) _ _ _ ?_ ?_ ?_ ?_ ?_ λe' q13=>?_;.rfl
  .rfl
  .rfl
  .rfl
  .rfl
  simp only[go_sem,SE,SF,q13]
 .have hge:m.ae.length<=i:=by omega
  rw[if_neg hlt];refine⟨G1,.aE,λd k=>?_,s1,S1,λ_=>rfl,λs hs=>absurd (YQ.1 hs).1 hlt⟩;rw[aI T.k49 rfl rfl];simp only[go_sem,c49,SC,SG,↓z1,g1',↓sn,a1,a2,a3,a4,hi,hge]
end
end Go.Ev
end
