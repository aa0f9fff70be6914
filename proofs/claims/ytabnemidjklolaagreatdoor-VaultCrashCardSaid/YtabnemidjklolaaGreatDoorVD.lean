/- VD: a part of the evaluator,of its logic,or of the laws' walk in it. -/
import Derived.Test.YtabnemidjklolaaGreatDoorLC
import Derived.Test.YtabnemidjklolaaGreatDoorVC
open List renaming getElem?_eq_getElem→YA,length_append→YB,length_cons→YH,mem_cons_of_mem→YI,nil_append→YJ,mem_singleton→YK,cons_append→YL,mem_cons_self→YM,mem_cons→YN,map_cons→YP,getElem?_eq_some_iff→YQ,length_nil→YS,getElem_mem→YT,mem_map→YW,append_nil→YX,eq_nil_of_length_eq_zero→YY,length_map→Yg,mem_append→Yl,map_append→Yz,getElem?_drop→WB,nodup_cons→WI,length_drop→WJ,flatten_cons→WL,mem_append_left→WS,length→Wl,nodup_append→QC,drop_succ_cons→QQ,mem_append_right→QV,find?_cons→Qc,flatten_nil→Qf,find?_eq_none→YQ0
open Nat renaming le_refl→YC,lt_of_lt_of_le→YE,le_trans→Yr,lt_irrefl→YD2
open Or renaming inr→YD,inl→YF
open Option renaming getD_some→YU
open Bool renaming false_eq_true→YV,false_ne_true→QX
set_option linter.unusedVariables false
set_option linter.unusedSimpArgs false
set_option linter.unusedSectionVars false
set_option maxHeartbeats 8000000
open Nat renaming reduceLT→ZE
section
namespace Go.Ev
theorem Ma:∀{D:List (Nat×Tx)}{a id}{f},Oi id false (cZ (dC D)) (.int 3 a) f=f (cZ (dC (del D a)))
 |[],a,id,f=>rfl|(b,v)::D,a,id,f=>by
  show aH (Nat.beq a b) (f (cZ (dC D))) (Oi id false (cZ (dC D)) (.int 3 a) λr=>f ((.int 3 b,sv v)::r))=_;rw[bF,Ma];simp only[po,del];by_cases h:a=b;.simp_all
  .rw[if_neg h,if_neg h];rfl
theorem F6:∀{es:List (Nat×Tx)}{a k},(es.map (·.1)).Nodup->find (del es a) k=if k=a then none else find es k
 |[],a,k,_=>by simp[del,find]|p::es,a,k,h=>by
  rw[YP,WI]at h;have ih:=F6 (a:=a) (k:=k) h.2;have hk:find es p.1=none:=by unfold find;rw[Option.map_eq_none_iff,YQ0];intro x hx he;exact h.1 (YW.2 ⟨x,hx,by simp_all⟩)
  have hc:∀(l),find (p::l) k=if p.1=k then some p.2else find l k:=λl=>by
   unfold find;by_cases he:p.1=k;.simp_all
   .have:(p.1==k)=false:=by simp_all
    simp[this,he]
  unfold del;by_cases ha:a=p.1
  .rw[if_pos ha,hc,ha];by_cases he:k=p.1;.simp_all
   .rw[if_neg he,if_neg (λe=>he e.symm)]
  .rw[if_neg ha,hc,hc,ih];by_cases he:p.1=k;.rw[if_pos he,if_pos he,if_neg (by omega)]
   simp_all
theorem CV:∀{es:List (Nat×Tx)}{a}{x:Nat×Tx},x∈del es a->x∈es
 |[],a,x,h=>h|p::es,a,x,h=>by
  unfold del at h;split at h;.simp_all
  .rcases YN.1 h with rfl|h;.simp
   .exact YI _ (CV h)
theorem Bn:∀{es:List (Nat×Tx)}{a},(es.map (·.1)).Nodup->((del es a).map (·.1)).Nodup
 |[],a,h=>h|p::es,a,h=>by
  rw[YP,WI]at h;unfold del;split;.simp_all
  .rw[YP,WI];refine⟨λhm=>?_,Bn h.2⟩;obtain⟨x,hx,e⟩:=YW.1 hm;exact h.1 (YW.2 ⟨x,CV hx,e⟩)
theorem eP.del{len:Nat}{es:List (Nat×Tx)}(h:eP len es)(a:Nat):eP len (del es a):=⟨Bn h.nodup,λe he=>h.lt e (CV he)⟩
theorem FE:∀{l acc:List (Nat×Tx)}{f},th (cZ (dC l)) (cZ (dC acc)) f=f (cZ (dC (laid acc l)))|[],acc,f=>rfl|(a,v)::l,acc,f=>by show cI 0 (.int 3 a) (λ_ _=>zN 0 false (cZ (dC acc)) (.int 3 a) (sv v) λacc'=>th (cZ (dC l)) acc' f)=_;rw[zO,qw,FE];rfl
theorem Kf{a b}{H}{k}{l acc:List (Nat×Tx)}(hw:H.wf)(hab:a≠b)(ha:H.get a=.map (cZ (dC acc)))(han:a<H.n)(hb:H.get b=.map (cZ (dC l))):uL [.map a,.map b] H k=k (.cG []) (H.put a (.map (cZ (dC (laid acc l))))):=by show aH (Nat.beq a b) (no 0) (cR H a λba=>kX 0 ba λea=>cR H b λbb=>kX 0 bb λeb=>th eb ea λres=>cJ 0 H a (.map res) λH'=>k (.cG []) H')=_;rw[bF,if_neg (by simp_all),aU,ha];show cR H b (λbb=>kX 0 bb λeb=>th eb (cZ (dC acc)) λres=>cJ 0 H a (.map res) λH'=>k (.cG []) H')=_;rw[aU,hb];show th (cZ (dC l)) (cZ (dC acc)) (λres=>cJ 0 H a (.map res) λH'=>k (.cG []) H')=_;rw[FE,ee hw han]
abbrev Un:=Nat×Tx×Bool
theorem Bt(u:Un)(us:List Un):fB (u::us)=.int 3 u.1::sv u.2.1::.bool u.2.2::fB us:=rfl
theorem Ou(us:List Un)(i):(fB us).drop (i*3)=fB (us.drop i):=by induction us generalizing i with|nil=>simp[fB]|cons u us ih=>cases i with|zero=>simp|succ i=>rw[show(i+1)*3=i*3+1+1+1by omega,Bt,QQ,QQ,QQ,QQ,ih]
theorem tB{us:List Un}{i}{u}(h:us[i]?=some u):(fB us)[i*3]?=some (.int 3 u.1)/\(fB us)[i*3+1]?=some (sv u.2.1)/\(fB us)[i*3+2]?=some (.bool u.2.2)/\∃r,(fB us).drop (i*3)=.int 3 u.1::sv u.2.1::.bool u.2.2::r:=by
 have hd:us.drop i=u::us.drop (i+1):=by obtain⟨hi,rfl⟩:=YQ.1 h;simp
 have h1:=Ou us i;rw[hd,Bt]at h1;have g:∀j,(fB us)[i*3+j]?=(V.int 3 u.1::sv u.2.1::V.bool u.2.2::fB (us.drop (i+1)))[j]?:=λj=>by rw[<-h1,WB]
 exact⟨g 0,g 1,g 2,_,h1⟩
section
variable{cp:RC->au}{t:Nat->Option du}{fuel:Nat}{H:Heap}
theorem Eo{p n ub o m:Nat}{D:DR}{es:List (Nat×Tx)}{us:List Un}{nu:Nat}{u0:Un}(hg:H.get p=D.cQ)(hp:p<H.n)(hu:D.u=.slice ub 0 nu 0 3)(hub:H.get ub=.cells (fB us))(hubn:ub<H.n)(hnu:nu=us.length)(hnb:nu<1000000)(hn:us[n]?=some u0)(ho:o=(n+1)*3)(hm:m=nu-(n+1)):∀(q j:Nat)(G:Heap),j+q=m->ah H G->∃G',ah H G'/\∀(ph:dz)(kx:Nat->KE)(rr:Nat)(e:Env),q<rr->af s000 e=.ptr p 0->af s001 e=.int 3 n->af s015 e=.slice ub o m 0 3->af s016 e=.int 3 m->af s017 e=.int 3 j->∀x:R,(∀u,(us.drop (n+1+j)).find? (λu=>u.1==u0.1)=some u->∀e',af s004 e'=sv u.2.1->kx 0 e' G'=x)->((us.drop (n+1+j)).find? (λu=>u.1==u0.1)=none->∀e',af s000 e'=.ptr p 0->af s001 e'=.int 3 n->kx 1 e' G'=x)->
  kq Fk fuel ph kx rr e G=x:=by intro q;have hnl:=(YQ.1 hn).1;induction q with|zero=>
  intro j G hj f;refine⟨G,f,λph kx rr e hrr h0 h1 h15 h16 h17 x _ hT=>?_⟩;obtain⟨rr,rfl⟩:=s_ rr;have hjm:j=m:=by omega
  have e1:¬m<m:=by omega
  have n1:=n_ m;subst hjm;rw[ak];simp only[go_sem,Fk,h16,h17,e1,n1];refine hT ?_ _ h0 h1;rw[List.drop_eq_nil_of_le (by omega)];rfl|succ q ih=>
  intro j G hj f;have hlt:j<m:=by omega
  have hw:=f.wf;obtain⟨u,hu1⟩:∃u,us[n+1+j]?=some u:=⟨_,YA (by omega)⟩;obtain⟨a0,a1,a2,r,a3⟩:=tB hu1;obtain⟨b0,b1,b2,_,_⟩:=tB hn;have fF:us.drop (n+1+j)=u::us.drop (n+1+(j+1)):=by obtain⟨hi,rfl⟩:=YQ.1 hu1;exact List.drop_eq_getElem_cons hi
  have hel:=dX us;have hgp:=(f.same p hp).trans hg;have hgu:=(f.same ub hubn).trans hub;generalize hG1:(G.new (.cells [.int 3 0,.str 0 0,.bool false])).put G.n (.cells [.int 3 u.1,sv u.2.1,.bool u.2.2])=G1;have f1:ah H G1:=by rw[<-hG1];exact ah.put (f.trans (ah.new hw)) f.n (by rw[Heap.aK];omega)
  have e8:G.n<G.n+1:=by omega
  have g1n:G1.get G.n=.cells [.int 3 u.1,sv u.2.1,.bool u.2.2]:=by rw[<-hG1];simp only[Heap.aC,Heap.aD,Heap.aY,Heap.aK,hw,e8,if_true]
  have g1p:=(f1.same p hp).trans hg;have g1u:=(f1.same ub hubn).trans hub;obtain⟨G',f',hG'⟩:=ih (j+1) G1 (by omega) f1;have f1w:=f1.wf;have n1:=n_ m;have n2:=n_ j;have e2:=l_ j;have e3:=m_ (j+1);have e4:o+j*3<=(fB us).length:=by omega
  have e5:3<=((fB us).drop (o+j*3)).length:=by rw[WJ];omega
  have hoj:(n+1+j)*3=o+j*3:=by omega
  have e6:((fB us).drop (o+j*3)).take 3=[.int 3 u.1,sv u.2.1,.bool u.2.2]:=by rw[<-hoj,a3];rfl
  have e7:n<nu:=by omega
  have e9:=l_ n;have hnth:∀{id}{k},nth id (fB us) (n*3) k=k (.int 3 u0.1):=gY b0;by_cases he:u.1=u0.1
  .refine⟨G1,f1,λph kx rr e hrr h0 h1 h15 h16 h17 x hY hT=>?_⟩;obtain⟨rr,rfl⟩:=s_ rr;have hf:(us.drop (n+1+j)).find? (λu=>u.1==u0.1)=some u:=by rw[fF,Qc];simp[he]
   have he':=eq_true he;rw[ak];simp only[DR.cQ,hu,sv]at g1p g1n g1u hG1 e6 hgp;simp only[go_sem,Fk,h0,h1,h15,h16,h17,hlt,n1,n2,e2,hw,hgu,e4,e5,e6,e8,hG1,g1n,g1p,g1u,e7,e9,hnth,he'];exact hY u hf _ (by simp only[go_sem,sv])
  .refine⟨G',f',λph kx rr e hrr h0 h1 h15 h16 h17 x hY hT=>?_⟩;obtain⟨rr,rfl⟩:=s_ rr;have hf:(us.drop (n+1+j)).find? (λu=>u.1==u0.1)=(us.drop (n+1+(j+1))).find? (λu=>u.1==u0.1):=by rw[fF,Qc,show(u.1==u0.1)=false by simpa using he]
   rw[hf]at hY hT;rw[ak];simp only[DR.cQ,hu,sv]at g1p g1n g1u hG1 e6 hgp;simp only[go_sem,Fk,h0,h1,h15,h16,h17,hlt,n1,n2,e2,hw,hgu,e4,e5,e6,e8,hG1,g1n,g1p,g1u,e7,e9,hnth,he,e3];refine hG' ph kx rr _ (by omega) ?_ ?_ ?_ ?_ ?_ x hY hT<;>simp only[go_sem,h0,h1,h15,h16]
theorem En(T:aB t){p n:Nat}{D:DR}{es:List (Nat×Tx)}{us:List Un}{u0:Un}(h:iX H p D es (fB us))(hnb:us.length<1000000)(hn:us[n]?=some u0)(hfu:us.length<fuel):∃H',ah H H'/\∀(d:Nat)(k:K),aj (aS cp t fuel (d+1)) (.func 144 []) [.ptr p 0,.int 3 n] H k=k (sv (match(us.drop (n+1)).find? (λu=>u.1==u0.1)with|some u=>u.2.1|none=>(find es u0.1).getD (0,0))) H':=by
 have hnl:=(YQ.1 hn).1;have hw:=h.wf;obtain⟨ub,nu,hu,hus,hn0,hub,hubn,hup,hum⟩:∃ub nu,D.u=.slice ub 0 nu 0 3/\(fB us).length=nu*3/\0<nu/\H.get ub=.cells (fB us)/\ub<H.n/\ub≠p/\ub≠D.m:=by
  rcases h.Ed with⟨_,he⟩|he;.have:=congrArg Wl he;rw[dX]at this;simp only[YS]at this;omega
  .exact he
 have hnu:nu=us.length:=by rw[dX]at hus;omega
 obtain⟨H',f',hL⟩:=Eo (es:=es) h.hg h.hp hu hub hubn hnu (by omega) hn rfl rfl (nu-(n+1)) 0 H (by omega) (ah.refl hw);refine⟨H',f',λd k=>?_⟩;obtain⟨b0,b1,b2,_,_⟩:=tB hn;have hgp':=(f'.same p h.hp).trans h.hg;have hgm':=(f'.same _ h.nX).trans h.hm;have hgu':=(f'.same _ hubn).trans hub;have hgp:=h.hg;have hw':=f'.wf;have e1:=m_ (n+1);have e2:=l_ (n+1);have e3:n+1<=nu:=by omega
 have e4:nu<=nu:=YC _;have e5:=l_ (nu-(n+1));have e7:n<nu:=by omega
 have e9:=l_ n;have hnth:∀{id}{k},nth id (fB us) (n*3) k=k (.int 3 u0.1):=gY b0;have hlk:=lu es u0.1;simp only[DR.cQ,hu]at hgp hgp';rw[ax T.k72 rfl rfl];simp only[go_sem,c72,hgp,e1,e2,e3,e4,e5];refine hL _ _ fuel _ (by omega) ?_ ?_ ?_ ?_ ?_ _ (λu hf e' h4=>?_) (λhf e' h0 h1=>?_);.rfl
 .rfl
 .rfl
 .rfl
 .rfl
 .simp only[go_sem,h4,hf]
 .cases hfi:find es u0.1with|some q=>rw[hfi]at hlk;simp only[Option.map_some,sv]at hlk;simp only[go_sem,h0,h1,hgp',hgm',hgu',e7,e9,hnth,hlk,hf,YU,sv]|none=>rw[hfi]at hlk;simp only[Option.map_none]at hlk;simp only[go_sem,h0,h1,hgp',hgm',hgu',e7,e9,hnth,hlk,hf,Option.getD_none,sv]
end
def sJ(H:Heap)(v:V)(bs:List Bool):Prop:=(Lo v/\bs=[])\/∃b o c s row,v=.slice b o bs.length c s/\isRow (H.get b) row/\b<H.n/\∀i x,bs[i]?=some x->row[o+i]?=some (.bool x)
theorem sJ.fresh{H H':Heap}{v:V}{bs:List Bool}(h:sJ H v bs)(f:ah H H'):sJ H' v bs:=by
 rcases h with h|⟨b,o,c,s,row,h1,h2,h3,h4⟩;.exact YF h
 .exact YD ⟨b,o,c,s,row,h1,by rw[f.same b h3];exact h2,YE h3 f.n,h4⟩
def gf(es:List (Nat×Tx))(us:List Un)(n a:Nat):Tx:=match(us.drop (n+1)).find? (λu=>u.1==a)with|some u=>u.2.1|none=>(find es a).getD (0,0)
def eT(es:List (Nat×Tx))(us:List Un)(bs:List Bool):Nat->List (Nat×Tx)|0=>[]|i+1=>if bs[i]?=some true then(match us[i]?with|some u=>dh (eT es us bs i) u.1 (gf es us i u.1)|none=>eT es us bs i)else eT es us bs i
theorem iX.freshen{H G:Heap}{p:Nat}{D:DR}{es:List (Nat×Tx)}{us:List V}(h:iX H p D es us)(f:ah H G):iX G p D es us:=by
 refine⟨f.wf,YE h.hp f.n,(f.same _ h.hp).trans h.hg,(f.same _ h.nX).trans h.hm,YE h.nX f.n,h.wJ,?_,h.hl,h.hr,h.hf,h.he⟩;rcases h.Ed with hu|⟨ub,n,hu,g1,g2,g3,g4,g5⟩;.exact YF hu
 .exact YD ⟨ub,n,hu,g1,g2,(f.same _ g4).trans g3,YE g4 f.n,g5⟩
theorem iX.mark{H:Heap}{p:Nat}{D:DR}{es:List (Nat×Tx)}{us:List V}(h:iX H p D es us):iX H.mark p D es us:=by obtain⟨a1,a2,a3,a4,a5,a6,a7,a8,a9,a10,a11⟩:=h;refine⟨by rw[Heap.eK];exact a1,a2,a3,a4,a5,a6,a7,a8,a9,a10,a11⟩
section
variable{cp:RC->au}{t:Nat->Option du}{fuel:Nat}{H:Heap}
theorem OS(T:aB t){p B M:Nat}{D:DR}{es:List (Nat×Tx)}{us:List Un}{bs:List Bool}{kv uv:V}{nu:Nat}(hD:iX H p D es (fB us))(hnu:nu=us.length)(hnb:us.length<1000000)(huv:uv=D.u)(hkv:sJ H kv bs)(hkb:bs.length<9223372036854775808)(hB:H.n<=B)(hM:H.n<=M)(hBM:B≠M)(hfu:us.length<fuel):∀(q i:Nat)(G:Heap),i+q=nu->ah H G->G.get B=.cells [.ptr p 0]->B<G.n->G.get M=.map (cZ (dC (eT es us bs i)))->M<G.n->∃G',ah H G'/\G'.get B=.cells [.ptr p 0]/\B<G'.n/\G'.get M=.map (cZ (dC (eT es us bs nu)))/\M<G'.n/\∀(d:Nat)(kx:Nat->KE)(rr:Nat)(e:Env),q<rr->af s002 e=.ptr B 0->af s001 e=kv->af s004 e=.map M->af s020 e=uv->af s021 e=.int 3 nu->af s022 e=.int 3 i->∀x:R,(∀e',af s002 e'=.ptr B 0->af s004 e'=.map M->kx 1 e' G'=x)->
  kq vC fuel (aS cp t fuel (d+1)) kx rr e G=x:=by intro q;induction q with|zero=>
  intro i G hi f hgB hBn hgM hMn;have hin:i=nu:=by omega
  subst hin;refine⟨G,f,hgB,hBn,hgM,hMn,λd kx rr e hrr h2 h1 h4 h20 h21 h22 x hT=>?_⟩;obtain⟨rr,rfl⟩:=s_ rr;have e1:¬i<i:=by omega
  have n1:=n_ i;rw[ak];simp only[go_sem,vC,h21,h22,e1,n1];exact hT _ h2 h4|succ q ih=>
  intro i G hi f hgB hBn hgM hMn;have hw:=f.wf;have hlt:i<nu:=by omega
  obtain⟨u,hu1⟩:∃u,us[i]?=some u:=⟨_,YA (by omega)⟩;obtain⟨a0,a1,a2,r,a3⟩:=tB hu1;have hel:=dX us;obtain⟨ub,hu,hub,hubn⟩:∃ub,uv=.slice ub 0 nu 0 3/\H.get ub=.cells (fB us)/\ub<H.n:=by
   rcases hD.Ed with⟨_,he⟩|⟨ub,n,hu,hus,hn0,hub,hubn,_⟩;.have:=congrArg Wl he;rw[dX]at this;simp only[YS]at this;omega
   .exact⟨ub,by rw[huv,hu];congr 1;rw[dX]at hus;omega,hub,hubn⟩
  have hgu:=(f.same ub hubn).trans hub;generalize hG1:(G.new (.cells [.int 3 0,.str 0 0,.bool false])).put G.n (.cells [.int 3 u.1,sv u.2.1,.bool u.2.2])=G1;have f1:ah H G1:=by rw[<-hG1];exact ah.put (f.trans (ah.new hw)) f.n (by rw[Heap.aK];omega)
  have e8:G.n<G.n+1:=by omega
  have g1n:G1.get G.n=.cells [.int 3 u.1,sv u.2.1,.bool u.2.2]:=by rw[<-hG1];simp only[Heap.aC,Heap.aD,Heap.aY,Heap.aK,hw,e8,if_true]
  have g1o:∀b,b<G.n->G1.get b=G.get b:=λb hb=>by rw[<-hG1,Heap.aC (by rw[Heap.aY];exact hw) (by rw[Heap.aK];omega),if_neg (by omega),Heap.aD hw,if_neg (by omega)]
  have g1l:G1.n=G.n+1:=by rw[<-hG1];simp only[Heap.aR,Heap.aK]
  have g1B:=(g1o B hBn).trans hgB;have g1M:=(g1o M hMn).trans hgM;have f1w:=f1.wf;have hK1:=hkv.fresh f1;have n1:=n_ nu;have n2:=n_ i;have nb:=n_ bs.length;have e2:=l_ i;have e3:=m_ (i+1);have e4:i*3<=(fB us).length:=by omega
  have e5:3<=((fB us).drop (i*3)).length:=by rw[WJ];omega
  have e6:((fB us).drop (i*3)).take 3=[.int 3 u.1,sv u.2.1,.bool u.2.2]:=by rw[a3];rfl
  by_cases hk:bs[i]?=some true
  .have hib:=(YQ.1 hk).1;obtain⟨b,o,c,s,row,rfl,hr1,hr2,hr3⟩:∃b o c s row,kv=.slice b o bs.length c s/\isRow (G1.get b) row/\b<G1.n/\∀i x,bs[i]?=some x->row[o+i]?=some (.bool x):=by
    rcases hK1 with⟨_,h0⟩|h;.rw[h0]at hib;simp at hib
    .exact h
   have hrd:∀{id}{k},DL id (G1.get b) (o+i) k=k (.bool true):=sg hr1 (hr3 i true hk) rfl;obtain⟨G2m,f2m,hc2⟩:=En T (hD.freshen f1).mark hnb hu1 hfu;obtain⟨f2,hlo⟩:=f2m.dS;generalize hG2:G2m.dS G1.bD=G2 at f2;have f2w:=f2.wf;have g2M:=(f2.same M (by omega)).trans g1M;have f02:=f1.trans f2;have hMn2:M<G2.n:=by have:=f2.n;omega
   have hset:Ch (dC (eT es us bs i)) u.1 (sv (gf es us i u.1))=dC (dh (eT es us bs i) u.1 (gf es us i u.1)):=qw _ _ _;have hlast:eT es us bs (i+1)=dh (eT es us bs i) u.1 (gf es us i u.1):=by simp only[eT,hk,hu1,if_true]
   generalize hG3:G2.put M (.map (cZ (dC (eT es us bs (i+1)))))=G3;have f3:ah H G3:=by rw[<-hG3];exact ah.put f02 hM hMn2
   have g3o:∀b,b≠M->G3.get b=G2.get b:=λb hb=>by rw[<-hG3,Heap.aC f2w hMn2,if_neg hb]
   have g3l:G3.n=G2.n:=by rw[<-hG3];exact Heap.aR
   obtain⟨G',f',q1,q2,q3,q4,hG'⟩:=ih (i+1) G3 (by omega) f3 (by rw[g3o B hBM,f2.same B (by omega)];exact g1B) (by have:=f2.n;omega) (by rw[<-hG3,Heap.aC f2w hMn2,if_pos rfl]) (by omega);refine⟨G',f',q1,q2,q3,q4,λd kx rr e hrr h2 h1 h4 h20 h21 h22 x hT=>?_⟩;obtain⟨rr,rfl⟩:=s_ rr;rw[hu]at h20;have hc2':∀{k},aj (aS cp t fuel (d+1)) (.func 144 []) [.ptr p 0,.int 3 i] G1.mark k=k (.str (gf es us i u.1).1 (gf es us i u.1).2) G2m:=λ{k}=>hc2 d k;rw[ak];simp only[sv]at g1n hG1 e6 hset;simp only[go_sem,vC,h2,h1,h4,h20,h21,h22,hlt,hib,hkb,n1,n2,nb,e2,hw,hgu,e4,e5,e6,e8,hG1,g1n,g1B,hrd,hc2',hlo,hG2,g2M,f2w,hMn2,hset,<-hlast,hG3,e3];refine hG' d kx rr _ (by omega) ?_ ?_ ?_ ?_ ?_ ?_ x hT<;>simp only[go_sem,h2,h1,h4,h20,h21,hu]
  .have hlast:eT es us bs (i+1)=eT es us bs i:=by simp only[eT,hk,if_false]
   obtain⟨G',f',q1,q2,q3,q4,hG'⟩:=ih (i+1) G1 (by omega) f1 g1B (by omega) (by rw[hlast];exact g1M) (by omega);refine⟨G',f',q1,q2,q3,q4,λd kx rr e hrr h2 h1 h4 h20 h21 h22 x hT=>?_⟩;obtain⟨rr,rfl⟩:=s_ rr;rw[hu]at h20;rw[ak];simp only[sv]at g1n hG1 e6;by_cases hib:i<bs.length
   .obtain⟨b,o,c,s,row,rfl,hr1,hr2,hr3⟩:∃b o c s row,kv=.slice b o bs.length c s/\isRow (G1.get b) row/\b<G1.n/\∀i x,bs[i]?=some x->row[o+i]?=some (.bool x):=by
     rcases hK1 with⟨_,h0⟩|h;.rw[h0]at hib;simp at hib
     .exact h
    have hbf:bs[i]?=some false:=by rw[YA hib]at hk⊢;cases hq:bs[i]with|true=>rw[hq]at hk;exact absurd rfl hk|false=>rfl
    have hrd:∀{id}{k},DL id (G1.get b) (o+i) k=k (.bool false):=sg hr1 (hr3 i false hbf) rfl;simp only[go_sem,vC,h1,h20,h21,h22,hlt,hib,hkb,n1,n2,nb,e2,hw,hgu,e4,e5,e6,e8,hG1,hrd,e3];refine hG' d kx rr _ (by omega) ?_ ?_ ?_ ?_ ?_ ?_ x hT<;>simp only[go_sem,h2,h1,h4,h20,h21,hu]
   .rcases hkv with⟨rfl|⟨b,o,c,s,rfl⟩,rfl⟩|⟨b,o,c,s,row,rfl,_⟩
    .have n0:nn 0:=by omega
     have e0:=by omega
     simp only[go_sem,ZE,vC,h2,h1,h4,h20,h21,h22,hlt,e0,n1,n2,e2,hw,hgu,e4,e5,e6,e8,hG1,g1n,g1B,e3];refine hG' d kx rr _ (by omega) ?_ ?_ ?_ ?_ ?_ ?_ x hT<;>simp only[go_sem,h2,h1,h4,h20,h21,hu]
    .have n0:nn 0:=by omega
     have e0:=by omega
     have e00:=by omega
     simp only[go_sem,ZE,vC,h2,h1,h4,h20,h21,h22,hlt,e0,n1,n2,e2,hw,hgu,e4,e5,e6,e8,hG1,g1n,g1B,e3];refine hG' d kx rr _ (by omega) ?_ ?_ ?_ ?_ ?_ ?_ x hT<;>simp only[go_sem,h2,h1,h4,h20,h21,hu]
    .simp only[go_sem,vC,h1,h20,h21,h22,hlt,hib,hkb,n1,n2,nb,e2,hw,hgu,e4,e5,e6,e8,hG1,e3];refine hG' d kx rr _ (by omega) ?_ ?_ ?_ ?_ ?_ ?_ x hT<;>simp only[go_sem,h2,h1,h4,h20,h21,hu]
end
def jR(es:List (Nat×Tx))(u:Un):List (Nat×Tx):=if u.2.2=true then dh es u.1 u.2.1else del es u.1
def l5(us:List Un):Nat->List (Nat×Tx)->List (Nat×Tx)|0,es=>es|i+1,es=>l5 us i (match us[i]?with|some u=>jR es u|none=>es)
def two(m l b:Nat):Prop:=b=m\/b=l
structure Rd(B0 G:Heap)(m l:Nat)(es:List (Nat×Tx))(lp:eN):Prop where step:Step B0 (two m l) G (two m l)map:G.get m=.map (cZ (dC es))lp:G.get l=lp
section
variable{cp:RC->au}{t:Nat->Option du}{fuel:Nat}
theorem Re{B0 G:Heap}{p B l i:Nat}{D:DR}{es:List (Nat×Tx)}{u:Un}{e0:Env}(hca:cp oT.1=Ji)(hcb:cp oT.2=EW)(hR:Rd B0 G D.m l es (.loop 0 0 e0 [s056,s057] oT.1 oT.2))(hp:B0.get p=D.cQ)(hpn:p<B0.n)(hB:B0.get B=.cells [.ptr p 0])(hBn:B<B0.n)(nX:D.m<B0.n)(hln:l<B0.n)(hpm:p≠D.m)(hpl:p≠l)(hBm:B≠D.m)(hBl:B≠l)(hml:D.m≠l)(he0:af s002 e0=.ptr B 0):∃G',Rd B0 G' D.m l (jR es u) (.loop 0 0 e0 [s056,s057] oT.1 oT.2)/\∀(d:Nat)(k:K),aj (aS cp t fuel (d+1)) (.rH l) [.int 3 i,.agg [.int 3 u.1,sv u.2.1,.bool u.2.2]] G k=k (.bool true) G':=by
 obtain⟨hs,hm,hl⟩:=hR;have hw:=hs.wf;have hpG:=((hs.same p hpn (λh=>h.elim hpm hpl)).1).trans hp;have hBG:=((hs.same B hBn (λh=>h.elim hBm hBl)).1).trans hB;have hn:=hs.n;generalize hG1:(G.new (.cells [.int 3 0,.str 0 0,.bool false])).put G.n (.cells [.int 3 u.1,sv u.2.1,.bool u.2.2])=G1;have e8:G.n<G.n+1:=by omega
 have g1w:G1.wf:=by rw[<-hG1,Heap.bu,Heap.aY];exact hw
 have g1n:G1.n=G.n+1:=by rw[<-hG1,Heap.aR,Heap.aK]
 have g1c:G1.get G.n=.cells [.int 3 u.1,sv u.2.1,.bool u.2.2]:=by rw[<-hG1];simp only[Heap.aC,Heap.aD,Heap.aY,Heap.aK,hw,e8,if_true]
 have g1o:∀b,b<G.n->G1.get b=G.get b:=λb hb=>by rw[<-hG1,Heap.aC (by rw[Heap.aY];exact hw) (by rw[Heap.aK];omega),if_neg (by omega),Heap.aD hw,if_neg (by omega)]
 have g1lo:∀lo,lo<=G.bD->lo<=G.n->lo<=G1.bD:=λlo h1 h2=>by rw[<-hG1];exact Heap.dN (Heap.mv h1) h2
 generalize hG2:G1.put l (.loop 1 0 e0 [s056,s057] oT.1 oT.2)=G2;have hl1:l<G1.n:=by omega
 have g2w:G2.wf:=by rw[<-hG2,Heap.bu];exact g1w
 have g2n:G2.n=G1.n:=by rw[<-hG2,Heap.aR]
 have g2o:∀b,b≠l->G2.get b=G1.get b:=λb hb=>by rw[<-hG2,Heap.aC g1w hl1,if_neg hb]
 have g2l:G2.get l=.loop 1 0 e0 [s056,s057] oT.1 oT.2:=by rw[<-hG2,Heap.aC g1w hl1,if_pos rfl]
 have g2c:=(g2o _ (by omega)).trans g1c;have g2p:=(g2o p hpl).trans ((g1o p (by omega)).trans hpG);have g2B:=(g2o B hBl).trans ((g1o B (by omega)).trans hBG);have g2m:=(g2o _ hml).trans ((g1o _ (by omega)).trans hm);have hm2:D.m<G2.n:=by omega
 generalize hG3:G2.put D.m (.map (cZ (dC (jR es u))))=G3;have g3w:G3.wf:=by rw[<-hG3,Heap.bu];exact g2w
 have g3n:G3.n=G2.n:=by rw[<-hG3,Heap.aR]
 have g3o:∀b,b≠D.m->G3.get b=G2.get b:=λb hb=>by rw[<-hG3,Heap.aC g2w hm2,if_neg hb]
 have g3m:G3.get D.m=.map (cZ (dC (jR es u))):=by rw[<-hG3,Heap.aC g2w hm2,if_pos rfl]
 have hl3:l<G3.n:=by omega
 refine⟨G3.put l (.loop 0 0 e0 [s056,s057] oT.1 oT.2),⟨⟨by rw[Heap.bu];exact g3w,by rw[Heap.aR];omega,λb hb ho=>⟨?_,ho⟩,λlo h1 h2 h3=>⟨?_,h3⟩⟩,?_,?_⟩,λd k=>?_⟩;.have h1:=λe=>ho (YF e);have h2:=λe=>ho (YD e);rw[Heap.aC g3w hl3,if_neg h2,g3o b h1,g2o b h2,g1o b (by omega)];exact(hs.same b hb ho).1
 .have h4:=(hs.lo lo h1 h2 h3).1;refine Heap.dN ?_ (h3 l (YD rfl));rw[<-hG3];refine Heap.dN ?_ (h3 _ (YF rfl));rw[<-hG2];exact Heap.dN (g1lo lo h4 (by omega)) (h3 l (YD rfl))
 .rw[Heap.aC g3w hl3,if_neg hml];exact g3m
 .rw[Heap.aC g3w hl3,if_pos rfl]
 .refine Oz (e1:=jl s057 (.agg [.int 3 u.1,sv u.2.1,.bool u.2.2]) (jl s056 (.int 3 i) e0)) (e2:=jl s010 (.ptr G.n 0) (jl s057 (.agg [.int 3 u.1,sv u.2.1,.bool u.2.2]) (jl s056 (.int 3 i) e0))) hl (λf=>?_) (λkn kx=>?_) ((g1o l (by omega)).trans hl) g1w hl1 (λkn kx=>?_) ((g3o l hml.symm).trans g2l) g3w hl3;.rfl
  .rw[hca];simp only[sv]at hG1⊢;simp only[go_sem,Ji,hw,e8,hG1]
  .rw[hcb,hG2];simp only[sv,DR.cQ]at g2c g2p;cases hu:u.2.2with|true=>
    have hr1:jR es u=dh es u.1 u.2.1:=by simp only[jR,hu,if_true]
    have hset:Ch (dC es) u.1 (.str u.2.1.1 u.2.1.2)=dC (dh es u.1 u.2.1):=qw _ _ _;rw[hu]at g2c;rw[hr1]at hG3;refine⟨?_,?_⟩;rotate_left;.simp only[go_sem,EW,he0,g2c,g2B,g2p,g2m,g2w,hm2,hset,hG3];rfl|false=>
    have hr1:jR es u=del es u.1:=by simp only[jR,hu,YV,if_false]
    rw[hu]at g2c;rw[hr1]at hG3;refine⟨?_,?_⟩;rotate_left;.simp only[go_sem,EW,Zq,he0,g2c,g2B,g2p,g2m,g2w,hm2,Ma,hG3];rfl
theorem Nz{B0:Heap}{p B X l nu:Nat}{D:DR}{us:List Un}{uv:V}{e0:Env}(hca:cp oT.1=Ji)(hcb:cp oT.2=EW)(hp:B0.get p=D.cQ)(hpn:p<B0.n)(hB:B0.get B=.cells [.ptr p 0])(hBn:B<B0.n)(nX:D.m<B0.n)(hln:l<B0.n)(hpm:p≠D.m)(hpl:p≠l)(hBm:B≠D.m)(hBl:B≠l)(hml:D.m≠l)(he0:af s002 e0=.ptr B 0)(hX:B0.get X=.cells [uv])(hXn:X<B0.n)(hXm:X≠D.m)(hXl:X≠l)(hnu:nu=us.length)(hnb:us.length<1000000)(huv:us=[]\/∃ub,uv=.slice ub 0 nu 0 3/\B0.get ub=.cells (fB us)/\ub<B0.n/\ub≠D.m/\ub≠l):∀(i:Nat)(G:Heap)(es:List (Nat×Tx)),i<=nu->Rd B0 G D.m l es (.loop 0 0 e0 [s056,s057] oT.1 oT.2)->∃G',Rd B0 G' D.m l (l5 us i es) (.loop 0 0 e0 [s056,s057] oT.1 oT.2)/\∀(d:Nat)(kx:Nat->KE)(rr:Nat)(e:Env)(j:Nat),i<rr->j=(i+18446744073709551615)%18446744073709551616->af s000 e=.rH l->af s001 e=.ptr X 0->af s003 e=.int 3 j->∀x:R,(∀e',kx 1 e' G'=x)->kq Cw fuel (aS cp t fuel (d+1)) kx rr e G=x:=by
 intro i;induction i with|zero=>
  intro G es hi hR;refine⟨G,hR,λd kx rr e j hrr hj h0 h1 h3 x hT=>?_⟩;obtain⟨rr,rfl⟩:=s_ rr;have hj':j=18446744073709551615:=by omega
  subst hj';have e1:(ej (.ge 9223372036854775808 18446744073709551616) 18446744073709551615 0=true)=False:=by rw[Fs];exact propext ⟨λh=>by omega,False.elim⟩
  rw[ak];simp only[go_sem,Cw,h3,e1];exact hT _|succ i ih=>
  intro G es hi hR;have hilt:i<us.length:=by omega
  obtain⟨u,hu1⟩:∃u,us[i]?=some u:=⟨_,YA hilt⟩;obtain⟨a0,a1,a2,r,a3⟩:=tB hu1;have hel:=dX us;obtain⟨ub,rfl,hub,hubn,hubm,hubl⟩:∃ub,uv=.slice ub 0 nu 0 3/\B0.get ub=.cells (fB us)/\ub<B0.n/\ub≠D.m/\ub≠l:=by
   rcases huv with h|h;.rw[h]at hilt;simp at hilt
   .exact h
  obtain⟨G1,hR1,hy⟩:=Re (t:=t) (fuel:=fuel) (i:=i) hca hcb hR hp hpn hB hBn nX hln hpm hpl hBm hBl hml he0;obtain⟨G',hR',hG'⟩:=ih G1 (jR es u) (by omega) hR1;have hXG:=((hR.step.same X hXn (λh=>h.elim hXm hXl)).1).trans hX;have hUG:=((hR.step.same ub hubn (λh=>h.elim hubm hubl)).1).trans hub;refine⟨G',by simpa only[l5,hu1]using hR',λd kx rr e j hrr hj h0 h1 h3 x hT=>?_⟩;obtain⟨rr,rfl⟩:=s_ rr;have hj':j=i:=by omega
  subst hj';have n1:=n_ j;have n0:=n_ 0;have e0:(0:Nat)<=j:=Nat.zero_le _;have e2:=l_ j;have e3:j<nu:=by omega
  have e4:j*3<=(fB us).length:=by omega
  have e5:3<=((fB us).drop (j*3)).length:=by rw[WJ];omega
  have e6:((fB us).drop (j*3)).take 3=[.int 3 u.1,sv u.2.1,.bool u.2.2]:=by rw[a3];rfl
  rw[ak];simp only[go_sem,Cw,h0,h1,h3,n1,n0,e0,e2,e3,hXG,hUG,e4,e5,e6,hy];refine hG' d kx rr _ ((j+18446744073709551615)%18446744073709551616) (by omega) rfl ?_ ?_ ?_ x hT;.exact h0
  .exact h1
  .rfl
theorem Ny(T:aB t){B0}{p B X l nu}{D:DR}{es}{us}{uv}{e0}(hca:cp oT.1=Ji)(hcb:cp oT.2=EW)(hw:B0.wf)(hm:B0.get D.m=.map (cZ (dC es)))(hl:B0.get l=.loop 0 0 e0 [s056,s057] oT.1 oT.2)(hp:B0.get p=D.cQ)(hpn:p<B0.n)(hB:B0.get B=.cells [.ptr p 0])(hBn:B<B0.n)(nX:D.m<B0.n)(hln:l<B0.n)(hpm:p≠D.m)(hpl:p≠l)(hBm:B≠D.m)(hBl:B≠l)(hml:D.m≠l)(he0:af s002 e0=.ptr B 0)(hX:B0.get X=.cells [uv])(hXn:X<B0.n)(hXm:X≠D.m)(hXl:X≠l)(hnu:nu=us.length)(hnb:us.length<1000000)(hfu:us.length<fuel)(huv:(uv=.aE/\us=[])\/∃ub,uv=.slice ub 0 nu 0 3/\B0.get ub=.cells (fB us)/\ub<B0.n/\ub≠D.m/\ub≠l):∃G',Rd B0 G' D.m l (l5 us nu es) (.loop 0 0 e0 [s056,s057] oT.1 oT.2)/\∀(d)(k),aj (aS cp t fuel (d+2)) (.func 226 [.ptr X 0]) [.rH l] B0 k=k (.cG []) G':=by
 obtain⟨G',hR',hL⟩:=Nz hca hcb hp hpn hB hBn nX hln hpm hpl hBm hBl hml he0 hX hXn hXm hXl hnu hnb (huv.imp (·.2) id) nu B0 es (YC _) ⟨Step.refl hw,hm,hl⟩;refine⟨G',hR',λd k=>?_⟩;have e3:=l_ nu;rw[ax T.afr rfl rfl];rcases huv with⟨rfl,rfl⟩|⟨ub,rfl,hub,_⟩
 .have hnu0:nu=0:=hnu;simp only[go_sem,ZE,ab1,hX];refine hL d _ fuel _ 18446744073709551615 (by omega) (by omega) ?_ ?_ ?_ _ (λe'=>?_);.rfl
  .rfl
  .rfl
  rfl
 .simp only[go_sem,ZE,ab1,hX,e3];refine hL d _ fuel _ ((nu+18446744073709551615)%18446744073709551616) (by omega) rfl ?_ ?_ ?_ _ (λe'=>?_);.rfl
  .rfl
  .rfl
  rfl
end
theorem DS(es)(u):(jR es u).length<=es.length+1:=by
 unfold jR;split;.exact xk _ _ _
 .have:∀(l)a,(del l a).length<=l.length:=by intro l a;induction l with|nil=>exact YC _|cons p l ih=>
    unfold del;split;.simp
    simp_all
  have:=this es u.1;omega
theorem ou(us):∀(i)(es),(l5 us i es).length<=es.length+i|0,es=>YC _|i+1,es=>by simp only[l5];cases h:us[i]?with|none=>have:=ou us i es;simp only;omega|some u=>have h1:=ou us i (jR es u);have h2:=DS es u;simp only;omega
theorem tI(es)(us)(bs):∀i,(eT es us bs i).length<=i
 |0=>YC _|i+1=>by
  have ih:=tI es us bs i;simp only[eT];split
  .split;.rename_i u _;have:=xk (eT es us bs i) u.1 (gf es us i u.1);omega
   omega
  omega
def AD.ic(A:AD)(bs:List Bool):List (Nat×Tx):=laid (l5 A.us A.us.length A.es) (eT A.es A.us bs A.us.length)
def AD.nI(A:AD)(bs:List Bool):AD:={A with es:=A.ic bs,us:=[],off:=false}
section
variable{cp:RC->au}{t:Nat->Option du}{fuel:Nat}{H:Heap}
theorem yh{ph}{e}{kn}{kx}{g}{ps}{aa bo}{f}{caps}{x}(hw:H.wf)(hg:aA g e=.func f caps)(hf:f%2=0)(h:∃(G:Heap)(e':Env)(ps':List Slot)(as' bo':RC)(v:V),(∀k:K,aj ph (.func f caps) [.rH (H.n+1)] ((H.new .mark).new (.loop 0 0 e ps aa bo)) k=k v G)/\G.get (H.n+1)=.loop 0 0 e' ps' as' bo'/\G.wf/\H.n+1<G.n/\kn e (G.put (H.n+1) (.loop 3 0 e' ps' as' bo'))=x):gH (.iJ g ps aa bo) fuel ph e H kn kx=x:=by obtain⟨G,e',ps',as',bo',v,h1,h2,h3,h4,h5⟩:=h;exact(yg hw hg hf h1 h2 h3 h4).trans h5
theorem Ck(T:aB t)(hcm:t 74=some (.nat uL))(hca:cp oT.1=Ji)(hcb:cp oT.2=EW){p:Nat}{A:AD}{O:Nat->Prop}{kv:V}{bs:List Bool}(hD:cB H p A O)(ho:A.off=true)(hus:A.us.length<1000000)(hes:A.es.length<1000000)(hkv:sJ H kv bs)(hkb:bs.length<9223372036854775808)(hfu:1000000<fuel)(d:Nat)(k:K)(x:R)(hx:∀H' O',Step H O H' O'->cB H' p (A.nI bs) O'->k (.cG []) H'=x):aj (aS cp t fuel (d+3)) (.func 54 []) [.ptr p 0,kv] H k=x:=by
 obtain⟨D,h,h1,h2,h3,h4,rfl⟩:=hD;have hw:=h.wf;have f1:ah H (H.new (.cells [.ptr p 0])):=ah.new hw;generalize hG1:H.new (.cells [.ptr p 0])=G1 at f1;have g1n:G1.n=H.n+1:=by rw[<-hG1,Heap.aK]
 have g1w:=f1.wf;have g1B:G1.get H.n=.cells [.ptr p 0]:=by rw[<-hG1,Heap.aD hw,if_pos rfl]
 have hst:∀{d}{k},aj (aS cp t fuel (d+1)) (.func 142 []) [.ptr p 0] G1 k=k (.int 3 6) G1:=λ{d k}=>by have hD1:=h.freshen f1;have TD:TDisk t:=⟨T.k26,T.k71,T.acL,T.acH,T.acJ⟩;rw[eh TD hD1.wf hD1.hp hD1.hg,h4,ho];rfl
 have f2:ah H (G1.new (.map [])):=f1.trans (ah.new g1w);generalize hG2:G1.new (.map [])=G2 at f2;have g2n:G2.n=H.n+1+1:=by rw[<-hG2,Heap.aK,g1n]
 have g2w:=f2.wf;have g2B:G2.get H.n=.cells [.ptr p 0]:=by rw[<-hG2,Heap.aD g1w,if_neg (by omega)];exact g1B
 have g2M:G2.get (H.n+1)=.map (cZ (dC (eT A.es A.us bs 0))):=by rw[<-hG2,Heap.aD g1w,if_pos g1n.symm];rfl
 have g2p:=(f2.same p h.hp).trans h.hg;obtain⟨G3,f3,g3B,g3Bn,g3M,g3Mn,hL⟩:=OS (fuel:=fuel) T h rfl hus rfl hkv hkb (YC _) (by omega) (by omega) (by omega) A.us.length 0 G2 (by omega) f2 g2B (by omega) g2M (by omega);have g3w:=f3.wf;have g3p:=(f3.same p h.hp).trans h.hg;have f4:ah H (G3.new (.cells [D.u])):=f3.trans (ah.new g3w);generalize hG4:G3.new (.cells [D.u])=G4 at f4;have g4n:G4.n=G3.n+1:=by rw[<-hG4,Heap.aK]
 have g4w:=f4.wf;have g4X:G4.get G3.n=.cells [D.u]:=by rw[<-hG4,Heap.aD g3w,if_pos rfl]
 have g4o:∀b,b<G3.n->G4.get b=G3.get b:=λb hb=>by rw[<-hG4,Heap.aD g3w,if_neg (by omega)]
 have hun:(D.u=.aE/\A.us=[])\/∃ub,D.u=.slice ub 0 A.us.length 0 3/\H.get ub=.cells (fB A.us)/\ub<H.n/\ub≠p/\ub≠D.m:=by
  rcases h.Ed with⟨hu,he⟩|⟨ub,n,hu,hul,hn0,hub,hubn,hup,hum⟩;.left;refine⟨hu,?_⟩;have:=congrArg Wl he;rw[dX]at this;simp only[YS]at this;exact YY (by omega)
  .rw[dX]at hul;obtain rfl:n=A.us.length:=by omega
   exact YD ⟨ub,hu,hub,hubn,hup,hum⟩
 have hlen:(∀{id:Nat}{f:Nat->R},True):=λ{_ _}=>trivial;have key:∀(e0)(kn)(x),af s002 e0=.ptr H.n 0->(∀G6,G6.wf->G4.n+1<G6.n->(∀b,b<G4.n->b≠D.m->G6.get b=G4.get b)->G6.get D.m=.map (cZ (dC (l5 A.us A.us.length A.es)))->(∀lo,lo<=H.bD->lo<=H.n->lo<=D.m->lo<=G6.bD)->kn e0 G6=x)->∀d,∀(kx)(g),aA g e0=.func 226 [.ptr G3.n 0]->gH (.iJ g [s056,s057] oT.1 oT.2) fuel (aS cp t fuel (d+2)) e0 G4 kn kx=x:=λe0 kn x he0 hT d kx g hg0=>by
  refine yh g4w hg0 rfl ?_;have hmw:(G4.new .mark).wf:=by rw[Heap.aY];exact g4w
  have nX:(G4.new .mark).n=G4.n+1:=Heap.aK;have hB0:∀b,b<G4.n->((G4.new .mark).new (.loop 0 0 e0 [s056,s057] oT.1 oT.2)).get b=G4.get b:=λb hb=>by rw[Heap.aD hmw,if_neg (by omega),Heap.aD g4w,if_neg (by omega)]
  have hB0n:((G4.new .mark).new (.loop 0 0 e0 [s056,s057] oT.1 oT.2)).n=G4.n+1+1:=by rw[Heap.aK,nX]
  have hold:=λb hb=>(hB0 b (by omega)).trans (f4.same b hb);have hpl:=h.hp;have hml:=h.nX;obtain⟨G',hR,hcall⟩:=Ny (fuel:=fuel) T hca hcb (by rw[Heap.aY];exact hmw) ((hold _ hml).trans h.hm) (by rw[Heap.aD hmw,if_pos nX.symm]) ((hold p hpl).trans h.hg) (by omega) ((hB0 _ (by omega)).trans ((g4o _ g3Bn).trans g3B)) (by omega) (by omega) (by omega) h.wJ.symm (by omega) (by omega) (by omega) (by omega) he0 ((hB0 _ (by omega)).trans g4X) (by omega) (by omega) (by omega) rfl hus (by omega) (hun.imp id λ⟨ub,q1,q2,q3,q4,q5⟩=>⟨ub,q1,(hold ub q3).trans q2,by omega,q5,by omega⟩);have hn':=hR.step.n;have hG'w:=hR.step.wf;have hlt':G4.n+1<G'.n:=by omega
  refine⟨G',e0,_,_,_,_,λk=>hcall d k,hR.lp,hG'w,hlt',hT _ (by rw[Heap.bu];exact hG'w) (by rw[Heap.aR];exact hlt') (λb hb hbm=>?_) ?_ (λlo q1 q2 q3=>?_)⟩;.rw[Heap.aC hG'w hlt',if_neg (by omega),(hR.step.same b (by omega) (λh=>h.elim hbm (λh=>by omega))).1];exact hB0 b hb
  .rw[Heap.aC hG'w hlt',if_neg (by omega)];exact hR.map
  .refine Heap.dN ((hR.step.lo lo (Heap.mv (Heap.mv (f4.lo lo q1 q2))) (by have:=f4.n;omega) (λb hb=>?_)).1) (by have:=f4.n;omega);rcases hb with rfl|rfl;.exact q3
   .have:=f4.n;omega
 have hvc:∀{id}{f},dU id D.u f=f [D.u]:=λ{id f}=>by rcases hun with⟨hu,_⟩|⟨ub,hu,_⟩<;>rw[hu]<;>rfl
 have hone:∀{id}{k},ef id D.u k=k:=λ{id k}=>by rcases hun with⟨hu,_⟩|⟨ub,hu,_⟩<;>rw[hu]<;>rfl
 have hsn:∀{id}{f:Nat->R},bC id D.u (λ_ _ len _ _=>f len) (f 0)=f A.us.length:=λ{id f}=>by
  rcases hun with⟨hu,he⟩|⟨ub,hu,_⟩;.rw[hu,he];rfl
  .rw[hu];rfl
 have e9:=l_ A.us.length;have hgg:=g2p;simp only[DR.cQ]at g2p g3p;rw[ax T.k27 rfl rfl];simp only[go_sem,c27,hw,hG1,g1B,g1w,hst,hG2,g2B,g2p,↓hsn,e9];refine hL (d+1) _ fuel _ (by omega) ?_ ?_ ?_ ?_ ?_ ?_ _ (λe1 h2' h4'=>?_);.rfl
 .rfl
 .simp only[go_sem,g1n]
 .rfl
 .rfl
 .rfl
 have hbk:∀{d}{k},aj (aS cp t fuel (d+1)) (.func 146 []) [D.u] G3 k=k (.func 226 [.ptr G3.n 0]) G4:=λ{d k}=>by rw[ax T.k73 rfl rfl];simp only[go_sem,c73,g3w,hvc,hone,hG4]
 simp only[go_sem,h2',g3B,g3p,hbk];refine key _ _ _ ?_ (λG6 g6w g6n g6o g6m g6lo=>?_) d _ _ ?_;.exact h2'
 rotate_left;.rfl
 have hBm:H.n≠D.m:=by have:=h.nX;omega
 have hpn:=h.hp;have nX:=h.nX;have g6B:=(g6o _ (by omega) hBm).trans ((g4o _ g3Bn).trans g3B);have g6M:=(g6o _ (by omega) (by omega)).trans ((g4o _ g3Mn).trans g3M);have g6p:=(g6o p (by omega) h.wJ.symm).trans ((f4.same p hpn).trans h.hg);have hm6:D.m<G6.n:=by omega
 generalize hG7:G6.put D.m (.map (cZ (dC (A.ic bs))))=G7;have hcp:∀{d}{k},aj (aS cp t fuel (d+1)) (.func 148 []) [.map D.m,.map (H.n+1)] G6 k=k (.cG []) G7:=λ{d k}=>by rw[mS hcm rfl rfl];refine(Kf g6w (by omega) g6m hm6 g6M).trans ?_;rw[<-hG7];rfl
 have g7w:G7.wf:=by rw[<-hG7,Heap.bu];exact g6w
 have g7n:G7.n=G6.n:=by rw[<-hG7,Heap.aR]
 have g7o:∀b,b≠D.m->G7.get b=G6.get b:=λb hb=>by rw[<-hG7,Heap.aC g6w hm6,if_neg hb]
 have g7m:G7.get D.m=.map (cZ (dC (A.ic bs))):=by rw[<-hG7,Heap.aC g6w hm6,if_pos rfl]
 have g7B:=(g7o _ hBm).trans g6B;have g7p:=(g7o _ h.wJ.symm).trans g6p;have hp7:p<G7.n:=by omega
 have hB7:H.n<G7.n:=by omega
 have hxx:=hx (G7.put p {D with u:=.aE,off:=false}.cQ) ({D with u:=.aE,off:=false}.owns p) ⟨by rw[Heap.bu];exact g7w,by rw[Heap.aR];omega,λb hb hbo=>⟨?_,?_⟩,λlo q1 q2 q3=>⟨?_,?_⟩⟩ ⟨{D with u:=.aE,off:=false},⟨by rw[Heap.bu];exact g7w,by rw[Heap.aR];omega,by rw[Heap.aC g7w hp7,if_pos rfl],by rw[Heap.aC g7w hp7,if_neg h.wJ];exact g7m,by rw[Heap.aR];show D.m<_;omega,h.wJ,YF ⟨rfl,rfl⟩,h.hl,h.hr,h.hf,?_⟩,h1,h2,h3,rfl,rfl⟩;rotate_left;.have e1:b≠p:=λe=>hbo (YF e);have e2:b≠D.m:=λe=>hbo (YD (YF e));rw[Heap.aC g7w hp7,if_neg e1,g7o b e2,g6o b (by omega) e2];exact f4.same b hb
 .rintro(e|e|⟨o,m,c,s,e⟩);.exact hbo (YF e)
  .exact hbo (YD (YF e))
  .cases e
 .refine Heap.dN ?_ (q3 p (YF rfl));rw[<-hG7];exact Heap.dN (g6lo lo q1 q2 (q3 _ (YD (YF rfl)))) (q3 _ (YD (YF rfl)))
 .rintro b(e|e|⟨o,m,c,s,e⟩);.exact q3 b (YF e)
  .exact q3 b (YD (YF e))
  .cases e
 .have r1:=ou A.us A.us.length A.es;have r2:=tI A.es A.us bs A.us.length;have r3:=vQ (eT A.es A.us bs A.us.length) (l5 A.us A.us.length A.es);show(A.ic bs).length<_;unfold AD.ic;omega
 have g6p':=g6p;simp only[DR.cQ]at g6p';simp only[go_sem,h2',h4',g6B,g6p',hcp];simp only[DR.cQ]at g7p hxx;simp only[go_sem,tC,T1,h2',g7B];refine(tD (o:=0) (v:=.ptr p 0) (by simp only[go_sem,h2']) hB7 (λk=>by simp only[go_sem,h2',g7B]) (λk=>iZ)).trans ?_;simp only[go_sem,fS];refine Eq.trans (T2 (b:=p) (o:=1) (v:=.cG []) (H':=G7.put p (.cells [.map D.m,.aE,.int 3 D.len,.int 3 D.room,.int 3 D.aT,.bool D.off])) ?_ (λk=>?_) (λk=>?_)) ?_;.rfl
 .simp only[go_sem,g7p,g7w,hp7]
 .rw[vr,if_neg (by decide),if_neg (by omega),iZ]
 simp only[go_sem,fS,nV,g7w,hp7];exact hxx
end
def tF:List (Nat×Tx)->List Wr->List Un|_,[]=>[]|es,w::ws=>(w.1,(find es w.1).getD (0,0),(find es w.1).isSome)::tF (dh es w.1 w.2) ws
theorem BI:∀{ws}{es}{w},tF es (ws++[w])=tF es ws++[(w.1,(find (laid es ws) w.1).getD (0,0),(find (laid es ws) w.1).isSome)]|[],es,w=>rfl|v::ws,es,w=>by show _::tF (dh es v.1 v.2) (ws++[w])=_;rw[BI];rfl
theorem pV:∀(ws)(es),(tF es ws).length=ws.length|[],es=>rfl|w::ws,es=>by simp only[tF,YH,pV ws]
structure Xg(A:AD)(es0:List (Nat×Tx))(pre:List Wr):Prop where
 es:A.es=laid es0 pre
 us:A.us=tF es0 pre
structure Xf(A B:AD)(es0:List (Nat×Tx))(pre:List Wr):Prop where
 off:B.off=true
 aT:B.aT=0len:B.len=A.len
 room:B.room=A.room
 tF:Xg B es0 pre
theorem Cm:∀{ws:List Wr}{A:AD}{es0:List (Nat×Tx)}{pre:List Wr},A.off=false->Xg A es0 pre->(∀w∈ws,w.2.1=32)->((A.mI ws).2=0/\Xg (A.mI ws).1 es0 (pre++ws)/\(A.mI ws).1.off=false/\(A.mI ws).1.len=A.len/\(A.mI ws).1.room=A.room)\/((A.mI ws).2=6/\∃ws1 ws2,ws=ws1++ws2/\Xf A (A.mI ws).1 es0 (pre++ws1))
 |[],A,es0,pre,ho,h,_=>YF ⟨rfl,by rw[YX];exact h,ho,rfl,rfl⟩|w::ws,A,es0,pre,ho,h,hl=>by
  by_cases hf:A.aT=1
  .have hw:A.write w.1 w.2.2=(A.JF,6):=by simp only[AD.write,if_pos hf]
   right;simp only[AD.mI,hw];rw[if_neg (by simp)];exact⟨rfl,[],w::ws,rfl,⟨rfl,rfl,rfl,rfl,by rw[YX];exact⟨h.es,h.us⟩⟩⟩
  .have hw:A.write w.1 w.2.2=({A with aT:=A.aT-1,us:=A.us++[(w.1,(find A.es w.1).getD (0,0),(find A.es w.1).isSome)],es:=dh A.es w.1 (32,w.2.2)},0):=by simp only[AD.write,if_neg hf]
   have h32:(32,w.2.2)=w.2:=by rw[<-hl w (YM ..)]
   rw[h32]at hw;simp only[AD.mI,hw,if_true];have hh:Xg {A with aT:=A.aT-1,us:=A.us++[(w.1,(find A.es w.1).getD (0,0),(find A.es w.1).isSome)],es:=dh A.es w.1 w.2} es0 (pre++[w]):=by
    refine⟨?_,?_⟩;.show dh A.es w.1 w.2=_;rw[dZ,h.es];rfl
    .rw[BI,h.us,h.es]
   rcases Cm (A:={A with aT:=A.aT-1,us:=A.us++[(w.1,(find A.es w.1).getD (0,0),(find A.es w.1).isSome)],es:=dh A.es w.1 w.2}) ho hh (λv hv=>hl v (YI _ hv))with⟨q1,q2,q3,q4,q5⟩|⟨q1,ws1,ws2,q2,q3,q4,q5,q6,q7⟩;.simp_all
   .right;rw[List.append_assoc]at q7;exact⟨q1,w::ws1,ws2,by simp_all,⟨q3,q4,q5,q6,q7⟩⟩
theorem KI{ws}{A}(ho:A.off=false)(hu:A.us=[])(hl:∀w∈ws,w.2.1=32):((A.iI ws).2=0/\(A.iI ws).1.us=[]/\Ez A (A.iI ws).1 (laid A.es ws))\/((A.iI ws).2=6/\∃ws1 ws2,ws=ws1++ws2/\Xf A (A.iI ws).1 A.es ws1):=by
 rcases Cm (pre:=[]) ho ⟨rfl,hu⟩ hl with⟨q1,q2,q3,q4,q5⟩|⟨q1,ws1,ws2,q2,q3⟩
 .unfold AD.iI;rw[if_pos q1];by_cases hf:(A.mI ws).1.aT=1;.right;simp only[AD.flush,if_pos hf];exact⟨trivial,ws,[],by simp,⟨rfl,rfl,q4,q5,⟨q2.es,q2.us⟩⟩⟩
  .left;simp only[AD.flush,if_neg hf];exact⟨trivial,trivial,⟨q4,q5,by simp_all,q2.es⟩⟩
 .right;unfold AD.iI;rw[if_neg (by omega)];exact⟨q1,ws1,ws2,q2,q3⟩
theorem sh:∀{l}{A},A.off=false->A.us=[]->(∀ws∈l,∀w∈ws,w.2.1=32)->((A.runs l).2=0/\(A.runs l).1.us=[]/\Ez A (A.runs l).1 (laid A.es l.flatten))\/((A.runs l).2=6/\∃l1 ws l2 ws1 ws2,l=l1++ws::l2/\ws=ws1++ws2/\Xf A (A.runs l).1 (laid A.es l1.flatten) ws1)
 |[],A,ho,hu,_=>YF ⟨rfl,hu,⟨rfl,rfl,rfl,rfl⟩⟩|ws::l,A,ho,hu,hl=>by
  simp only[AD.runs];rcases KI ho hu (hl ws (YM ..))with⟨q1,q2,q3⟩|⟨q1,ws1,ws2,q2,q3⟩
  .rw[if_pos q1];obtain⟨g1,g2,g3,g4⟩:=q3;rcases sh (g3.trans ho) q2 (λus hus=>hl us (YI _ hus))with⟨r1,r2,r3,r4,r5,r6⟩|⟨r1,l1,vs,l2,ws1,ws2,r2,r3,r4,r5,r6,r7,r8⟩;.left;exact⟨r1,r2,⟨r3.trans g1,r4.trans g2,r5.trans g3,by rw[r6,g4,WL,dZ]⟩⟩
   .right;refine⟨r1,ws::l1,vs,l2,ws1,ws2,by simp_all,r3,⟨r4,r5,r6.trans g1,r7.trans g2,?_⟩⟩;rw[WL,dZ,<-g4];omega
  .right;rw[if_neg (by omega)];exact⟨q1,[],ws,l,ws1,ws2,rfl,q2,q3⟩
def mC(es:List (Nat×Tx))(w:Wr):Un:=(w.1,(find es w.1).getD (0,0),(find es w.1).isSome)
theorem yz:∀{ws}{es es0:List (Nat×Tx)},(ws.map (·.1)).Nodup->(∀w∈ws,find es w.1=find es0 w.1)->tF es ws=ws.map (mC es0)|[],_,_,_,_=>rfl|w::ws,es,es0,hn,h=>by rw[YP,WI]at hn;have h0:=h w (YM ..);show _::tF (dh es w.1 w.2) ws=_;rw[yz hn.2 (es0:=es0) (λv hv=>by rw[cC,if_neg (λe=>hn.1 (YW.2 ⟨v,hv,e⟩))];exact h v (YI _ hv)),h0];rfl
theorem JT{len}{es es0}{w}(hk:eP len es)(k):find (jR es (mC es0 w)) k=if k=w.1then find es0 k else find es k:=by unfold jR mC;cases hs:find es0 w.1with|some v=>simp only[Option.isSome_some,YU,if_true];rw[cC];simp_all|none=>simp only[Option.isSome_none,YV,if_false];rw[F6 hk.nodup];simp_all
theorem U4{len}{es}{u}(hk:eP len es)(hu:u.1<len):eP len (jR es u):=by
 unfold jR;split;.exact hk.dh hu
 .exact hk.del _
theorem HN{len}{ws:List Wr}{es0}(hw:∀w∈ws,w.1<len):∀(i)(es),i<=ws.length->eP len es->eP len (l5 (ws.map (mC es0)) i es)/\∀k,find (l5 (ws.map (mC es0)) i es) k=if k∈(ws.take i).map (·.1)then find es0 k else find es k
 |0,es,_,hk=>⟨hk,λk=>by rfl⟩|i+1,es,hi,hk=>by
  have hil:i<ws.length:=by omega
  have hg:(ws.map (mC es0))[i]?=some (mC es0 ws[i]):=by simp_all
  have hmem:=YT hil;obtain⟨h1,h2⟩:=HN hw i (jR es (mC es0 ws[i])) (by omega) (U4 hk (hw _ hmem));simp only[l5,hg];refine⟨h1,λk=>?_⟩;have hiff:k∈(ws.take (i+1)).map (·.1)↔k∈(ws.take i).map (·.1)\/k=ws[i].1:=by rw[List.take_succ_eq_append_getElem hil,Yz,Yl];simp
  rw[h2,JT hk];by_cases hk1:k∈(ws.take i).map (·.1);.simp_all
  simp_all
theorem Hf:∀{l:List (Nat×Tx)}{a}{v:Tx}{e:Nat×Tx},e∈dh l a v->e∈l\/e=(a,v)
 |[],a,v,e,h=>by simp[dh]at h;simp_all|p::l,a,v,e,h=>by
  unfold dh at h;split at h
  .rcases YN.1 h with rfl|h;.simp_all
   simp_all
  .rcases YN.1 h with rfl|h;.simp
   .exact(Hf h).imp (YI _) id
theorem GO{len}{ws:List Wr}{es0 es:List (Nat×Tx)}{bs}(hn:(ws.map (·.1)).Nodup)(hw:∀w∈ws,w.1<len)(he:∀w∈ws,find es w.1=some w.2):∀i,eP len (eT es (ws.map (mC es0)) bs i)/\∀e∈eT es (ws.map (mC es0)) bs i,e∈ws
 |0=>⟨eP.nil,λe h=>by cases h⟩|i+1=>by
  obtain⟨h1,h2⟩:=GO hn hw he i;simp only[eT];split;.rw[List.getElem?_map];cases hi:ws[i]?with|none=>exact⟨h1,h2⟩|some w=>
    have hm:=List.mem_of_getElem? hi;have hil:=(YQ.1 hi).1;have hwr:gf es (ws.map (mC es0)) i w.1=w.2:=by
     unfold gf;have hno:((ws.map (mC es0)).drop (i+1)).find? (λu=>u.1==w.1)=none:=by
      rw[YQ0];intro u hu hq;rw[<-List.map_drop]at hu;obtain⟨v,hv,rfl⟩:=YW.1 hu;have hv1:=by simpa[mC]using hq
      obtain⟨j,hj⟩:=List.getElem?_of_mem hv;rw[WB]at hj;obtain⟨hjl,hj2⟩:=YQ.1 hj;have h3:=(List.pairwise_iff_getElem.1 hn) i (i+1+j) (by simp_all) (by simp_all) (by omega);simp_all
     rw[hno,he w hm];rfl
    show eP len (dh (eT es (ws.map (mC es0)) bs i) w.1 (gf es (ws.map (mC es0)) i w.1))/\∀e∈dh (eT es (ws.map (mC es0)) bs i) w.1 (gf es (ws.map (mC es0)) i w.1),e∈ws;exact⟨h1.dh (hw w hm),λe he'=>(Hf he').elim (h2 e) λe'=>by simp_all⟩
  simp_all
structure ad5(len:Nat)(es0:List (Nat×Tx))(ws:List Wr)(es:List (Nat×Tx)):Prop where
 keys:eP len es
 at_:∀k,find es k=find es0 k\/∃w∈ws,w.1=k/\find es k=some w.2
theorem qY{A B}{es0}{ws}(h:Xf A B es0 ws)(hk:eP B.len es0)(hn:(ws.map (·.1)).Nodup)(hw:∀w∈ws,w.1<B.len)(bs:List Bool):ad5 B.len es0 ws (B.ic bs):=by
 obtain⟨_,_,_,_,h1,h2⟩:=h;have hh:=yz (es0:=es0) hn λ_ _=>rfl;have hkB:eP B.len B.es:=by rw[h1];exact hk.laid hw
 obtain⟨r1,r2⟩:=HN hw ws.length B.es (YC _) hkB;have hfe:∀w∈ws,find B.es w.1=some w.2:=λw hm=>by rw[h1];exact cz hn hm
 obtain⟨l1,l2⟩:=GO hn hw hfe ws.length;have hul:B.us.length=ws.length:=by simp_all
 have hw':B.ic bs=laid (l5 (ws.map (mC es0)) ws.length B.es) (eT B.es (ws.map (mC es0)) bs ws.length):=by unfold AD.ic;simp_all
 have hb:∀k,find (l5 (ws.map (mC es0)) ws.length B.es) k=find es0 k:=λk=>by
  rw[r2,List.take_length];split;.rfl
  .rename_i hm;rw[h1,bA hm]
 rw[hw'];refine⟨r1.laid λe he=>hw e (l2 e he),λk=>?_⟩;by_cases hm:k∈(eT B.es (ws.map (mC es0)) bs ws.length).map (·.1);.obtain⟨e,he,rfl⟩:=YW.1 hm;exact YD ⟨e,l2 e he,rfl,cz l1.nodup he⟩
 .exact YF (by rw[bA hm,hb])
def KIn(es:List (Nat×Tx))(K:List Nat):Prop:=∀k,(find es k).isSome=true->k∈K
theorem KIn.laid{K:List Nat}:∀{ws:List Wr}{es:List (Nat×Tx)},KIn es K->(∀w∈ws,w.1∈K)->KIn (laid es ws) K
 |[],es,h,_=>h|w::ws,es,h,hw=>KIn.laid (ws:=ws) (es:=dh es w.1 w.2) (λk hk=>by
  rw[cC]at hk;by_cases e:k=w.1;.rw[e];exact hw w (YM ..)
  .rw[if_neg e]at hk;exact h k hk) λv hv=>hw v (YI _ hv)
def Rm(room:Nat)(es:List (Nat×Tx))(ws:List Wr):Prop:=(∀w∈ws,(find es w.1).isSome=true)\/∃K:List Nat,K.length<=room/\KIn es K/\∀w∈ws,w.1∈K
theorem zF{room}{K}(hK:K.length<=room):∀{ws}{es},(es.map (·.1)).Nodup->KIn es K->(∀w∈ws,w.1∈K)->roomy room es ws
 |[],_,_,_,_=>trivial|w::ws,es,hn,h,hw=>by
  refine⟨?_,zF hK ?_ ?_ λv hv=>hw v (YI _ hv)⟩
  .by_cases hs:(find es w.1).isSome=true;.simp_all
   .have hno:=λhm=>hs (jO.2 hm);have h1:=WI.2 ⟨hno,hn⟩;have h2:(w.1::es.map (·.1))⊆K:=λk hk=>by
     rcases YN.1 hk with rfl|hk;.simp_all
     .exact h k (jO.2 hk)
    have:=List.Nodup.length_le_of_subset h1 h2;simp only[YH,Yg]at this;omega
  .rw[vd];split;.omega
   .exact QC.2 ⟨hn,by simp,λx hx y hy=>by rintro rfl;simp_all⟩
  .intro k hk;rw[cC]at hk;by_cases e:k=w.1;.simp_all
   .rw[if_neg e]at hk;exact h k hk
theorem Rm.roomy{room len:Nat}{es:List (Nat×Tx)}{ws:List Wr}(h:Rm room es ws)(hk:eP len es):roomy room es ws:=by
 rcases h with h|⟨K,h1,h2,h3⟩;.exact lG h
 .exact zF h1 hk.nodup h2 h3
theorem Rm.ads{room len:Nat}{es0 es:List (Nat×Tx)}{ws ws1:List Wr}(h:Rm room es0 ws)(t:ad5 len es0 ws1 es)(hs:∀w∈ws1,w∈ws):Rm room es ws:=by
 rcases h with h|⟨K,h1,h2,h3⟩
 .left;intro w hw;rcases t.at_ w.1with e|⟨v,_,_,e⟩;.rw[e];exact h w hw
  .rw[e];rfl
 .refine YD ⟨K,h1,λk hk=>?_,h3⟩;rcases t.at_ k with e|⟨v,hv,rfl,e⟩;.rw[e]at hk;exact h2 k hk
  .exact h3 v (hs v hv)
structure RD(pk:List UInt8->List (List UInt8))(A:AD)(a n:Nat)(ws:List Wr)(g:Nat->Option Tx):Prop where
 off:A.off=false
 keys:eP A.len A.es
 us:A.us=[]can:mK A a n
 record:n≠0->n=(pk (bV ws)).length/\(∀i(h:i<(pk (bV ws)).length),A.read (1+a*72+i)=tx (pk (bV ws))[i])/\oI ws/\ws≠[]/\gm A.len [] ws=true
 rm:n≠0->Rm A.room A.es ws
 goal:∀k,145<=k->find (if n=0then A.es else laid A.es ws) k=g k
variable{pk:List UInt8->List (List UInt8)}{unpk:List (List UInt8)->Option (List UInt8)}
theorem RD.AM{A:AD}{a n:Nat}{ws:List Wr}{g:Nat->Option Tx}(R:RD pk A a n ws g):iW A pk a n ws:=⟨R.can,λh=>let⟨q1,q2,q3,q4,q5⟩:=R.record h;⟨q1,q2,q3,q4,q5,(R.rm h).roomy R.keys⟩⟩
theorem JD.jt{A:AD}{a n f:Nat}{ws:List Wr}(J:JD pk A a n ws):JD pk {A with aT:=f} a n ws:=by obtain⟨h1,h2,h3,⟨⟨k1,k2,k3,k4,k5,k6,k7⟩,k8⟩,h5⟩:=J;exact⟨h1,h2,h3,⟨⟨k1,k2,k3,k4,k5,k6,k7⟩,k8⟩,h5⟩
theorem kH{ws ws1 ws2:List Wr}(h:ws=ws1++ws2)(hn:(ws.map (·.1)).Nodup):(ws1.map (·.1)).Nodup:=by rw[h,Yz]at hn;exact(QC.1 hn).1
theorem RD.recover{A:AD}{a n:Nat}{ws:List Wr}{g:Nat->Option Tx}(R:RD pk A a n ws g):((A.recover n ws).2=0/\JD pk (A.recover n ws).1 a n ws/\(A.recover n ws).1.len=A.len/\(A.recover n ws).1.room=A.room/\∀k,145<=k->find (A.recover n ws).1.es k=g k)\/(A.aT≠0/\(A.recover n ws).2=6/\(A.recover n ws).1.off=true/\(A.recover n ws).1.aT=0/\(A.recover n ws).1.len=A.len/\(A.recover n ws).1.us.length<1000000/\(A.recover n ws).1.es.length<1000000/\∀bs,RD pk ((A.recover n ws).1.nI bs) a n ws g):=by
 obtain⟨h1,h2,h3,⟨k1,k2,k3,k4,k5,k6,k7⟩,h5,h6,h7⟩:=R;unfold AD.recover;rw[if_neg (by rw[h1];exact QX)];by_cases hn:n=0;.rw[if_pos hn];left;refine⟨rfl,⟨h1,h2,h3,⟨⟨k1,k2,k3,k4,k5,k6,k7⟩,λh=>absurd hn h⟩,λh=>absurd hn h⟩,rfl,rfl,λk hk=>?_⟩;have:=h7 k hk;rwa[if_pos hn]at this
 .rw[if_neg hn];obtain⟨r1,r2,r3,r4,r5⟩:=h5 hn;obtain⟨hgood,hnd⟩:=eV r5;have h7':=λk hk=>h7 k hk;simp only[if_neg hn]at h7';have hnw:∀k,k<145->k∉ws.map (·.1):=λk hk hm=>by obtain⟨v,hv,e⟩:=YW.1 hm;have:=(hgood v hv).1.1;omega
  have hlt:∀w∈ws,w.1<A.len:=λw hw=>(hgood w hw).1.2.1;have hps:∀i,i<(pk (bV ws)).length->1+a*72+i<145:=λi hi=>by omega
  rcases sh (l:=[ws]) h1 h3 (λus hus w hw=>by rw[YK.1 hus]at hw;exact r3.len w hw)with⟨q1,q2,q3,q4,q5,q6⟩|⟨q1,l1,vs,l2,ws1,ws2,q2,q3,q4⟩
  .left;simp only[WL,Qf,YX]at q6;have hkB:eP (A.runs [ws]).1.len (A.runs [ws]).1.es:=by rw[q3,q6];exact h2.laid hlt
   have hlen:=hkB.length;have hsome:∀w∈ws,find (A.runs [ws]).1.es w.1=some w.2:=λw hw=>by rw[q6];exact cz hnd hw
   have hrd:∀k,k<145->(A.runs [ws]).1.read k=A.read k:=λk hk=>by rw[AD.read,AD.read,q6,bA (hnw k hk)]
   refine⟨q1,⟨q5.trans h1,hkB,q2,⟨⟨by omega,by omega,by omega,by rw[q2];simp,by rw[hrd 0 (by omega)];exact k5,k6,k7⟩,λ_=>⟨r1,λi hi=>by rw[hrd _ (hps i hi)];exact r2 i hi,r3,r4,by rw[q3];exact r5,lG λw hw=>by rw[hsome w hw];rfl⟩⟩,λ_=>hsome⟩,q3,q4,λk hk=>?_⟩;rw[q6];exact h7' k hk
  .right;have hl1:l1=[]/\vs=ws:=by cases l1 with|nil=>simp only[YJ,List.cons.injEq]at q2;exact⟨rfl,q2.1.symm⟩|cons x l1=>simp at q2
   obtain⟨rfl,rfl⟩:=hl1;simp only[Qf]at q4;have hq4:laid A.es []=A.es:=rfl;rw[hq4]at q4;have hsub:∀w∈ws1,w∈vs:=λw hw=>by rw[q3];exact WS _ hw
   have hfz:A.aT≠0:=λh0=>by have:=(ir (l:=[vs]) h0).1;omega
   have hBl:=q4.len;have hke:eP (A.runs [vs]).1.len (A.runs [vs]).1.es:=by rw[q4.tF.es,hBl];exact h2.laid λw hw=>hlt w (hsub w hw)
   have hBe:=hke.length;have hul:(A.runs [vs]).1.us.length=ws1.length:=by rw[q4.tF.us,pV]
   have hw1:ws1.length<=vs.length:=by rw[q3,YB];omega
   have hnum:=r3.num;refine⟨hfz,q1,q4.off,q4.aT,hBl,by omega,by omega,λbs=>?_⟩;have ht:=qY q4 (by rw[hBl];exact h2) (kH q3 hnd) (λw hw=>by rw[hBl];exact hlt w (hsub w hw)) bs;have hks:=ht.keys;have hrd:∀k,k<145->find ((A.runs [vs]).1.ic bs) k=find A.es k:=λk hk=>by
    rcases ht.at_ k with e|⟨w,hw,e,_⟩;.exact e
    .exact absurd (YW.2 ⟨w,hsub w hw,e⟩) (hnw k hk)
   have hread:∀k,k<145->((A.runs [vs]).1.nI bs).read k=A.read k:=λk hk=>by show(find ((A.runs [vs]).1.ic bs) k).getD (32,0)=(find A.es k).getD (32,0);rw[hrd k hk]
   have hlW:((A.runs [vs]).1.nI bs).len=A.len:=hBl;have hel:=hks.length;refine⟨rfl,hks,rfl,⟨by rw[hlW];exact k1,by rw[hlW];exact k2,by show((A.runs [vs]).1.ic bs).length<_;omega,by show 0<_;omega,by rw[hread 0 (by omega)];exact k5,k6,k7⟩,λ_=>⟨r1,λi hi=>by rw[hread _ (hps i hi)];exact r2 i hi,r3,r4,by rw[hlW];exact r5⟩,λ_=>?_,λk hk=>?_⟩;.have:((A.runs [vs]).1.nI bs).room=A.room:=q4.room;rw[this];exact(h6 hn).ads ht hsub
   .rw[if_neg hn,<-h7' k hk];show find (laid ((A.runs [vs]).1.ic bs) vs) k=_;by_cases hm:k∈vs.map (·.1);.obtain⟨w,hw,rfl⟩:=YW.1 hm;rw[cz hnd hw,cz hnd hw]
    .rw[bA hm,bA hm];rcases ht.at_ k with e|⟨w,hw,e,_⟩;.exact e
     .exact absurd (YW.2 ⟨w,hsub w hw,e⟩) hm
end Go.Ev
end
section
namespace Go.Ev
theorem XY{A:AD}{ns}{ws}(h:A.fits ns=true)(hw:∀w∈ws,w.1∈ns):Rm A.room A.es ws:=by
 have h:=of_decide_eq_true h;have hin:∀n∈ns,(find A.es n).isSome=true\/n∈(vN A.es ns ns.length).map (·.1):=λn hn=>by
  obtain⟨i,hi,rfl⟩:=List.mem_iff_getElem.1 hn;have hg:ns.getD i 0=ns[i]:=by simp_all
  by_cases hs:(find A.es ns[i]).isSome=true;.simp_all
  .have:=yu ns.length i hi (by rw[hg];simpa using hs);simp_all
 rcases h with h|h
 .left;intro w hm;rcases hin w.1 (hw w hm)with h1|h1;.omega
  simp_all
 .refine YD ⟨A.es.map (·.1)++(vN A.es ns ns.length).map (·.1),by simp_all,λk hk=>WS _ (jO.1 hk),λw hm=>?_⟩;rcases hin w.1 (hw w hm)with h1|h1;.exact WS _ (jO.1 h1)
  simp_all
theorem Rm.laid{room:Nat}{es:List (Nat×Tx)}{ws us:List Wr}(h:Rm room es ws)(hs:∀w∈us,w∈ws):Rm room (laid es us) ws:=by
 rcases h with h|⟨K,h1,h2,h3⟩;.exact YF λw hw=>pR (h w hw)
 .exact YD ⟨K,h1,h2.laid λw hw=>h3 w (hs w hw),h3⟩
theorem Rm.sub{room:Nat}{es:List (Nat×Tx)}{ws us:List Wr}(h:Rm room es ws)(hs:∀w∈us,w∈ws):Rm room es us:=by
 rcases h with h|⟨K,h1,h2,h3⟩;.exact YF λw hw=>h w (hs w hw)
 .exact YD ⟨K,h1,h2,λw hw=>h3 w (hs w hw)⟩
variable{pk:List UInt8->List (List UInt8)}{unpk:List (List UInt8)->Option (List UInt8)}
theorem RD.old{A B:AD}{a n:Nat}{us:List Wr}(J:JD pk A a n us)(ho:B.off=false)(hu:B.us=[])(hl:B.len=A.len)(hk:eP B.len B.es)(h0:find B.es 0=find A.es 0)(ha:∀i,i<72->find B.es (1+a*72+i)=find A.es (1+a*72+i))(hf:∀k,145<=k->find B.es k=find A.es k):RD pk B a n us (find A.es):=by
 obtain⟨h1,h2,h3,⟨⟨k1,k2,k3,k4,k5,k6,k7⟩,k8⟩,h5⟩:=J;have hlB:=hk.length;refine⟨ho,hk,hu,⟨by omega,by omega,by omega,by rw[hu];show 0<_;omega,by rw[AD.read,h0];exact k5,k6,k7⟩,λhn=>?_,λhn=>YF λw hw=>?_,λk hk'=>?_⟩;.obtain⟨q1,q2,q3,q4,q5,_⟩:=k8 hn;exact⟨q1,λi hi=>by rw[AD.read,ha i (by omega)];exact q2 i hi,q3,q4,by rw[hl];exact q5⟩
 .obtain⟨_,_,_,_,q5,_⟩:=k8 hn;rw[hf _ ((eV q5).1 w hw).1.1,h5 hn w hw];rfl
 .by_cases hn:n=0;.rw[if_pos hn,hf k hk']
  .rw[if_neg hn,ke (hf k hk'),uI (h5 hn)]
theorem RD.new{A B:AD}{a n m:Nat}{us ws:List Wr}(J:JD pk A a n us)(hm:gm A.len [] ws=true)(hrec:oI ws)(h0:ws≠[])(nX:m=(pk (bV ws)).length)(hm72:m<=72)(hm0:m≠0)(ho:B.off=false)(hu:B.us=[])(hl:B.len=A.len)(hk:eP B.len B.es)(hh:find B.es 0=some (tx (fF (1-a) m)))(hfst:∀i(h:i<(pk (bV ws)).length),find B.es (1+(1-a)*72+i)=some (tx (pk (bV ws))[i]))(hf:∀k,145<=k->k∉ws.map (·.1)->find B.es k=find A.es k)(hr:Rm B.room B.es ws):RD pk B (1-a) m ws (find (laid A.es ws)):=by
 obtain⟨h1,h2,h3,⟨⟨k1,k2,k3,k4,k5,k6,k7⟩,k8⟩,h5⟩:=J;have hlB:=hk.length;obtain⟨hgood,hnd⟩:=eV hm;refine⟨ho,hk,hu,⟨by omega,by omega,by omega,by rw[hu];show 0<_;omega,by rw[AD.read,hh];rfl,by omega,hm72⟩,λhn=>⟨nX,λi hi=>by rw[AD.read,hfst i hi];rfl,hrec,h0,by rw[hl];exact hm⟩,λhn=>hr,λk hk'=>?_⟩;rw[if_neg hm0];by_cases hin:k∈ws.map (·.1);.obtain⟨w,hw,rfl⟩:=YW.1 hin;rw[cz hnd hw,cz hnd hw]
 .rw[bA hin,bA hin,hf k hk' hin]
structure Cut(pk:List UInt8->List (List UInt8))(A:AD)(ws:List Wr)(B:AD×Nat):Prop where
 off:B.1.off=true
 e:B.2=6aT:B.1.aT=0lit:A.aT≠0len:B.1.len=A.len
 room:B.1.room=A.room
 us:B.1.us.length<1000000
 es:B.1.es.length<1000000next:∀bs,∃a n us g,RD pk (B.1.nI bs) a n us g/\((∀k,145<=k->g k=find A.es k)\/(∀k,145<=k->g k=find (laid A.es ws) k))
structure Ran(pk:List UInt8->List (List UInt8))(A:AD)(ws:List Wr)(B B0:AD×Nat):Prop where
 off:B.1.off=false
 e:B.2=B0.2len:B.1.len=A.len
 room:B.1.room=A.room
 es:B.1.es=B0.1.es
 jd:∃a n us,JD pk B.1 a n us
theorem JD.Ju(F:bH pk unpk){A:AD}{a n:Nat}{us ws:List Wr}(J:JD pk A a n us)(hws:∀w∈ws,tM w.2):Ran pk A ws (A.dm pk a ws) (({A with aT:=0}:AD).dm pk a ws)\/(Cut pk A ws (A.dm pk a ws)/\(({A with aT:=0}:AD).dm pk a ws).2=0):=by
 have same:∀e,Ran pk A ws (A,e) ({A with aT:=0},e):=λe=>⟨J.off,rfl,rfl,rfl,rfl,⟨_,_,_,J⟩⟩;unfold AD.dm;rw[if_neg (by rw[J.off];exact QX),if_neg (show¬({A with aT:=0}:AD).off=true by rw[show({A with aT:=0}:AD).off=A.off from rfl,J.off];exact QX)];by_cases h0:ws.length=0;.rw[if_pos h0,if_pos h0];exact YF (same 0)
 rw[if_neg h0,if_neg h0];by_cases h6:60<ws.length;.rw[if_pos h6,if_pos h6];exact YF (same 3)
 rw[if_neg h6,if_neg h6];by_cases hm:gm A.len [] ws=false;.rw[if_pos hm,if_pos (show gm ({A with aT:=0}:AD).len [] ws=false from hm)];exact YF (same 2)
 rw[if_neg hm,if_neg (show¬gm ({A with aT:=0}:AD).len [] ws=false from hm)];have hm:gm A.len [] ws=true:=by simpa using hm
 by_cases hfit:A.fits (0::(outs (1-a) (pk (bV ws))++ws).map (·.1))=true
 .rw[if_pos hfit,if_pos (show({A with aT:=0}:AD).fits (0::(outs (1-a) (pk (bV ws))++ws).map (·.1))=true from hfit)];obtain⟨hgood,hnd⟩:=eV hm;have hJ:=J;obtain⟨h1,h2,h3,⟨⟨k1,k2,k3,k4,k5,k6,k7⟩,k8⟩,h5⟩:=J;have hrec:oI ws:=⟨by omega,λw hw=>by have:=(hgood w hw).1.2.1;omega,λw hw=>(hgood w hw).1.2.2,hws⟩;have htl:=hrec.text;have hpkn:=F.num _ htl;have hpkp:=F.pos (bV ws) (by omega);have hpkl:=F.len (bV ws) (by omega);have ha1:1-a<2:=by omega
  have hwn:ws≠[]:=λh=>h0 (by rw[h];rfl);have hm0:(pk (bV ws)).length≠0:=λh=>hpkp (YY h);have hout:=uO (a:=1-a) ha1 hpkn hpkl;have hond:=y9 (1-a) (pk (bV ws));have hom:∀i(h:i<(pk (bV ws)).length),((1+(1-a)*72+i,tx (pk (bV ws))[i]):Wr)∈outs (1-a) (pk (bV ws)):=λi h=>by simp only[outs,List.mem_mapIdx];exact⟨i,h,rfl⟩
  have houtm:∀w∈outs (1-a) (pk (bV ws)),1+(1-a)*72<=w.1/\w.1<1+(1-a)*72+72:=λw hw=>by obtain⟨i,hi,rfl⟩:=tN hw;exact⟨Nat.le_add_right _ _,by show 1+(1-a)*72+i<_;omega⟩
  have hhd:=J4 (1-a) (pk (bV ws)).length;have h32:∀l∈[outs (1-a) (pk (bV ws)),[(0,tx (fF (1-a) (pk (bV ws)).length))],ws],∀w∈l,w.2.1=32:=λus hus w hw=>by
   simp only[YN,List.not_mem_nil,or_false]at hus;rcases hus with rfl|rfl|rfl;.exact(hout w hw).2
   .rw[YK.1 hw];exact hhd
   .exact(hgood w hw).1.2.2
  have hrm:Rm A.room A.es (outs (1-a) (pk (bV ws))++(0,tx (fF (1-a) (pk (bV ws)).length))::ws):=XY hfit λw hw=>by
   rcases Yl.1 hw with h|h;.exact YI _ (YW.2 ⟨w,WS _ h,rfl⟩)
   .rcases YN.1 h with rfl|h;.exact YM ..
    .exact YI _ (YW.2 ⟨w,QV _ h,rfl⟩)
  have hran:=λ(B:AD)=>hJ.ran (B:=B) F hm (by omega) hwn hws;obtain⟨z1,z2⟩:=ir (A:={A with aT:=0}) (l:=[outs (1-a) (pk (bV ws)),[(0,tx (fF (1-a) (pk (bV ws)).length))],ws]) rfl;obtain⟨⟨zz1,zz2,zz3,zz4⟩,_⟩:=nD (A:={A with aT:=0}) h32 z1;have hnw:∀k,k<145->k∉ws.map (·.1):=λk hk hm=>by obtain⟨v,hv,e⟩:=YW.1 hm;have:=(hgood v hv).1.1;omega
  generalize hq:outs (1-a) (pk (bV ws))=first at*;generalize hdq:tx (fF (1-a) (pk (bV ws)).length)=hd at*;have hnf:∀k,(k<1+(1-a)*72\/1+(1-a)*72+72<=k)->k∉first.map (·.1):=λk hk hm=>by obtain⟨v,hv,e⟩:=YW.1 hm;have:=houtm v hv;omega
  have hk1:eP A.len (laid A.es first):=h2.laid λv hv=>by have:=(hout v hv).1;omega
  have hk2:eP A.len (laid A.es (first++[(0,hd)])):=by rw[dZ];exact hk1.laid λv hv=>by rw[YK.1 hv];show 0<A.len;omega
  have hf1:∀i(h:i<(pk (bV ws)).length),find (laid A.es first) (1+(1-a)*72+i)=some (tx (pk (bV ws))[i]):=λi h=>by have:=hom i h;exact cz hond this
  have hf2:∀k,find (laid A.es (first++[(0,hd)])) k=if k=0then some hd else find (laid A.es first) k:=λk=>by rw[dZ];exact cC _ _ _ _
  have a01:∀i,i<72->(1+a*72+i<1+(1-a)*72\/1+(1-a)*72+72<=1+a*72+i):=λi hi=>by omega
  have hfl:(pk (bV ws)).length=first.length:=by rw[<-hq,qi]
  rcases sh (A:=A) (l:=[first,[(0,hd)],ws]) h1 h3 h32 with⟨q1,q2,q3⟩|⟨q1,l1,vs,l2,ws1,ws2,q2,q3,q4⟩
  .left;have q3':Ez A (A.runs [first,[(0,hd)],ws]).1 (laid A.es (first++(0,hd)::ws)):=by simpa using q3
   obtain⟨j1,j2⟩:=hran _ q3' q2;exact⟨q3.off.trans h1,q1.trans z1.symm,q3.len,q3.room,q3.es.trans zz4.symm,⟨_,_,_,j1⟩⟩
  .right;refine⟨?_,z1⟩;have hfz:A.aT≠0:=λh0=>by have:=(ir (l:=[first,[(0,hd)],ws]) h0).1;omega
   have hBl:=q4.len;have hBr:=q4.room;have hw1:ws1.length<=vs.length:=by rw[q3,YB];omega
   have hul:(A.runs [first,[(0,hd)],ws]).1.us.length=ws1.length:=by rw[q4.tF.us,pV]
   have hsub:∀w∈ws1,w∈vs:=λw hw=>by rw[q3];exact WS _ hw
   have fin:eP A.len (laid A.es l1.flatten)->(∀w∈ws1,w.1<A.len)->vs.length<=100->(∀bs,∃a n us g,RD pk ((A.runs [first,[(0,hd)],ws]).1.nI bs) a n us g/\((∀k,145<=k->g k=find A.es k)\/(∀k,145<=k->g k=find (laid A.es ws) k)))->Cut pk A ws (A.runs [first,[(0,hd)],ws]):=λhke hlt hv hn=>by
    have hke':eP (A.runs [first,[(0,hd)],ws]).1.len (A.runs [first,[(0,hd)],ws]).1.es:=by rw[q4.tF.es,hBl];exact hke.laid hlt
    have:=hke'.length;exact⟨q4.off,q1,q4.aT,hfz,hBl,hBr,by omega,by omega,hn⟩
   cases l1 with|nil=>
    simp only[YJ,List.cons.injEq]at q2;obtain⟨rfl,_⟩:=q2;have hlt:∀w∈ws1,w.1<A.len:=λw hw=>by have:=(hout w (hsub w hw)).1;omega
    refine fin h2 hlt (by omega) λbs=>⟨a,n,us,_,?_,YF λ_ _=>rfl⟩;have ht:=qY q4 (by rw[hBl];exact h2) (kH q3 hond) (λw hw=>by rw[hBl];exact hlt w hw) bs;have hat:∀k,(k<1+(1-a)*72\/1+(1-a)*72+72<=k)->find ((A.runs [first,[(0,hd)],ws]).1.ic bs) k=find A.es k:=λk hk=>by
     rcases ht.at_ k with e|⟨w,hw,e,_⟩;.exact e
     .exact absurd (YW.2 ⟨w,hsub w hw,e⟩) (hnf k hk)
    exact RD.old hJ rfl rfl hBl ht.keys (hat 0 (by omega)) (λi hi=>hat _ (a01 i hi)) λk hk=>hat k (by omega)|cons x l1=>cases l1 with|nil=>
    simp only[YL,YJ,List.cons.injEq]at q2;obtain⟨rfl,rfl,_⟩:=q2;have hes0:laid A.es [first].flatten=laid A.es first:=by simp
    have hlt:∀w∈ws1,w.1<A.len:=λw hw=>by rw[YK.1 (hsub w hw)];show 0<A.len;omega
    refine fin (by rw[hes0];exact hk1) hlt (by simp) λbs=>?_;have ht:=qY q4 (by rw[hBl,hes0];exact hk1) (kH q3 (by simp)) (λw hw=>by rw[hBl];exact hlt w hw) bs;rw[hes0]at ht;have hat:∀k,k≠0->find ((A.runs [first,[(0,hd)],ws]).1.ic bs) k=find (laid A.es first) k:=λk hk=>by
     rcases ht.at_ k with e|⟨w,hw,e,_⟩;.exact e
     .rw[YK.1 (hsub w hw)]at e;exact absurd e.symm hk
    rcases ht.at_ 0with e|⟨w,hw,_,e⟩;.refine⟨a,n,us,_,?_,YF λ_ _=>rfl⟩;exact RD.old hJ rfl rfl hBl ht.keys (e.trans (bA (hnf 0 (by omega)))) (λi hi=>(hat _ (by omega)).trans (bA (hnf _ (a01 i hi)))) λk hk=>(hat _ (by omega)).trans (bA (hnf _ (by omega)))
    .refine⟨1-a,(pk (bV ws)).length,ws,_,?_,YD λ_ _=>rfl⟩;rw[YK.1 (hsub w hw)]at e;refine RD.new hJ hm hrec hwn rfl hpkn hm0 rfl rfl hBl ht.keys (e.trans (by rw[hdq])) (λi hi=>(hat _ (by omega)).trans (hf1 i hi)) (λk hk _=>(hat _ (by omega)).trans (bA (hnf _ (by omega)))) ?_;have:((A.runs [first,[(0,hd)],ws]).1.nI bs).room=A.room:=q4.room;rw[this];exact((hrm.laid (us:=first) λw hw=>WS _ hw).ads ht (λw hw=>by rw[YK.1 (hsub w hw)];simp)).sub λw hw=>by simp[hw]|cons y l1=>cases l1 with|nil=>
    simp only[YL,YJ,List.cons.injEq]at q2;obtain⟨rfl,rfl,rfl,_⟩:=q2;have hes0:laid A.es [first,[(0,hd)]].flatten=laid A.es (first++[(0,hd)]):=by simp
    have hlt:∀w∈ws1,w.1<A.len:=λw hw=>(hgood w (hsub w hw)).1.2.1;refine fin (by rw[hes0];exact hk2) hlt (by omega) λbs=>?_;have ht:=qY q4 (by rw[hBl,hes0];exact hk2) (kH q3 hnd) (λw hw=>by rw[hBl];exact hlt w hw) bs;rw[hes0]at ht;have hat:∀k,k∉ws.map (·.1)->find ((A.runs [first,[(0,hd)],ws]).1.ic bs) k=if k=0then some hd else find (laid A.es first) k:=λk hk=>by
     rcases ht.at_ k with e|⟨w,hw,e,_⟩;.rw[e,hf2]
     .exact absurd (YW.2 ⟨w,hsub w hw,e⟩) hk
    refine⟨1-a,(pk (bV ws)).length,ws,_,?_,YD λ_ _=>rfl⟩;refine RD.new hJ hm hrec hwn rfl hpkn hm0 rfl rfl hBl ht.keys ((hat 0 (hnw 0 (by omega))).trans (by rw[if_pos rfl,hdq])) (λi hi=>by rw[show find ((A.runs [first,[(0,hd)],ws]).1.nI bs).es _=_ from hat _ (hnw _ (by omega)),if_neg (by omega),hf1 i hi]) (λk hk hno=>by rw[show find ((A.runs [first,[(0,hd)],ws]).1.nI bs).es _=_ from hat _ hno,if_neg (by omega),bA (hnf _ (by omega))]) ?_;have:((A.runs [first,[(0,hd)],ws]).1.nI bs).room=A.room:=q4.room;rw[this];exact((hrm.laid (us:=first++[(0,hd)]) λw hw=>by rcases Yl.1 hw with h|h;exact WS _ h;exact QV _ (by rw[YK.1 h];simp)).ads ht (λw hw=>by simp[hsub w hw])).sub λw hw=>by simp[hw]|cons z l1=>simp at q2
 .rw[if_neg hfit,if_neg (show¬({A with aT:=0}:AD).fits (0::(outs (1-a) (pk (bV ws))++ws).map (·.1))=true from hfit)];exact YF (same 7)
end Go.Ev
end
section
namespace Go.Ev
open Go.Proofs
variable{pk:List UInt8->List (List UInt8)}{unpk:List (List UInt8)->Option (List UInt8)}
theorem VI.jt{A:AD}{a n f:Nat}{us:List Wr}{m:MT}{c:CH}(I:VI pk A a n us m c):VI pk {A with aT:=f} a n us m c:=⟨I.jd.jt,I.lo,I.hi,I.room,I.l8,I.ok,I.xe,⟨λi h=>I.qV.at_ i h⟩,I.s8,⟨I.ag.live,I.ag.len,I.ag.sn⟩⟩
theorem ie.jt{A:AD}{f:Nat}{m:MT}{o:iQ}{c:CH}(G:ie A m o c):ie {A with aT:=f} m o c:=⟨G.ok,G.xe,G.l8,G.bw,G.nd,G.len,G.s8,λA' h1 h2=>G.ag A' h1 λl hl q hq=>h2 l hl q hq⟩
theorem Bo{A}{f}{ss}:∀i,iA {A with aT:=f} ss i=iA A ss i|0=>rfl|i+1=>by simp only[iA];rw[Bo i];rfl
theorem Tj{A}{f}{m}{bw}:Es pk {A with aT:=f} m bw=Es pk A m bw:=by unfold Es;rw[Bo]
structure adY(pk:List UInt8->List (List UInt8))(A:AD)(o:iQ)(m:MT)(c c':CH)(B:AD):Prop where
 off:B.off=true
 aT:B.aT=0us:B.us.length<1000000
 es:B.es.length<1000000next:∀bs,∃a n us,iW (B.nI bs) pk a n us/\((B.nI bs).recover n us).2=0/\(VI pk ((B.nI bs).recover n us).1 a n us m c\/VI pk ((B.nI bs).recover n us).1 a n us o.m1 c')
theorem ie.any(F:bH pk unpk){A:AD}{m:MT}{o:iQ}{c c':CH}{a n:Nat}{us:List Wr}(I:VI pk A a n us m c)(G:ie A m o c'):((lO pk A a o.m1 o.bw).2=0/\∃a' n' us',VI pk (lO pk A a o.m1 o.bw).1 a' n' us' o.m1 c')\/((lO pk A a o.m1 o.bw).2=6/\(px o.m1).2=0/\adY pk A o m c c' (lO pk A a o.m1 o.bw).1):=by
 obtain⟨h1,h2,h3,h4,h5⟩:=Bk F I.lo I.hi G.ok G.l8 (λw hw=>let⟨a1,a2,a3,a4,_⟩:=G.bw w hw;⟨a1,a2,a3,a4⟩) G.nd G.len;have hR:lO pk A a o.m1 o.bw=A.dm pk a (Es pk A o.m1 o.bw):=by unfold lO;rw[if_pos h1]
 have I0:=I.jt (f:=0);have G0:=G.jt (f:=0);have hR0:lO pk {A with aT:=0} a o.m1 o.bw=({A with aT:=0}:AD).dm pk a (Es pk A o.m1 o.bw):=by unfold lO;rw[if_pos h1,Tj]
 obtain⟨d1,d2,d3,d4,a0,n0,us0,J0⟩:=G0.done F I0 rfl;rw[hR0]at d1 J0;rw[hR];have hbw:∀w∈o.bw,193<=w.1:=λw hw=>(G.bw w hw).1;have hdid:=I0.jd.dm F rfl h4;rcases I.jd.Ju F h4 with R|⟨C,-⟩;.left;obtain⟨a',n',us',J'⟩:=R.jd;refine⟨R.e.trans d1,a',n',us',G.holds I J' R.len R.room ?_⟩;rw[R.es];exact h5.congr (λk hk=>(hdid.yes d1).1 k hk) hbw
 .right;refine⟨C.e,h1,C.off,C.aT,C.us,C.es,λbs=>?_⟩;obtain⟨a',n',us',g,R,hg⟩:=C.next bs;rcases R.recover with⟨r1,r2,r3,r4,r5⟩|⟨hf,-⟩
  .have hl:(((A.dm pk a (Es pk A o.m1 o.bw)).1.nI bs).recover n' us').1.len=A.len:=r3.trans C.len;have hr:(((A.dm pk a (Es pk A o.m1 o.bw)).1.nI bs).recover n' us').1.room=A.room:=r4.trans C.room;refine⟨a',n',us',R.AM,r1,?_⟩;rcases hg with hg|hg
   .left;have hrd:∀k,145<=k->(((A.dm pk a (Es pk A o.m1 o.bw)).1.nI bs).recover n' us').1.read k=A.read k:=λk hk=>by unfold AD.read;rw[r5 k hk,hg k hk]
    refine⟨r2,by rw[hl];exact I.lo,by rw[hl];exact I.hi,by rw[hl,hr];exact I.room,I.l8,by rw[hl];exact I.ok,I.xe,⟨λi hi=>(hrd _ (by omega)).trans (I.qV.at_ i hi)⟩,I.s8,I.agree λl hlm q hq=>?_⟩;unfold cV;rcases I.ok.pl l hlm q hq with rfl|⟨h1,h2⟩;.rw[if_pos rfl,if_pos rfl]
    .rw[if_neg (by omega),if_neg (by omega)];exact hrd q (by omega)
   .right;exact G.holds I r2 hl hr (h5.congr (λk hk=>(r5 k hk).trans (hg k hk)) hbw)
  .exact absurd C.aT hf
section
variable{cp:RC->au}{t:Nat->Option du}{fuel:Nat}{H:Heap}
theorem To(T:aB t)(hc:aM t)(F:bH pk unpk)(hu:t 85=some (.nat (eE unpk))){dp a n}{A}{O}{us}{m}{c}(hD:cB H dp A O)(C:iW A pk a n us)(h0:(A.recover n us).2=0)(I:VI pk (A.recover n us).1 a n us m c)(hfu:1000000<fuel):∃H' O' vp vl vs vi,(∀(d)(k),aj (aS cp t fuel (d+9)) (.func 22 []) [.ptr dp 0] H k=k (.cG [.ptr vp 0,.int 3 0]) H')/\Step H O H' O'/\VP H' dp vp a n (A.recover n us).1 O' m vl vs vi/\H.n<=vp:=by obtain⟨H',O',vp,vl,vs,vi,z,s,D,g,hn,ho,hv,hM,-⟩:=Ae T hc F hu hD C h0 I.jd.off I.lo I.hi (by rw[I.l8];exact I.ok) I.xe I.qV hfu;exact⟨H',O',vp,vl,vs,vi,z,s,⟨D,I.jd.off,I.jd.AM.can,I.lo,I.hi,g,hn,ho,hM,I.xe⟩,hv⟩
structure wA(H:Heap)(dp vp:Nat)(A:AD)(O:Nat->Prop)(m:MT)(vl vs vi:V)(lost:Bool):Prop where
 cK:cB H dp A O
 off:A.off=true
 get:H.get vp=.cells (vc m vl vs vi dp lost)vn:vp<H.n
 vo:¬O vp
theorem wA.fresh{H':Heap}{dp vp:Nat}{A:AD}{O:Nat->Prop}{m:MT}{vl vs vi:V}{lost:Bool}(L:wA H dp vp A O m vl vs vi lost)(f:ah H H'):wA H' dp vp A O m vl vs vi lost:=⟨L.cK.fresh f,L.off,(f.same _ L.vn).trans L.get,YE L.vn f.n,L.vo⟩
theorem sc(T:aB t)(hc:aM t){dp vp}{A}{O}{m}{vl vs vi}{lost}(L:wA H dp vp A O m vl vs vi lost):∃H',(∀(d)(k),aj (aS cp t fuel (d+3)) (.func 102 []) [.ptr vp 0] H k=k (.int 3 6) H')/\wA H' dp vp A O m vl vs vi true/\Step H (bg O vp) H' (bg O vp):=by obtain⟨G1,z1,s1,D1,n1,g1,k1⟩:=iu T hc L.cK L.get L.vn L.vo;rw[L.off,Bool.or_true]at g1;rw[if_pos (YD L.off)]at z1;exact⟨G1,z1,⟨D1,L.off,g1,by rw[n1];exact L.vn,L.vo⟩,s1⟩
theorem OW(T:aB t)(hc:aM t){dp vp}{A}{O}{m}{vl vs vi}{lost}(L:wA H dp vp A O m vl vs vi lost):∃H',(∀(d)(k),aj (aS cp t fuel (d+4)) (.func 46 []) [.ptr vp 0] H k=k (.cG [.aE,.int 3 6]) H')/\wA H' dp vp A O m vl vs vi true/\Step H (bg O vp) H' (bg O vp):=by obtain⟨G1,z1o,L1,s1⟩:=sc (cp:=cp) (fuel:=fuel) T hc L;have z1:=λ{d}{k}=>z1o d k;refine⟨G1,λd k=>?_,L1,s1⟩;rw[aI T.k23 rfl rfl];simp only[go_sem,c23,↓z1]
theorem Kc(T:aB t)(hc:aM t){dp vp l b x}{A}{O}{m}{vl vs vi}{lost}(L:wA H dp vp A O m vl vs vi lost):∃H',(∀(d)(k),aj (aS cp t fuel (d+4)) (.func 48 []) [.ptr vp 0,.int 3 b,.str l x] H k=k (.int 3 6) H')/\wA H' dp vp A O m vl vs vi true/\Step H (bg O vp) H' (bg O vp):=by obtain⟨G0,hG0,f0,p0,n0⟩:=Heap.aV L.cK.wf (.cells [.int 3 b]);have w0:=L.cK.wf;obtain⟨G1,z1o,L1,s1⟩:=sc (cp:=cp) (fuel:=fuel) T hc (L.fresh f0);have z1:=λ{d}{k}=>z1o d k;refine⟨G1,λd k=>?_,L1,f0.step.trans s1⟩;rw[aI T.k24 rfl rfl];simp only[go_sem,c24,w0,hG0,↓z1]
theorem GY(T:aB t)(hc:aM t){dp vp}{A}{O}{m}{vl vs vi}{lost}(L:wA H dp vp A O m vl vs vi lost):∃H',(∀(d)(k),aj (aS cp t fuel (d+4)) (.func 50 []) [.ptr vp 0] H k=k (.int 3 6) H')/\wA H' dp vp A O m vl vs vi true/\Step H (bg O vp) H' (bg O vp):=by obtain⟨G1,z1o,L1,s1⟩:=sc (cp:=cp) (fuel:=fuel) T hc L;have z1:=λ{d}{k}=>z1o d k;refine⟨G1,λd k=>?_,L1,s1⟩;rw[aI T.k25 rfl rfl];simp only[go_sem,c25,↓z1]
theorem aed(T:aB t){p r}{A}{O}(h:cB H p A O)(hr:nn r):∃H',(∀(d)(k),aj (aS cp t fuel (d+1)) (.func 44 []) [.ptr p 0,.int 3 r] H k=k (.cG []) H')/\cB H' p {A with aT:=r} O/\Step H O H' O:=by
 obtain⟨D,h,h1,h2,h3,h4,rfl⟩:=h;obtain⟨g1,g2⟩:=cB.put h h.hr hr;have hw:=h.wf;have hp:=h.hp;have hg:=h.hg;refine⟨_,λd k=>?_,⟨_,g1,h1,h2,rfl,h4,rfl⟩,g2⟩;have h5:nn 0:=by unfold nn;simp
 have h6:max r 0=r:=by omega
 rw[ax T.k22 rfl rfl];simp only[go_sem,c22,DR.cQ,hg,hw,hp,hr,h5,h6]
theorem abk(T:aB t){p}{A}{O}(h:cB H p A O):∃H',(∀(d)(k),aj (aS cp t fuel (d+1)) (.func 52 []) [.ptr p 0] H k=k (.cG []) H')/\cB H' p {A with aT:=0,off:=true} O/\Step H O H' O:=by obtain⟨D,h,h1,h2,h3,h4,rfl⟩:=h;obtain⟨g1,g2⟩:=cB.put h (f:=0) h.hr (by unfold nn;omega);have hw:=h.wf;have hp:=h.hp;have hg:=h.hg;refine⟨_,λd k=>?_,⟨_,g1,h1,h2,rfl,rfl,rfl⟩,g2⟩;rw[ax T.k26 rfl rfl];simp only[go_sem,c26,DR.cQ,hg,hw,hp]
theorem Rb{A:AD}(ho:A.off=false)(hu:A.us=[])(bs):({A with aT:=0,off:=true}:AD).nI bs={A with aT:=0}:=by cases A;subst ho hu;rfl
theorem Pd{A}(ho:A.off=true)(hf:A.aT=0):({A with aT:=0,off:=true}:AD)=A:=by cases A;simp_all
end
end Go.Ev
end
section
namespace Go.Ev
open Go.Proofs
section
variable{t:Nat->Option du}{fuel:Nat}{H:Heap}{pk:List UInt8->List (List UInt8)}{unpk:List (List UInt8)->Option (List UInt8)}
variable{X:Nat->Prop}{dp vp p a n:Nat}{A:AD}{O:Nat->Prop}{m:MT}{vl vs vi v:V}{c:CH}{us:List Wr}
theorem PD.dsk{H':Heap}{lost:Bool}{A':AD}{O':Nat->Prop}(P:PD H X dp vp p A O m vl vs vi lost c v)(s:Step H O H' O')(D:cB H' dp A' O'):PD H' X dp vp p A' O' m vl vs vi lost c v:=by
 have hd:∀b,CQ p v b->¬O b:=λb hb h=>P.Rf b hb (YF h);have sv:=s.same vp P.vn P.vo;refine⟨D,sv.1.trans P.get,YE P.vn s.n,sv.2,P.nx.bU s.Ag.or,(P.ch.bU s hd).1,λb hb h=>?_,λb hb=>YE (P.xn b hb) s.n,P.xc,λb hb h=>?_⟩
 .rcases h with h|h;.exact(s.same b (P.ch.lt b hb) (hd b hb)).2 h
  .exact P.Rf b hb (YD h)
 .rcases h with h|h;.exact(s.same b (P.xn b hb) λh=>P.xo b hb (YF h)).2 h
  .exact P.xo b hb (YD h)
theorem PS{kd nb lt next k}:(pe k m kd nb lt next).e0≠6:=by
 unfold pe;split
 .show(if¬nb%9<8then 2 else if iN m k (nb%9) (dT (lt%200))then 7 else 0)≠6;split;.omega
  .split<;>omega
 split
 .show(if ek (1,next) (df m).g=false then 2 else if 20<=m.ae.length then 3 else 0)≠6;split;.omega
  .split<;>omega
 split;.show(if m.ae.length<nb%6then 2 else 0)≠6;split<;>omega
 split
 .show(cW m (1,nb%8)).2≠6;unfold cW;split;.simp
  .split;.simp
   simp
 .show(if uW m (xj m next)≠0then uW m (xj m next)else if kh m k [(nb%8,dT (lt%200))]then 7 else 0)≠6;have hs:uW m (xj m next)=3\/uW m (xj m next)=0:=by unfold uW;split<;>simp
  rcases hs with hs|hs;.simp_all
  .rw[hs,if_neg (by omega)];split<;>omega
theorem Jx(T:aB t)(hc:aM t)(F:bH pk unpk)(hp:t 110=some (.nat (dO pk)))(P:PD H X dp vp p A O m vl vs vi false c v)(I:VI pk A a n us m c)(h400:A.len=400){kd nb lt next:Nat}(N:NI m next)(h1:0<next)(hnx:next<1000)(hkd:kd<256)(hnb:nb<256)(hlt:lt<256)(hfu:1000000<fuel):∃H' O' vl' vs' vi' v' A' ch1 E F',(∀(d:Nat)(k:K),aj (aS (aO Tryz.prog) t fuel (d+10)) (.func 20 []) [.ptr vp 0,.ptr p 0,.agg [.int 4 kd,.int 4 nb,.int 4 lt],.int 7 next] H k=k (.cG [.int 3 E,.int 3 F']) H')/\Step H (PQ vp p O v) H' (PQ vp p O' v')/\((E=F'/\E≠6/\∃m' a' n' us',PD H' X dp vp p A' O' m' vl' vs' vi' false ch1 v'/\VI pk A' a' n' us' m' ch1)\/(E=6/\F'=0/\∃o lost,PD H' X dp vp p A' O' m vl' vs' vi' lost ch1 v'/\ch1.size=8/\adY pk A o m c ch1 A')):=by
 obtain⟨⟨H',O',vl',vs',vi',v',z,P',s⟩,hR⟩:=Iu T hc F hp P I N h1 hnx hkd hnb hlt hfu;have hroom:(pe A.len m kd nb lt next).e0≠7:=zS I h400;have h6:(pe A.len m kd nb lt next).e0≠6:=PS;generalize pe A.len m kd nb lt next=o at z P' hR hroom h6;generalize It c kd nb lt next=r at z P' hR;rcases hR with⟨h0,h7,hr⟩|h7|⟨h0,hr,G,N1⟩
 .have e1:o.E pk A a=o.e0:=by unfold iQ.E;simp_all
  have e2:o.A1 pk A a=A:=by unfold iQ.A1;simp_all
  have e3:o.M pk A a m=m:=by unfold iQ.M;simp_all
  have e4:o.L pk A a=false:=by unfold iQ.L;simp_all
  rw[e1]at z;rw[e2,e3,e4]at P';subst hr;exact⟨H',O',vl',vs',vi',v',A,c,o.e0,o.e0,z,s,YF ⟨rfl,h6,m,a,n,us,P',I⟩⟩
 .omega
 .have hn:¬o.e0≠0:=λh=>h h0;have e1:o.E pk A a=(lO pk A a o.m1 o.bw).2:=by unfold iQ.E;simp_all
  have e2:o.A1 pk A a=(lO pk A a o.m1 o.bw).1:=by unfold iQ.A1;simp_all
  have e3:o.M pk A a m=CC pk A a m o.m1 o.bw:=by unfold iQ.M;simp_all
  rw[e1,hr]at z;rw[e2,e3]at P';rcases G.any F I with⟨g1,a',n',us',I'⟩|⟨g1,g2,C⟩
  .have e4:o.L pk A a=false:=by unfold iQ.L Ti;simp_all
   have e5:CC pk A a m o.m1 o.bw=o.m1:=by unfold CC;simp_all
   rw[e4,e5]at P';rw[g1]at z;exact⟨H',O',vl',vs',vi',v',_,r.1,0,0,z,s,YF ⟨rfl,by omega,o.m1,a',n',us',P',I'⟩⟩
  .have e5:CC pk A a m o.m1 o.bw=m:=by unfold CC;simp_all
   rw[e5]at P';rw[g1]at z;exact⟨H',O',vl',vs',vi',v',_,r.1,6,0,z,s,YD ⟨rfl,rfl,o,_,P',G.s8,C⟩⟩
theorem Jw(T:aB t)(hc:aM t)(F:bH pk unpk)(hp:t 110=some (.nat (dO pk))){G0:Heap}{lv v2 v4:V}{ds:List D3}{dp vp p:Nat}(hl:vk H lv ds)(h0:∃A O m vl vs vi c v a n us,LI pk H G0 (λ_=>False) dp vp p A O m vl vs vi c v a n us 1/\A.len=400)(hfu:1000000<fuel):∃G' next,0<next/\next<14/\(∃A O m vl vs vi c v a n us,LI pk H G' (λ_=>False) dp vp p A O m vl vs vi c v a n us next/\A.len=400)/\∀(d:Nat)(kx:Nat->KE)(e:Env)(x:R),af s000 e=lv->af s002 e=v2->af s004 e=v4->af s007 e=.ptr dp 0->af s010 e=.ptr vp 0->af s011 e=.ptr p 0->af s012 e=.int 7 1->af s013 e=.int 3 0->(∀e',af s002 e'=v2->af s004 e'=v4->af s007 e'=.ptr dp 0->af s010 e'=.ptr vp 0->af s011 e'=.ptr p 0->af s012 e'=.int 7 next->kx 1 e' G'=x)->kq Jm fuel (aS (aO Tryz.prog) t fuel (d+10)) kx fuel e G0=x:=by
 have hn:=hl.n;obtain⟨_,G',hL,z⟩:=bK (c:=Jm) (fuel:=fuel) (ph:=λd=>aS (aO Tryz.prog) t fuel (d+10)) (n:=min ds.length 12) (I:=λi _ G=>∃A O m vl vs vi c v a n us,LI pk H G (λ_=>False) dp vp p A O m vl vs vi c v a n us (i+1)/\A.len=400) (S:=λi _ e=>af s000 e=lv/\af s002 e=v2/\af s004 e=v4/\af s007 e=.ptr dp 0/\af s010 e=.ptr vp 0/\af s011 e=.ptr p 0/\af s012 e=.int 7 (i+1)/\af s013 e=.int 3 i) (λi _ G hin⟨A,O,m,vl,vs,vi,c,v,a,n,us,L,h400⟩=>by
   have hil:i<ds.length:=by omega
   have hi30:i<12:=by omega
   have hdx:=YA hil;obtain⟨hx1,hx2,hx3⟩:=hl.lt _ (YT hil);have hrow:=hl.row.fresh L.fresh;have hsn:=λ{id}{f}=>hrow.sn (id:=id) (f:=f);obtain⟨bL,oL,cL,zL,hvL,hbL,-,hrL⟩:=hrow.open hil;rw[yc hdx]at hrL;have hrL:=λ{id}{k}=>(hrL rfl).1 (id:=id) (k:=k);generalize ds[i]=x at hx1 hx2 hx3 hrL;obtain⟨G1,A1,O1,vl1,vs1,vi1,v1,m1,ch1,ch2,E,F',a1,n1,us1,z1o,P1,s1,I1,f1,l1,r1,N1,hE,h7⟩:=Vw T hc F hp L.pd L.vi L.aT L.ni (by omega) (by omega) hx1 hx2 hx3 hfu;have z1:=λ{d}{k}=>z1o d k;clear z1o;obtain⟨rfl,rfl⟩:E=F'/\ch2=ch1:=by
    rcases hE with h|h;.exact⟨h.2.1,h.2.2⟩
    .exact absurd h.1 (h7 h400)
   obtain⟨fr1,own1⟩:=L.fresh.own s1 L.own;have b1:=l_ i;have b2:=m_ (i+1);have b3:=n_ i;have b4:=by omega
   have b5:=m_ (i+2);simp only[TN]at hrL;refine⟨(),G1,⟨A1,O1,m1,vl1,vs1,vi1,ch2,v1,a1,n1,us1,⟨P1,I1,f1,N1,fr1,own1⟩,l1.trans h400⟩,λd kx r e x⟨q0,q2,q4,q7,q10,q11,q12,q13⟩hk=>?_⟩;rw[hvL]at q0 hsn;rw[ak];simp only[go_sem,ZE,Jm,q0,q10,q11,q12,q13,↓hsn,hn,hil,hi30,b1,b2,b3,b5,↓hrL,↓z1];exact hk _ (by simp only[go_sem,q0,q2,q4,q7,q10,q11,hvL,and_self])) (min ds.length 12) 0 () G0 (by omega) h0;have hL0:=hL;obtain⟨_,_,_,_,_,_,_,_,_,_,_,L,_⟩:=hL0;refine⟨G',min ds.length 12+1,by omega,by omega,hL,λd kx e x q0 q2 q4 q7 q10 q11 q12 q13 hk=>?_⟩;refine z d kx fuel e x (by omega) ⟨q0,q2,q4,q7,q10,q11,q12,q13⟩ λr e'⟨q0,q2,q4,q7,q10,q11,q12,q13⟩=>?_;have hsn:=λ{id}{f}=>hl.row.sn (id:=id) (f:=f);rw[ak];have b1:=n_ (min ds.length 12);have fin:∀{e'},af s002 e'=v2->af s004 e'=v4->af s007 e'=.ptr dp 0->af s010 e'=.ptr vp 0->af s011 e'=.ptr p 0->af s012 e'=.int 7 (min ds.length 12+1)->kx 1 e' G'=x:=hk _;by_cases h30:ds.length<12
 .have e1:min ds.length 12=ds.length:=by omega
  have e2:¬ds.length<ds.length:=YD2 _;rw[e1]at q13 b1 q12 fin;simp only[go_sem,Jm,q0,q13,↓hsn,hn,b1,e2];exact fin q2 q4 q7 q10 q11 q12
 .have e1:min ds.length 12=12:=by omega
  rw[e1]at q13 b1 q12 fin;by_cases h31:ds.length=12
  .have e2:=by omega
   simp only[go_sem,ZE,Jm,q0,q13,↓hsn,b1,e2];exact fin q2 q4 q7 q10 q11 q12
  .have e2:12<ds.length:=by omega
   simp only[go_sem,Jm,q0,q13,↓hsn,hn,b1,e2,YD2];exact fin q2 q4 q7 q10 q11 q12
end
section
variable{t:Nat->Option du}{fuel:Nat}{H:Heap}{pk:List UInt8->List (List UInt8)}{unpk:List (List UInt8)->Option (List UInt8)}
theorem sJ.sn{v:V}{bs:List Bool}(h:sJ H v bs){id:Nat}{f:Nat->R}:bC id v (λ_ _ len _ _=>f len) (f 0)=f bs.length:=by rcases h with⟨rfl|⟨_,_,_,_,rfl⟩,rfl⟩|⟨_,_,_,_,_,rfl,_⟩<;>rfl
theorem sJ.one{v:V}{bs:List Bool}(h:sJ H v bs):v.one=true:=by rcases h with⟨rfl|⟨_,_,_,_,rfl⟩,rfl⟩|⟨_,_,_,_,_,rfl,_⟩<;>rfl
theorem OG{kv v4 v7 v10 v11 v12:V}{bs:List Bool}(hk:sJ H kv bs)(hkn:bs.length<9223372036854775808)(hfu:1000<fuel):∃f,f<32/\∀(d:Nat)(kx:Nat->KE)(e:Env)(x:R),af s002 e=kv->af s004 e=v4->af s007 e=v7->af s010 e=v10->af s011 e=v11->af s012 e=v12->af s014 e=.int 3 1->af s015 e=.int 3 0->(∀e',af s002 e'=kv->af s004 e'=v4->af s007 e'=v7->af s010 e'=v10->af s011 e'=v11->af s012 e'=v12->af s014 e'=.int 3 f->kx 3 e' H=x)->kq Fj fuel (aS (aO Tryz.prog) t fuel d) kx fuel e H=x:=by
 have hsn:=λ{id}{f}=>hk.sn (id:=id) (f:=f);obtain⟨f,G',⟨hG,hf⟩,z⟩:=bK (c:=Fj) (fuel:=fuel) (ph:=λd=>aS (aO Tryz.prog) t fuel d) (n:=min bs.length 30) (I:=λi f G=>G=H/\f<=i+1) (S:=λi f e=>af s002 e=kv/\af s004 e=v4/\af s007 e=v7/\af s010 e=v10/\af s011 e=v11/\af s012 e=v12/\af s014 e=.int 3 f/\af s015 e=.int 3 i) (λi f G hin⟨hG,hf⟩=>by
   subst hG;have hil:i<bs.length:=by omega
   have hi30:i<30:=by omega
   have hbx:=YA hil;have b1:=l_ i;have b2:=m_ (i+1);have b3:=n_ i;have b4:=m_ (f+1);rcases hk with⟨-,rfl⟩|⟨b,o,c,s,row,rfl,hr,hb,hx⟩;.simp at hil
   have hrd:=λ{id}{k}=>sg (id:=id) (k:=k) hr (hx i _ hbx) rfl;generalize bs[i]=y at hrd;rcases y with _|_;.refine⟨f,G,⟨rfl,by omega⟩,λd kx r e x⟨q2,q4,q7,q10,q11,q12,q14,q15⟩hk=>?_⟩;rw[ak];simp only[go_sem,ZE,Fj,q2,q15,↓hsn,hkn,hil,hi30,b1,b2,b3,↓hrd];exact hk _ (by simp only[go_sem,q2,q4,q7,q10,q11,q12,q14,and_self])
   .refine⟨f+1,G,⟨rfl,by omega⟩,λd kx r e x⟨q2,q4,q7,q10,q11,q12,q14,q15⟩hk=>?_⟩;rw[ak];simp only[go_sem,ZE,Fj,q2,q14,q15,↓hsn,hkn,hil,hi30,b1,b2,b3,b4,↓hrd];exact hk _ (by simp only[go_sem,q2,q4,q7,q10,q11,q12,and_self])) (min bs.length 30) 0 1 H (by omega) ⟨rfl,by omega⟩;subst hG;refine⟨f,by omega,λd kx e x q2 q4 q7 q10 q11 q12 q14 q15 hk'=>?_⟩;refine z d kx fuel e x (by omega) ⟨q2,q4,q7,q10,q11,q12,q14,q15⟩ λr e'⟨q2,q4,q7,q10,q11,q12,q14,q15⟩=>?_;rw[ak];have b1:=n_ (min bs.length 30);by_cases h30:bs.length<30
 .have e1:min bs.length 30=bs.length:=by omega
  have e2:¬bs.length<bs.length:=YD2 _;rw[e1]at q15 b1;simp only[go_sem,Fj,q2,q15,↓hsn,hkn,b1,e2];exact hk' _ q2 q4 q7 q10 q11 q12 q14
 .have e1:min bs.length 30=30:=by omega
  rw[e1]at q15 b1;by_cases h31:bs.length=30
  .have e2:=by omega
   simp only[go_sem,ZE,Fj,q2,q15,↓hsn,b1,e2];exact hk' _ q2 q4 q7 q10 q11 q12 q14
  .have e2:30<bs.length:=by omega
   simp only[go_sem,Fj,q2,q15,↓hsn,hkn,b1,e2,YD2];exact hk' _ q2 q4 q7 q10 q11 q12 q14
theorem aap(T:aB t)(hc:aM t){dp vp p a n}{A}{O}{m}{vl vs vi v}{c c0}{us}(S:VP H dp vp a n A O m vl vs vi)(I:VI pk A a n us m c0)(C:iO H p c v)(hd:∀b,CQ p v b->¬bg O vp b)(hs:c.size=8)(hfu:1000<fuel):∃H' b,(∀(d)(k),aj (aS (aO Tryz.prog) t fuel (d+6)) (.func 24 []) [.ptr vp 0,.ptr p 0] H k=k (.bool b) H')/\VP H' dp vp a n A O m vl vs vi/\Step H (bg O vp) H' (bg O vp)/\(gE A m c->b=true):=by obtain⟨H',b,z,V',hb⟩:=Lr T hc S C hd I.l8 hs (λq hq=>by have:=I.ok.live.pl q hq;have:=I.lo;omega) (λs hs q hq=>by have:=(I.ok.ae.mem hs).pl q hq;have:=I.lo;omega) (λs hs=>by rw[(I.ok.ae.mem hs).len,I.l8]) hfu;exact⟨H',b,z,V'.vp,V'.st,hb⟩
theorem wO(T:aB t)(hc:aM t)(F:bH pk unpk)(hp:t 110=some (.nat (dO pk)))(hu:t 85=some (.nat (eE unpk)))(hwk:t 7=some (.nat yT))(hcm:t 74=some (.nat uL))(hca:aO Tryz.prog oT.1=Ji)(hcb:aO Tryz.prog oT.2=EW)(hw:H.wf){lv kv:V}{ds:List D3}{bs:List Bool}{kd nb lt:Nat}(hl:vk H lv ds)(hkd:kd<256)(hnb:nb<256)(hlt:lt<256)(hk:sJ H kv bs)(hkn:bs.length<9223372036854775808)(hfu:1000000<fuel)(d:Nat)(k:K)(x:R)(hx:∀H',ah H H'->k (.bool true) H'=x):aj (aS (aO Tryz.prog) t fuel (d+12)) (.func 12 []) [lv,.agg [.int 4 kd,.int 4 nb,.int 4 lt],kv] H k=x:=by
 obtain⟨Hb,hHb,fb,pb,nb'⟩:=Heap.aV hw (.cells [.int 4 kd,.int 4 nb,.int 4 lt]);obtain⟨G1,G2,dp,vp,p,z1o,z2o,hL⟩:=RT T hc F hp hu fb.wf hfu;obtain⟨G3,next,hn1,hn2,⟨A,O,m,vl,vs,vi,c,v,a,n,us,L,h400⟩,z3⟩:=Jw (v2:=kv) (v4:=.ptr H.n 0) T hc F hp (hl.fresh fb) hL hfu;obtain⟨f,hf,z4⟩:=OG (fuel:=fuel) (v4:=.ptr H.n 0) (v7:=.ptr dp 0) (v10:=.ptr vp 0) (v11:=.ptr p 0) (v12:=.int 7 next) ((hk.fresh fb).fresh L.fresh) hkn (by omega);obtain⟨G4,q,v0,z5o,f5,C0,hq⟩:=Jp (cp:=aO Tryz.prog) (fuel:=fuel) T L.pd.ch;have P4:=L.pd.more f5 C0 hq;obtain⟨G5,z6o,D5,s6⟩:=aed (cp:=aO Tryz.prog) (fuel:=fuel) (r:=f) T P4.cK (by unfold nn;omega);have P5:=P4.dsk s6 D5;have C5:=(C0.bU s6 λb hb h=>P4.xo b hb (YF h)).1;have I5:=L.vi.jt (f:=f);obtain⟨fr4,ow4⟩:ah Hb G4/\∀b,PQ vp p O v b->Hb.n<=b:=⟨L.fresh.trans f5,L.own⟩;obtain⟨fr5,-⟩:=fr4.own s6 λb hb=>ow4 b (YD (YF hb));obtain⟨G6,O6,vl6,vs6,vi6,v6,A6,ch6,E,F',z7o,s7,hR⟩:=Jx T hc F hp P5 I5 h400 L.ni hn1 (by omega) hkd hnb hlt hfu;obtain⟨fr6,ow6⟩:=fr5.own s7 ow4;have hbn:H.n<Hb.n:=by omega
 have p5:G5.get H.n=.cells [.int 4 kd,.int 4 nb,.int 4 lt]:=(fr5.same _ hbn).trans pb;have z0:=λ{d:Nat}{k:K}{G:Heap}=>Em (fuel:=fuel) hwk (cp:=aO Tryz.prog) d k G;have z1:=λ{k:K}=>z1o (d+1) k;have z2:=λ{k:K}=>z2o (d+9) k;have z5:=λ{k:K}=>z5o (d+9) k;have z6:=λ{k:K}=>z6o (d+10) k;have z7:=λ{k:K}=>z7o (d+1) k;have j0:=λ{id:Nat}{k:R}=>aP hl.row.one (id:=id) (k:=k);have j2:=λ{id:Nat}{k:R}=>aP hk.one (id:=id) (k:=k);rw[aI T.k6 rfl rfl];simp only[go_sem,c6,aeK,aeL,hw,hHb,↓z0,↓z1];simp only[go_sem,aeM,aeN,aeO,aeP,↓z2];refine z3 (d+1) _ _ _ ?_ ?_ ?_ ?_ ?_ ?_ ?_ ?_ λe' q2 q4 q7 q10 q11 q12=>?_;all_goals first|(simp only[go_sem];done)|skip
 simp only[go_sem,aeQ,aeR];refine z4 (d+11) _ _ _ ?_ ?_ ?_ ?_ ?_ ?_ ?_ ?_ λe'' q2 q4 q7 q10 q11 q12 q14=>?_;all_goals first|(simp only[go_sem,q2,q4,q7,q10,q11,q12];done)|skip
 simp only[go_sem,aeS,aa6,aa7,q4,q7,q10,q11,q12,q14,↓z5,↓z6,p5,↓z7];rcases hR with⟨rfl,h6,m',a',n',us',P6,I6⟩|⟨rfl,rfl,o,lost,P6,hs8,C⟩
 .obtain⟨G7,z8o,D7,s8⟩:=abk (cp:=aO Tryz.prog) (fuel:=fuel) T P6.cK;have P7:=P6.dsk s8 D7;obtain⟨fr7,ow7⟩:=fr6.own s8 λb hb=>ow6 b (YD (YF hb));have z8:=λ{k:K}=>z8o (d+10) k;have e6:(E=6)=False:=eq_false h6;simp only[go_sem,Ta,Tb,e6];simp only[go_sem,Tc,q7,↓z8];simp only[go_sem,Td,q2,q7];refine Ck T hcm hca hcb D7 rfl (by show A6.us.length<_;rw[I6.jd.us];simp) (by show A6.es.length<_;have:=I6.jd.keys.length;have:=I6.hi;omega) ((hk.fresh fb).fresh fr7) hkn hfu (d+8) _ x λG8 O8 s9 D8=>?_;rw[Rb I6.jd.off I6.jd.us]at D8;have P8:=P7.dsk s9 D8;obtain⟨fr8,ow8⟩:=fr7.own s9 ow7;obtain⟨G9,O9,A9,vp9,vl9,vs9,vi9,z10o,P9,I9,-,-,-,s10,hv9⟩:=Po (cp:=aO Tryz.prog) T hc F hu P8 (I6.jt) rfl hfu;have z10:=λ{k:K}=>z10o (d+2) k;obtain⟨fr9,ow9⟩:=fr8.own s10 ow8;obtain⟨Ga,bb,z11o,Pa,s11,hb⟩:=af1 (cp:=aO Tryz.prog) (fuel:=fuel) T hc P9 I9 I9.s8 (by omega);have z11:=λ{k:K}=>z11o (d+5) k;obtain rfl:bb=true:=hb I9.ag;obtain⟨fra,-⟩:=fr9.own s11 λb hb=>hb.elim (ow9 b) λe=>by rw[e];exact Yr fr8.n hv9
  simp only[go_sem,LR,LU,LV,q7,q11,↓z10,e6,↓z11];exact hx _ (fb.trans fra)
 .have L6:wA G6 dp vp A6 O6 m vl6 vs6 vi6 lost:=⟨P6.cK,C.off,P6.get,P6.vn,P6.vo⟩;have C6:=(C5.bU s7 λb hb h=>h.elim (P5.xc b hb) (P5.xo b hb)).1;obtain⟨G7,z8o,L7,s8⟩:=OW (cp:=aO Tryz.prog) (fuel:=fuel) T hc L6;obtain⟨G8,z9o,f9⟩:=qI (cp:=aO Tryz.prog) (fuel:=fuel) (c:=97) T L7.cK.wf (by omega) (by omega);obtain⟨G9,z10o,L9,s10⟩:=Kc (cp:=aO Tryz.prog) (fuel:=fuel) (l:=32) (b:=0) (x:=enc (eR 97 32)) T hc (L7.fresh f9);obtain⟨Ga,z11o,La,s11⟩:=GY (cp:=aO Tryz.prog) (fuel:=fuel) T hc L9;have sA:Step G6 (bg O6 vp) Ga (bg O6 vp):=s8.trans (f9.step.trans (s10.trans s11));obtain⟨fra,owa⟩:=fr6.own sA λb hb=>ow6 b (YD hb);obtain⟨Gb,z12o,Db,s12⟩:=abk (cp:=aO Tryz.prog) (fuel:=fuel) T La.cK;rw[Pd C.off C.aT]at Db;obtain⟨frb,owb⟩:=fra.own s12 λb hb=>owa b (YF hb);have z8:=λ{k:K}=>z8o (d+7) k;have z9:=λ{k:K}=>z9o (d+10) k;have z10:=λ{k:K}=>z10o (d+7) k;have z11:=λ{k:K}=>z11o (d+7) k;have z12:=λ{k:K}=>z12o (d+10) k;have p1:=P6.ch.bU sA P6.Rf;have p2:=p1.1.bU s12 λb hb h=>p1.2 b hb (YF h);have c1':=C6.bU sA P6.xo;have c2':=c1'.1.bU s12 λb hb h=>c1'.2 b hb (YF h);simp only[go_sem,Ta,Tb,q10,↓z8,↓z9,↓z10,↓z11];simp only[go_sem,Tc,q7,↓z12];simp only[go_sem,Td,q2,q7];refine Ck T hcm hca hcb Db C.off C.us C.es ((hk.fresh fb).fresh frb) hkn hfu (d+8) _ x λGc Oc s13 Dc=>?_;obtain⟨frc,owc⟩:=frb.own s13 owb;have p3:=p2.1.bU s13 p2.2;have c3':=c2'.1.bU s13 c2'.2;obtain⟨a',n',us',CR,h0,hI⟩:=C.next bs;obtain⟨m',c',I',hor⟩:∃m' c',VI pk ((A6.nI bs).recover n' us').1 a' n' us' m' c'/\(c'=c\/c'=ch6):=by
   rcases hI with I'|I';.exact⟨m,c,I',YF rfl⟩
   .exact⟨o.m1,ch6,I',YD rfl⟩
  obtain⟨Gd,Od,vpd,vld,vsd,vid,z13o,s14,Sd,hvd⟩:=To (cp:=aO Tryz.prog) T hc F hu Dc CR h0 I' hfu;have z13:=λ{k:K}=>z13o (d+2) k;obtain⟨frd,owd⟩:=frc.own s14 owc;have p4:=p3.1.bU s14 p3.2;have c4':=c3'.1.bU s14 c3'.2;have dp4:∀b,CQ p v6 b->¬bg Od vpd b:=λb hb h=>h.elim (p4.2 b hb) λe=>by have:=p3.1.lt b hb;omega
  have dc4:∀b,CQ q v0 b->¬bg Od vpd b:=λb hb h=>h.elim (c4'.2 b hb) λe=>by have:=c3'.1.lt b hb;omega
  obtain⟨Ge,b1,z14o,Se,s15,hb1⟩:=aap (fuel:=fuel) T hc Sd I' c4'.1 dc4 L.vi.s8 (by omega);have z14:=λ{k:K}=>z14o (d+5) k;have owd':∀b,bg Od vpd b->Hb.n<=b:=λb hb=>hb.elim (owd b) λe=>by rw[e];exact Yr frc.n hvd
  obtain⟨fre,-⟩:=frd.own s15 owd';have p5':=p4.1.bU s15 dp4;obtain⟨Gf,b2,z15o,Sf,s16,hb2⟩:=aap (fuel:=fuel) T hc Se I' p5'.1 p5'.2 hs8 (by omega);have z15:=λ{k:K}=>z15o (d+5) k;obtain⟨frf,-⟩:=fre.own s16 owd';rcases b1 with _|_
  .have hb2':b2=true:=by
    rcases hor with rfl|rfl;.exact absurd (hb1 I'.ag) (by simp)
    .exact hb2 I'.ag
   subst hb2';simp only[go_sem,LR,LU,LV,Te,Tf,q7,q11,↓z13,↓z14,↓z15];exact hx _ (fb.trans frf)
  .simp only[go_sem,LR,LU,LV,Te,Tf,q7,↓z13,↓z14];exact hx _ (fb.trans fre)
end
end Go.Ev
end
section
namespace Go.Ev
open Go.Deep Go.ChangeShapes Go.WideShapes Go.RowKit
section
variable{H:Type}{enc:TypeId×Value->H}{P:Program}{w:World}
theorem Ug{t e:TypeId}{fuel:Nat}{v:Value}{x:DataW H×List MemPlace}(ht:P.underlying t=some (.slice e))(hz:P.cellsOf e=1)(he:P.underlying e=some .bool)(h:DataW.trod enc P w 0 (λ_=>true) true fuel t [v]=some x)(hnf:w.noneFrozen x.2):(tX w.heap.size v).one=true/\∃bs,sJ (eY w) (tX w.heap.size v) bs/\bs.length<9223372036854775808:=by
 obtain⟨h1,h2⟩:=zP ht hz (by omega) h hnf (λ_ _ _ _ _ hb=>(show False from hb).elim);refine⟨h1,?_⟩;rcases h2 with h2|⟨b,o,len,c,row,hl0,hl,hv,hb,hbn,hx⟩;.exact⟨[],YF ⟨h2,rfl⟩,by simp⟩
 have each:∀i,i<len->∃p:Bool,row[o+i]?=some (.bool p):=λi hi=>by obtain⟨cs,n,y,hlen,hcs,htr,_⟩:=hx i hi;match cs,hlen with|[v0],_=>obtain⟨b0,e0,_⟩:=DataW.trod_bool he htr;cases e0;have:=hcs 0 _ rfl;rw[Nat.mul_one,Nat.add_zero,VT]at this;exact⟨b0,this⟩
 obtain⟨p,hp⟩:=choose_lt each;refine⟨(List.range len).map p,YD ⟨b,o,c,0,row,by rw[hv];simp,YD hb,hbn,λi x hi=>?_⟩,by rw[Yg,List.length_range];omega⟩;obtain⟨h3,rfl⟩:=yx hi;exact hp i h3
theorem XM{t:TypeId}{k0 k1 k2:Field}{fuel:Nat}{cs:List Value}{x:DataW H×List MemPlace}(ht:P.underlying t=some (.struct #[k0,k1,k2]))(hz:P.cellsOf t=3)(ko0:k0.offset=0)(ko1:k1.offset=1)(ko2:k2.offset=2)(kc0:P.cellsOf k0.type=1)(kc1:P.cellsOf k1.type=1)(kc2:P.cellsOf k2.type=1)(ku0:P.underlying k0.type=some (.int .u8))(ku1:P.underlying k1.type=some (.int .u8))(ku2:P.underlying k2.type=some (.int .u8))(h:DataW.trod enc P w 0 (λ_=>true) true fuel t cs=some x):∃a b c:Int,cs=[.int .u8 a,.int .u8 b,.int .u8 c]/\(Lit.int .u8 a).wf=true/\(Lit.int .u8 b).wf=true/\(Lit.int .u8 c).wf=true:=by obtain⟨xs,n',_,rfl,hlen,hxl,hf⟩:=DataW.trod_struct ht h;rw[hz]at hlen;have hxl:xs.length=3:=hxl;match cs,hlen,xs,hxl with|[w0,w1,w2],_,[y0,y1,y2],_=>have a0:=hf 0 k0 rfl;have a1:=hf 1 k1 rfl;have a2:=hf 2 k2 rfl;simp[ko0,kc0]at a0;simp[ko1,kc1]at a1;simp[ko2,kc2]at a2;obtain⟨n0,e0,_,x0⟩:=DataW.trod_int ku0 a0;obtain⟨n1,e1,_,x1⟩:=DataW.trod_int ku1 a1;obtain⟨n2,e2,_,x2⟩:=DataW.trod_int ku2 a2;cases e0;cases e1;cases e2;exact⟨n0,n1,n2,rfl,x0,x1,x2⟩
end
end Go.Ev
end
