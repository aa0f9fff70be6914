/- EvD: a part of the evaluator,of its logic,or of the laws' walk in it. -/
import Derived.Test.YtabnemidjklolaaGreatDoorEvC
import Derived.LoopNIn
import Derived.RangeFuncIn
import Derived.RangeFuncRecord
import Derived.RangeFuncNested
import Derived.Laws.Sem
import Derived.RangeFuncLeaves
open List renaming getElem?_eq_getElem→YA,mem_cons_of_mem→YI,mem_cons_self→YL,mem_map→Ye,length_map→Yj,mem_of_getElem?→Yk,getElem?_map→Yq,getElem?_eq_none→WJ,all_eq_true→WL,mem_zipIdx_iff_getElem?→WS,nodup_cons→WY,mem_filter→Wp,mem_filterMap→Qr,filterMap_cons→YA4
open Nat renaming le_refl→YC,lt_of_lt_of_le→YF,beq→YR,zero_le→Ya,ble→Yb,lt_or_ge→Yf,add→Yg,mul→Ym,le_trans→Ys,shiftLeft→Yt,mod→Yx,blt→WA,zero_add→WH,succ→WN,div→Wm,mul_comm→Wt,sub_zero→Wu
open Or renaming inr→YE,inl→YH
open Array renaming getElem?_eq_some_iff→YO,getElem?_eq_getElem→Yd,getD_eq_getD_getElem?→Yn,getElem?_toList→Yr,getElem?_setIfInBounds_ne→WW,replicate→Qh,getElem?_replicate→YB4,ext_getElem?→YC4,toList_append→YN0,length_toList→YN1,ext'→YO2
open Option renaming getD_some→YU,getD_none→Ww
open Bool renaming and_eq_true→Yu,or_eq_true→QY,false_or→YB3
set_option linter.unusedVariables false
set_option linter.unusedSimpArgs false
set_option linter.unusedSectionVars false
section
namespace Go.Ev
open Go.RowKit
theorem zB{l}{bf}{i j}(h:ie l bf i=true)(hj:l[j]?=some false)(hne:i≠j):(bf.getD i 0).testBit j=true\/(bf.getD j 0).testBit i=true:=by
 unfold ie at h;rw[WL]at h;have:=h (false,j) (WS.2 hj);simp only[YB3,QY,beq_iff_eq]at this;rcases this with(h1|h1)|h1;.omega
 .simp_all
 simp_all
def NS(P:Program)(nt:Nat)(c:Code)(e:Env)(H:Heap)(e':Env)(H':Heap):Prop:=∀(rd:Option Nat)(base:Nat)(w0:World)(rho:Nat->Option Nat)(w:World)(a:Act),PR P base w0 rho H w->TR (mu rho H w) nt e a.tmps->∀(Q:Exit->Act->World->Prop),(∀a' w' rho',a'.defers=a.defers->PR P base w0 rho' H' w'->TR (mu rho' H' w') nt e' a'.tmps->Ext rho H w rho' H' w'->Q .normal a' w')->c.wpIn (WF rd) 0 P Q a w
theorem HF{P:Program}{nt:Nat}{ops:Array Oper}{id:Nat}{iso pur al:Nat->Bool}{E:Nat->Env}{Hh:Nat->Heap}{Vv:Nat->V}{B:Nat->Option Nat}(hm:P.follows .mixedOrders=true)(hap:jP ops (Region.before ops)=true)(hE:Dg ops)(hst:∀j o,ops[j]?=some o->gW P nt ops (iso j) (pur j) (B j) o (E j) (Hh j) (Vv j) (E (j+1)) (Hh (j+1)))(hiso:∀i j,jv iso pur i->i≠j->pur j=false->j<ops.size->((Region.before ops).getD i 0).testBit j=true\/((Region.before ops).getD j 0).testBit i=true\/al j=true)(hhal:∀i,jv iso pur i->al i=false)(hal:∀i o,ops[i]?=some o->al i=true->(GW nt (E i) ops o false/\Vv i=.cG []/\Hh (i+1)=Hh i)\/(qL P nt (E i) o (Hh i) (Vv i) (Hh (i+1))/\∀k,k<ops.size->jv iso pur k->i<k->jI (Region.before ops) i k=false->(Hh i).n<(Hh k).n->(Hh (k+1)).get (Hh i).n=(Hh k).get (Hh i).n))(hB:∀i b,i<ops.size->B i=some b->b<(Hh 0).n)(hkp:∀i k b,i<ops.size->k<ops.size->B i=some b->jv iso pur k->jI (Region.before ops) i k=false->b<(Hh k).n->(Hh (k+1)).get b=(Hh k).get b):NS P nt (.region id ops true) (E 0) (Hh 0) (E ops.size) (Hh ops.size):=λrd b0 w0 rho w a hp ht Q hQ=>by
 have hp1:PR P b0 w0 rho (Hh 0) {w with drawn:=w.drawn+1}:=hp.drawn _;have ht1:TR (mu rho (Hh 0) {w with drawn:=w.drawn+1}) nt (E 0) a.tmps:=ht;have hrun:=TY (iso:=iso) (pur:=pur) hst hp1 ht1;have hhp:J9 ops.size iso pur Hh:=⟨λi hi=>by obtain⟨⟨_,_,_,p,_⟩,_⟩:=hrun i hi;exact p.wn,λi hi=>by obtain⟨⟨_,_,_,p,_⟩,_⟩:=hrun i hi;exact p.out,λi hi=>by obtain⟨_,g⟩:=hrun (i+1) hi;simp_all,λi hi=>by obtain⟨_,g⟩:=hrun (i+1) hi;simp_all⟩;have hke:∀i,i<ops.size->∀t,t<nt->∃m c,VR m (af (bj t) (E i)) c/\∀b c',m.b b c'->b<(Hh i).n:=λi hi t hlt=>by
  obtain⟨⟨rho',w',a',p,tr⟩,_⟩:=hrun i (by omega);have hs:=tr.size;have hlt':t<a'.tmps.size:=by omega
  exact⟨_,_,tr.get t _ (Yd hlt'),λb c' hm=>hm.1⟩
 refine wpIn_region_any hm ?_;obtain⟨T,t1,t2,t3,t4⟩:=AO iso pur ops.size _ 0 rfl (Ya _);obtain⟨b1,b2⟩:=UJ hhp T t2 0 t1 t4;obtain⟨p2,m2⟩:=hp1.grow b1 (hhp.wn T t2) (hhp.out T t2);have hnb:∀k,(Qh ops.size false).getD k false=false:=λk=>by rw[Yn,YB4];split<;>rfl
 have x2:Ext rho (Hh 0) w rho (Hh T) {w with drawn:=w.drawn+1}:=⟨b1.n,by omega,YC _,λb hb _=>⟨b1.get b hb,rfl⟩,λ_ _ _ h=>h,λ_ _ h _=>h,λb hb ha=>by rw[<-b1.get b hb];exact ha,λb c hb hr=>absurd (hp.lt b c hr) (by omega),λ_ _ _=>rfl,λb hb=>⟨by
  have hbn:b<(Hh 0).n:=by
   rcases Yf b (Hh 0).n with h|h;.exact h
   .rw[b1.out b h]at hb;cases hb
  rw[b1.get b hbn];exact hb,rfl,λ_ _=>rfl⟩,λc cs e fr hc=>⟨cs,e,fr,hc,rfl⟩,λc r hc=>⟨r,hc⟩⟩;obtain⟨Hy,y1,y2,y3,y4⟩:=BT (λb=>if b<(Hh T).n then(Hh T).get b else .cells []) (Hh ops.size).n (Hh T).bF;have hTN:=(de hhp ops.size (YC _) T t2).1;have hylo:∀b,b<(Hh T).n->Hy.get b=(Hh T).get b:=λb hb=>by rw[y3 b (by omega),if_pos hb]
 have bY:Part (Hh T) Hy:=⟨by rw[y1];exact hTN,hylo,hhp.out T t2⟩;obtain⟨p3,m3⟩:=p2.grow bY (by rw[y1,y2];have:=hhp.wn T t2;omega) (λb hb=>y4 b (by rw[<-y1];exact hb));have h0T:=(de hhp T t2 0 (Ya _)).1;have x3:Ext rho (Hh 0) w rho Hy {w with drawn:=w.drawn+1}:=x2.re hp.lt (λb c h=>(hp.jM b c h).2.2.1) hp.out (by rw[y1];omega) y2 (λb hb=>hylo b (by omega)) (λ_ _=>rfl) (λb c _ h=>YH h) (λ_ _=>rfl) (YC _);refine walk (al:=al) (rho0:=rho) (w00:=w) (ds:=a.defers) hst hE hap hiso hhal hal hhp ht.le hp.lt (λb c h=>(hp.jM b c h).2.2.1) hB hkp hke (λa' w' rho' g1 g2 g3 g4=>hQ a' w' rho' g1 g2 g3 g4) hp.out ops.size _ _ _ T rho Hy ⟨by simp,(λj hj=>by unfold dL at hj;simp_all),t2,t3,(λhb=>by unfold dL at hb;simp_all),λi hi hh=>absurd hh (t4 i (Ya _) hi),y1,y2,hylo,λb hb hb'=>?_,p3,x3,?_,rfl,λb c hr k hk _=>?_,λb c hr k hk hkj hb=>?_,λb c hr hb=>?_⟩ (by simp);.rw[y3 b (by omega),if_neg (by omega)];trivial
 .have:(λk=>(Qh ops.size false).getD k false)=λ_=>false:=funext hnb;rw[this,Aq λ_=>rfl];exact ht1.mono (M.le_trans m2 m3)
 .have:=hp.lt b c hr;have:=(de hhp k (by omega) 0 (Ya _)).1;omega
 .exact(hp1.kn hr).part (UJ hhp k (by omega) 0 (Ya _) λj h5 h6=>t4 j h5 (by omega)).1 (hp.lt b c hr)
 .have:=hp.lt b c hr;omega
theorem oZ{l al}{bf}{i j}(h:dx l al bf i=true)(hj:l[j]?=some false)(hne:i≠j):(bf.getD i 0).testBit j=true\/(bf.getD j 0).testBit i=true\/(al.getD j false=true/\i<j):=by
 unfold dx at h;rw[Yu]at h;have h:=h.2;rw[WL]at h;have:=h (false,j) (WS.2 hj);simp only[YB3,QY,beq_iff_eq,Yu]at this;rcases this with((h1|h1)|h1)|h1;.omega
 .simp_all
 .simp_all
 simp_all
theorem U4{P:Program}{nt:Nat}{ph:dg}{ops:Array Oper}{base id:Nat}{r:List Db}{e:Env}{H:Heap}{k:Env->Heap->R}(hm:P.follows .mixedOrders=true)(hph:jb P ph)(hap:jP ops (Region.before ops)=true)(hed:lx ops=true)(hc:du P nt base ops (ops.toList.map λo=>bR (ai P nt o)) (ops.toList.map λo=>kW (ai P nt o)) (Region.before ops) ops.toList 0=some r)(h:cP ph r e H k=1):∃e' H',NS P nt (.region id ops true) e H e' H'/\k e' H'=1:=by
 obtain⟨E,Hh,Vv,h1,h2,h3,h5,h4⟩:=Ar hph ops.toList 0 r e H k hc h;have hE:=rZ hed;subst h1 h2;have hpur:∀(j:Nat)(o:Oper),ops[j]?=some o->(ops[j]?.map λo=>bR (ai P nt o)).getD true=bR (ai P nt o):=λj o hj=>by simp[hj]
 have halg:∀(j:Nat),(ops.toList.map λo=>kW (ai P nt o)).getD j false=true->∃o,ops[j]?=some o/\kW (ai P nt o)=true:=λj hj=>by rw[List.getD_eq_getElem?_getD,Yq,Yr]at hj;cases ho:ops[j]?with|none=>simp_all|some o=>simp_all
 have hni:∀j,(ops.toList.map λo=>kW (ai P nt o)).getD j false=true->dx (ops.toList.map λo=>bR (ai P nt o)) (ops.toList.map λo=>kW (ai P nt o)) (Region.before ops) j=false:=λj hj=>by unfold dx;simp_all
 refine⟨_,_,HF (iso:=λj=>dx (ops.toList.map λo=>bR (ai P nt o)) (ops.toList.map λo=>kW (ai P nt o)) (Region.before ops) j) (pur:=λj=>(ops[j]?.map λo=>bR (ai P nt o)).getD true) (al:=λj=>(ops.toList.map λo=>kW (ai P nt o)).getD j false) (Vv:=Vv) (B:=λ_=>none) hm hap hE (λj o hj=>?_) (λi j hi hne hpj hj=>?_) (λi hi=>?_) (λi o ho hi=>?_) (λi b _ hb=>by cases hb) (λi k b _ _ hb=>by cases hb),by omega⟩;.simp_all
 .refine(oZ hi.1 ?_ hne).imp (λh=>h) (Or.imp (λh=>h) And.left);simp_all
 .cases hx:(ops.toList.map λo=>kW (ai P nt o)).getD i false with|false=>rfl|true=>exact absurd (hi.1.symm.trans (hni i hx)) (by simp)
 .obtain⟨o',g1,g2⟩:=halg i hi;rw[ho]at g1;cases g1;have:=h5 i o (by simpa using ho) g2;rw[WH]at this;refine(this (hni i hi)).imp (λh=>h) λhA=>⟨hA,λk hk hh hik hord hlt=>?_⟩;exfalso;have hpf:(ops.toList.map λo=>bR (ai P nt o))[i]?=some false:=by rw[Yq,Yr,ho];cases hcc:ai P nt o<;>rw[hcc]at g2<;>first|(cases g2;done)|simp[hcc,bR]
  unfold jI at hord;rw[Bool.or_eq_false_iff]at hord;rcases oZ hh.1 hpf (by omega)with h8|h8|h8;.simp_all
  .simp_all
  .omega
theorem Tz{x y}{k}(h:Ty x y k=1):x=y/\k=1:=by obtain⟨k1,a,hx,h3⟩:=dI (show cD 0 x (λk1 a=>cD 0 y λk2 b=>aH (YR k1 k2) (aH (YR a b) k (no 0)) (no 0))=1from h);obtain⟨k2,b,hy,h4⟩:=dI (show cD 0 y (λk2 b=>aH (YR k1 k2) (aH (YR a b) k (no 0)) (no 0))=1from h3);obtain⟨h1,h5⟩:=aU (show aH (YR k1 k2) (aH (YR a b) k (no 0)) (no 0)=1from h4);obtain⟨h2,h6⟩:=aU h5;simp_all
theorem AZ:∀{l m}{k},rq l m k=1->l=m/\k=1|[],[],k,h=>⟨rfl,h⟩|[],_::_,k,h=>(aw h).elim|_::_,[],k,h=>(aw h).elim|a::l,b::m,k,h=>by obtain⟨h1,h2⟩:=Tz (show Ty a b (rq l m k)=1from h);obtain⟨h3,h4⟩:=AZ h2;simp_all
theorem Gi{x y}{k}(h:uH x y k=1):x=y/\k=1:=by
 rcases mP (show uc 0 x (λl=>uc 0 y (λm=>rq l m k) λ_ _=>no 0) (λ_ _=>no 0)=1from h)with⟨l,hx,h3⟩|⟨a,b,hx,h3⟩
 .rcases mP (show uc 0 y (λm=>rq l m k) (λ_ _=>no 0)=1from h3)with⟨m,hy,h4⟩|⟨a,b,hy,h4⟩;.obtain⟨h1,h2⟩:=AZ h4;simp_all
  .exact(aw h4).elim
 .exact(aw h3).elim
theorem Gj{b}{x}:∀{hs}{k},pF b x hs k=1->(∀G∈hs,G.get b=x)/\k=1|[],k,h=>⟨λG hG=>(by cases hG),h⟩|G::hs,k,h=>by have h':dv G b (λy=>uH y x (pF b x hs k))=1:=h;rw[aW]at h';obtain⟨h1,h2⟩:=Gi h';obtain⟨h3,h4⟩:=Gj h2;simp_all
theorem Gk{H H'}:∀{bs}{k},qH H H' bs k=1->(∀b∈bs,H'.get b=H.get b)/\k=1|[],k,h=>⟨λb hb=>(by cases hb),h⟩|b::bs,k,h=>by have h':dv H b (λx=>dv H' b λy=>uH y x (qH H H' bs k))=1:=h;rw[aW,aW]at h';obtain⟨h1,h2⟩:=Gi h';obtain⟨h3,h4⟩:=Gk h2;simp_all
def acy(P:Program)(nt:Nat)(ops:Array Oper)(n0:Nat)(l:List Oper)(e:Env)(H:Heap)(hs:List Heap)(bs:List Nat)(k:Env->Heap->R):Prop:=∃(E:Nat->Env)(Hh:Nat->Heap)(Vv:Nat->V)(B:Nat->Option Nat),E 0=e/\Hh 0=H/\(∀j o,l[j]?=some o->gW P nt ops true (vr (ai P nt o)) (B j) o (E j) (Hh j) (Vv j) (E (j+1)) (Hh (j+1)))/\k (E l.length) (Hh l.length)=1/\(∀j b,j<l.length->B j=some b->b<n0/\(∀G∈hs,G.get b=H.get b)/\∀m,m<=l.length->(Hh m).get b=H.get b)/\∀b∈bs,∀m,m<=l.length->(Hh m).get b=H.get b
theorem At{P:Program}{nt:Nat}{ph:dg}{ops:Array Oper}{base n0:Nat}(hph:jb P ph):∀(l:List Oper)(i:Nat)(r:List uQ)(e:Env)(H:Heap)(hs:List Heap)(bs:List Nat)(k:Env->Heap->R),iH P nt base ops l i=some r->dm ph n0 r e H hs bs k=1->acy P nt ops n0 l e H hs bs k
 |[],i,r,e,H,hs,bs,k,hc,h=>by simp only[iH,Option.some.injEq]at hc;subst hc;exact⟨λ_=>e,λ_=>H,λ_=>.py,λ_=>none,rfl,rfl,λj o hj=>by simp at hj,h,λj b hj=>by simp at hj,λb _ m _=>rfl⟩|o::l,i,r,e,H,hs,bs,k,hc,h=>by
  simp only[iH]at hc;split at hc
  .rename_i d g r' hd hg hr;cases hc;have fin:∀(v:V)(H1:Heap)(B0:Option Nat)(hs':List Heap)(bs':List Nat),gW P nt ops true (vr (ai P nt o)) B0 o e H v (dD d v e) H1->(∀b,B0=some b->b<n0/\(∀G∈hs,G.get b=H.get b)/\b∈bs'/\H1=H)->(∀b∈bs,b∈bs'/\H1.get b=H.get b)->(∀G∈hs,G∈hs')->(H∈hs'\/H1=H)->dm ph n0 r' (dD d v e) H1 hs' bs' k=1->acy P nt ops n0 (o::l) e H hs bs k:=λv H1 B0 hs' bs' hst hB hbs hhs hH hev=>by
    obtain⟨E,Hh,Vv,B,h1,h2,h3,h4,h5,h6⟩:=At hph l (i+1) r' _ _ hs' bs' k hr hev;refine⟨pt e E,pt H Hh,pt v Vv,pt B0 B,rfl,rfl,λj o' hj=>?_,h4,λj b hj hb=>?_,λb hb m hm=>?_⟩;.cases j with|zero=>simp only[List.getElem?_cons_zero,Option.some.injEq]at hj;subst hj;show gW P nt ops true _ B0 o e H v (E 0) (Hh 0);rw[h1,h2];exact hst|succ j=>exact h3 j o' (by simpa using hj)
    .cases j with
     |zero=>obtain⟨q1,q2,q3,q4⟩:=hB b hb;refine⟨q1,q2,λm hm=>?_⟩;cases m with|zero=>rfl|succ m=>show(Hh m).get b=H.get b;simp_all
     |succ j=>
      obtain⟨q1,q2,q3⟩:=h5 j b (by simpa using hj) hb;have hHb:H1.get b=H.get b:=hH.elim (λh=>(q2 H h).symm) λh=>by rw[h]
      refine⟨q1,λG hG=>(q2 G (hhs G hG)).trans hHb,λm hm=>?_⟩;cases m with|zero=>rfl|succ m=>exact(q3 m (by simpa using hm)).trans hHb
    .cases m with|zero=>rfl|succ m=>exact(h6 b (hbs b hb).1 m (by simpa using hm)).trans (hbs b hb).2
   have h':uP g e (aH (YR (Da (ai P nt o)) 5) (aJ (qN (ai P nt o)) e λa=>nE 0 a λob=>Option.rec (motive:=λ_=>R) (no 0) (λb=>aH (WA b n0) (dv H b λx=>pF b x hs (aQ (ai P nt o) 0 ph e H λv _=>cj d v e λe'=>dm ph n0 r' e' H hs (b::bs) k)) (no 0)) ob) (aH (YR (Da (ai P nt o)) 6) (aQ (ai P nt o) 0 ph e H λv H'=>qH H H' bs (cj d v e λe'=>dm ph n0 r' e' H' (H::hs) bs k)) (aQ (ai P nt o) 0 ph e H λv H'=>cj d v e λe'=>dm ph n0 r' e' H' hs bs k))) (cj d (.cG []) e λe'=>dm ph n0 r' e' H hs bs k)=1:=h;rcases sK hg h' with⟨h1,h2⟩|⟨h1,h2⟩;rotate_left;.rw[ck]at h1;exact fin _ H none hs bs ⟨d,hd,rfl,YH ⟨h2,rfl,rfl⟩⟩ (λb hb=>by cases hb) (λb hb=>⟨hb,rfl⟩) (λ_ h=>h) (YE rfl) h1
   by_cases hpu:bR (ai P nt o)=true;.rw[show Da (ai P nt o)=0 by unfold Da;rw[if_pos hpu]]at h1;obtain⟨v,h3,h4⟩:=x9 hph hpu (show aQ (ai P nt o) 0 ph e H (λv H'=>cj d v e λe'=>dm ph n0 r' e' H' hs bs k)=1from h1);have h4':cj d v e (λe'=>dm ph n0 r' e' H hs bs k)=1:=h4;rw[ck]at h4';exact fin v H none hs bs ⟨d,hd,rfl,YE (YH ⟨h2,by unfold vr;rw[hpu];rfl,rfl,λH2 _=>h3 H2⟩)⟩ (λb hb=>by cases hb) (λb hb=>⟨hb,rfl⟩) (λ_ h=>h) (YE rfl) h4'
   by_cases hld:EW (ai P nt o)=true;.rw[show Da (ai P nt o)=5by unfold Da;rw[if_neg hpu,if_pos hld]]at h1;have h3:aJ (qN (ai P nt o)) e (λa=>nE 0 a λob=>Option.rec (motive:=λ_=>R) (no 0) (λb=>aH (WA b n0) (dv H b λx=>pF b x hs (aQ (ai P nt o) 0 ph e H λv _=>cj d v e λe'=>dm ph n0 r' e' H hs (b::bs) k)) (no 0)) ob)=1:=h1;rw[aq]at h3;have h4:=rL h3;cases hob:qy (aA (qN (ai P nt o)) e)with|none=>rw[hob]at h4;exact(aw h4).elim|some b=>
     rw[hob]at h4;obtain⟨h5,h6⟩:=aU (show aH (WA b n0) (dv H b λx=>pF b x hs (aQ (ai P nt o) 0 ph e H λv _=>cj d v e λe'=>dm ph n0 r' e' H hs (b::bs) k)) (no 0)=1from h4);rw[aW]at h6;obtain⟨h7,h8⟩:=Gj h6;obtain⟨v,h9,h10⟩:=Sw hld hob h8;have h9':cj d v e (λe'=>dm ph n0 r' e' H hs (b::bs) k)=1:=h9;rw[ck]at h9';have hb0:b<n0:=by simp_all
     refine fin v H (some b) hs (b::bs) ⟨d,hd,rfl,YE (YH ⟨h2,by unfold vr;rw[hld];simp,rfl,λH2 hH2=>?_⟩)⟩ (λb' hb'=>?_) (λb' hb'=>⟨YI _ hb',rfl⟩) (λ_ h=>h) (YE rfl) h9';.have hev:=h10 H2 (hH2 b rfl) (λv' H'=>open Classical in if v'=v/\H'=H2 then 1 else 0);obtain⟨v',H',q1,q2⟩:=er hph (P:=P) (nt:=nt) (o:=o) (id:=0) (e:=e) (H:=H2) (by rw[hev];simp);simp_all
     simp_all
   .rw[show Da (ai P nt o)=6by unfold Da;rw[if_neg hpu,if_neg hld]]at h1;obtain⟨v,H1,h3,h4⟩:=er hph (show aQ (ai P nt o) 0 ph e H (λv H'=>qH H H' bs (cj d v e λe'=>dm ph n0 r' e' H' (H::hs) bs k))=1from h1);obtain⟨h5,h6⟩:=Gk (show qH H H1 bs (cj d v e λe'=>dm ph n0 r' e' H1 (H::hs) bs k)=1from h4);rw[ck]at h6;have hpf:vr (ai P nt o)=false:=by unfold vr;simp[hpu,hld]
    exact fin v H1 none (H::hs) bs ⟨d,hd,rfl,YE (YE (YH ⟨h2,hpf,rfl,h3⟩))⟩ (λb hb=>by cases hb) (λb hb=>⟨hb,h5 b hb⟩) (λG hG=>YI _ hG) (YH (YL ..)) h6
  .cases hc
theorem XG{P}{nt}{ph}{ops}{base id}{r}{e}{H}{k}(hm:P.follows .mixedOrders=true)(hph:jb P ph)(hap:jP ops (Region.before ops)=true)(hed:lx ops=true)(hx:xOK (ops.toList.map (ai P nt)) (Region.before ops)=true)(hc:iH P nt base ops ops.toList 0=some r)(h:dm ph H.n r e H [] [] k=1):∃e' H',NS P nt (.region id ops true) e H e' H'/\k e' H'=1:=by
 have hE:=rZ hed;obtain⟨E,Hh,Vv,B,h1,h2,h3,h4,h5,h6⟩:=At hph ops.toList 0 r e H [] [] k hc h;subst h1 h2;have hlen:ops.toList.length=ops.size:=by simp
 have hpur:∀(j:Nat)(o),ops[j]?=some o->(ops[j]?.map λo=>vr (ai P nt o)).getD true=vr (ai P nt o):=λj o hj=>by simp_all
 have hcs:∀(j:Nat)(o),ops[j]?=some o->(ops.toList.map (ai P nt))[j]?=some (ai P nt o):=λj o hj=>by simp_all
 refine⟨_,_,HF (iso:=λ_=>true) (pur:=λj=>(ops[j]?.map λo=>vr (ai P nt o)).getD true) (Vv:=Vv) hm hap hE (λj o hj=>?_) (λi j hi hne hpj hj=>?_) (λi hi=>rfl) (λi o ho hi=>by cases hi) (λi b hi hb=>(h5 i b hi hb).1) (λi k b hi hk hb _ _ _=>?_),h4⟩;.simp_all
 .have hji:=Yd hj;have hip:(ops[i]?.map λo=>vr (ai P nt o)).getD true=false:=hi.2;rcases Yf i ops.size with hisz|hisz;.have hii:=Yd hisz;rw[hpur i _ hii]at hip;unfold xOK at hx;rw[WL]at hx;have hz:(ai P nt ops[i],i)∈(ops.toList.map (ai P nt)).zipIdx:=WS.2 (hcs i _ hii);have:=hx _ hz;simp only[hip,YB3]at this;refine(zB this ?_ hne).imp (λh=>h) YH;simp_all
  simp_all
 .obtain⟨_,_,q⟩:=h5 i b hi hb;rw[q (k+1) hk,q k (by omega)]
theorem xz{l la}{bf}{i j}(h:tK l la bf i=true)(hj:l[j]?=some false)(hne:i≠j):(bf.getD i 0).testBit j=true\/(bf.getD j 0).testBit i=true\/la.getD j false=true:=by
 unfold tK at h;rw[WL]at h;have:=h (false,j) (WS.2 hj);simp only[YB3,QY,beq_iff_eq,Yu]at this;rcases this with((h1|h1)|h1)|h1;.omega
 .simp_all
 .simp_all
 simp_all
theorem Vj{P}{nt}{ph}{ops}{base id}{r}{e}{H:Heap}{k:Env->Heap->R}(hm:P.follows .mixedOrders=true)(hph:jb P ph)(hap:jP ops (Region.before ops)=true)(hed:lx ops=true)(hc:iG P nt base ops (ops.toList.map (ai P nt)) (Region.before ops) ops.toList 0=some r)(h:bQ ph H.n r e H [] [] k=1):∃e' H',NS P nt (.region id ops true) e H e' H'/\k e' H'=1:=by
 have hE:=rZ hed;obtain⟨E,Hh,Vv,B,h1,h2,h3,h4,h5,h6,h7,h8⟩:=As hph (λx y=>gD hE x y) ops.toList 0 r e H [] [] k hc (λj o hj=>by simp_all) (λp hp=>by cases hp) h;subst h1 h2;have hlen:ops.toList.length=ops.size:=by simp
 simp only[WH]at h3 h5 h6 h7 h8;have hpur:∀(j)(o),ops[j]?=some o->(ops.toList.map (ai P nt)).getD j .bad=ai P nt o:=λj o hj=>by simp_all
 refine⟨_,_,HF (al:=λj=>kG (ops.toList.map (ai P nt)) (Region.before ops) j) hm hap hE (λj o hj=>h3 j o (by simp_all)) (λi j hi hne hpj hj=>?_) (λi hi=>?_) (λi o ho hi=>?_) (λi b hi hb=>(h5 i b (by omega) hb).1) (λi k b hi hk hb hh hord hlt=>h7 i k b (by omega) (by omega) hb hh.1 hh.2 hord hlt),by omega⟩;rotate_left;.cases hx:kG (ops.toList.map (ai P nt)) (Region.before ops) i with|false=>rfl|true=>exact absurd (hi.1.symm.trans (Fg hx)) (by simp)
 .refine(h8 i o (by simp_all) hi).imp (λh=>h) λhA=>⟨hA.1,λk hk hh hik hord hlt=>hA.2 k hik (by omega) hh.1 hh.2 hord hlt⟩
 have hi1:=hi.1;unfold nS at hi1;rw[Yu]at hi1;have hlast:∀{x},(Sv (ops.toList.map (ai P nt)) (Region.before ops)).getD j false=x->kG (ops.toList.map (ai P nt)) (Region.before ops) j=x:=λ{x}hx=>by rw[<-hx];unfold Sv;simp_all
 refine(xz hi1.1 ?_ hne).imp (λh=>h) (Or.imp (λh=>h) hlast);unfold aeM;rw[Yq];have hex:ops[j]?=some ops[j]:=Yd hj;have hz:(ops.toList.map (ai P nt)).zipIdx[j]?=some (ai P nt ops[j],j):=by simp_all
 rw[hz];unfold kO at hpj;simp_all
theorem CK{w:World}{a}{v}(h:w.cell? a=some v):w.setCell a v=w:=by unfold World.cell? at h;unfold World.setCell;cases ha:w.heap[a.block]?with|none=>simp_all|some o=>rw[ha]at h;cases w with|mk heap tape drawn os output=>
   congr 1;apply YC4;intro i;rw[Array.getElem?_modify];by_cases hi:a.block=i
   .subst hi;rw[if_pos rfl,ha];cases o<;>simp at h⊢;intro _;replace h:=h.2;apply YC4;intro j;by_cases hj:a.off=j;.subst hj;obtain⟨hlt,hv⟩:=YO.1 h;simp_all
    simp_all
   simp_all
section
variable{P:Program}{nt:Nat}{id:Nat}{ph:dg}{e:Env}{H:Heap}{k:K}
theorem rz{w}{g o}:∀(vs)(i),(∀(j)v,vs[j]?=some v->w.cell? ⟨g,o+i+j,none⟩=some v/\v.oneCell'=true/\w.frozen? ⟨g,o+i+j,none⟩=false)->(storeCells ⟨g,o,none⟩ vs i).run P w=.ok () w
 |[],i,_=>rfl|v::vs,i,h=>by
  obtain⟨h1,h2,h3⟩:=h 0 v rfl;rw[Nat.add_zero]at h1 h3;have ih:=rz vs (i+1) λj u hu=>by have:=h (j+1) u (by simp_all);rw[show o+i+(j+1)=o+(i+1)+j by omega]at this;omega
  simp only[storeCells,Sem.run_bind,Addr.add_lit,run_store P w _ v .plain h2,h1,h3,CK h1];simp_all
def Z8(P:Program)(H:Heap)(x:V)(t:TypeId)(v:V):Prop:=∀{base:Nat}{w0 w:World}{rho:Nat->Option Nat}{cx:Value},PR P base w0 rho H w->VR (mu rho H w) x cx->∃cv,(Instr.loadAt t cx).run P w=.ok cv w/\VR (mu rho H w) v cv/\(Instr.storeAt t cx cv).run P w=.ok () w
theorem Vw{o}{t}{s}(hop:o.op=.load t (.tmp s))(h1:SW P t=true)(h:aQ (ai P nt o) id ph e H k=1):∃v,k v H=1/\Z8 P H (af (bj s) e) t v:=by
 simp only[ai,hop]at h;split at h
 .rename_i x' n hx hag hsz;have hx':x'=.s (bj s):=by unfold aL at hx;simp_all
  subst hx';have h':qU n (.s (bj s)) id ph e H k=1:=h;unfold qU at h';rw[aq]at h';obtain⟨b,off,hb,h1⟩:=fP h';obtain⟨row,h2,h3,h30,h4⟩:=Ju h1;refine⟨_,h4,λ{base w0 w rho cx}hp vx=>?_⟩;replace hb:af (bj s) e=.ptr b off:=hb;rw[hb]at vx;obtain⟨c,rfl,hm⟩:=vx;obtain⟨cs,g1,g2,g3,g4⟩:=hp.Jt (hp.yg hm h2) h2 h3 h30;refine⟨.agg cs.toArray,by simp[Instr.loadAt,Instr.sureAddr,loadVar,kg hag,cK hsz,g1],by simp only[VR];simp_all,?_⟩;have hst:(storeCells ⟨c,off,none⟩ cs 0).run P w=.ok () w:=rz cs 0 λj v hv=>by have:=g4 j v hv;omega
  have hcl:cs.toArray.size=n:=by omega
  simp[Instr.storeAt,Instr.sureAddr,storeVar,Value.cells,cK hsz,hcl,hst]
 .rename_i _ x' hx hag;have hx':x'=.s (bj s):=by unfold aL at hx;simp_all
  subst hx';have h':qT (.s (bj s)) id ph e H k=1:=h;unfold qT at h';rw[aq]at h';obtain⟨b,off,hb,h1'⟩:=fP h';obtain⟨row,v,h2,h3,h30,h4⟩:=Tn h1';refine⟨_,h4,λ{base w0 w rho cx}hp vx=>?_⟩;replace hb:af (bj s) e=.ptr b off:=hb;rw[hb]at vx;obtain⟨c,rfl,hm⟩:=vx;obtain⟨cv,g1,g2,g3,g4⟩:=hp.Tm (hp.yg hm h2) h2 h3 h30;have hsz:qz P t=some 1:=by unfold SW at h1;simp_all
  refine⟨cv,by simp[Instr.loadAt,Instr.sureAddr,loadVar,kg hag,g1],g2,?_⟩;have ho:=tO g2 g3;have hcv:cv.cells=#[cv]:=by obtain⟨n1,n2⟩:=g2.one g3;cases cv<;>first|rfl|simp_all|rfl
  have hst:(storeCells ⟨c,off,none⟩ [cv] 0).run P w=.ok () w:=by refine rz [cv] 0 λj v hv=>?_;cases j with|succ j=>simp_all|zero=>simp_all
  simp[Instr.storeAt,Instr.sureAddr,storeVar,hcv,cK hsz,hst]
 .exact(aw h).elim
theorem uy{o}{t}{s d}(h:dn o=some (t,s,d)):o.op=.load t (.tmp s)/\o.dst=some d/\o.guard=none:=by
 unfold dn at h;split at h;.simp_all
 simp_all
def gk(P:Program)(nt:Nat)(H:Heap):List Oper->Env->Env->Prop|[],e,e'=>e'=e|o::l,e,e'=>∃(t:TypeId)(s d:Nat)(v:V),dn o=some (t,s,d)/\s<nt/\d<nt/\Z8 P H (af (bj s) e) t v/\gk P nt H l (kY (bj d) v e) e'
theorem um{s:Nat}{x}(h:aL nt (.tmp s)=some x):s<nt:=by unfold aL at h;simp_all
theorem Fk{base}{ops}:∀(l)(i)(r)(e)(k),(∀o∈l,lM o=true)->(∀o∈l,∀(t)(s d),dn o=some (t,s,d)->SW P t=true)->du P nt base ops [] [] #[] l i=some r->jm ph r e H k=1->∃e',k e' H=1/\gk P nt H l e e'
 |[],i,r,e,k,_,_,hc,h=>by simp only[du,Option.some.injEq]at hc;subst hc;exact⟨e,h,rfl⟩|o::l,i,r,e,k,hl,h1,hc,h=>by
  obtain⟨⟨t,s,d⟩,hld⟩:=Option.isSome_iff_exists.1 (hl o (YL ..));obtain⟨hop,hd,hg⟩:=uy hld;simp only[du,hd,hg,guardOf]at hc;split at hc
  .rename_i dd gg r' hdd hgg hr;cases hgg;cases hc;simp only[rY]at hdd;split at hdd
   .rename_i hdn;cases hdd;have h':aQ (ai P nt o) 0 ph e H (λv H'=>JF (bj d) v e λe'=>jm ph r' e' H' k)=1:=h;obtain⟨v,h2,h3⟩:=Vw hop (h1 o (YL ..) t s d hld) h';rw[sG]at h2;have hs:=by
     have h4:=h';simp only[ai,hop]at h4;split at h4;.rename_i hx _ _;exact um hx
     .rename_i hx _;exact um hx
     .exact(aw h4).elim
    obtain⟨e',h5,h6⟩:=Fk l (i+1) r' _ k (λq hq=>hl q (YI _ hq)) (λq hq=>h1 q (YI _ hq)) hr h2;exact⟨e',h5,t,s,d,v,hld,hs,hdn,h3,h6⟩
   simp_all
  simp_all
theorem gk.other(hnt:nt<=512):∀{l:List Oper}{e e':Env},gk P nt H l e e'->∀x,x<512->(∀o∈l,∀(t:TypeId)(s d:Nat),dn o=some (t,s,d)->d≠x)->af (bj x) e'=af (bj x) e|[],e,e',h,x,_,_=>by rw[show e'=e from h]|o::l,e,e',h,x,hx,hd=>by obtain⟨t,s,d,v,h1,h2,h3,h4,h5⟩:=h;rw[gk.other hnt h5 x hx λq hq=>hd q (YI _ hq),fk,if_neg];intro e;exact hd o (YL ..) t s d h1 (fI hx (by omega) e).symm
theorem gk.spec(hnt:nt<=512):∀{l:List Oper}{e e':Env},gk P nt H l e e'->(l.filterMap λo=>(dn o).map (·.2.2)).Nodup->(∀o∈l,∀o'∈l,∀(t:TypeId)(s d:Nat)(t':TypeId)(s' d':Nat),dn o=some (t,s,d)->dn o'=some (t',s',d')->s≠d')->∀o∈l,∀(t:TypeId)(s d:Nat),dn o=some (t,s,d)->s<nt/\d<nt/\Z8 P H (af (bj s) e) t (af (bj d) e')
 |[],_,_,_,_,_,o,ho,_,_,_,_=>by cases ho|q::l,e,e',h,hn,hs,o,ho,t,s,d,hld=>by
  obtain⟨t0,s0,d0,v0,h1,h2,h3,h4,h5⟩:=h;have hn':d0∉(l.filterMap λo=>(dn o).map (·.2.2))/\(l.filterMap λo=>(dn o).map (·.2.2)).Nodup:=by rw[YA4,h1]at hn;simpa using hn
  rcases List.mem_cons.1 ho with rfl|ho';.rw[h1]at hld;cases hld;refine⟨h2,h3,?_⟩;rw[gk.other hnt h5 d (by omega) λq hq t s d hq' e=>hn'.1 (Qr.2 ⟨q,hq,by rw[hq',e];rfl⟩),fk,if_pos rfl];exact h4
  .obtain⟨g1,g2,g3⟩:=gk.spec hnt h5 hn'.2 (λa ha b hb=>hs a (YI _ ha) b (YI _ hb)) o ho' t s d hld;refine⟨g1,g2,?_⟩;have hsd:=hs o ho q (YL ..) t s d t0 s0 d0 hld h1;rw[fk,if_neg]at g3;.exact@g3
   .intro e;exact hsd (fI (by omega) (by omega) e)
theorem UI{ops:Array Oper}{base bid:Nat}{r:List Db}{k:Env->Heap->R}(hm:P.follows .mixedOrders=true)(hb:Bo P ops=true)(hc:du P nt base ops [] [] #[] (ops.toList.filter lM) 0=some r)(h:jm ph r e H k=1):∃e',NS P nt (.region bid ops true) e H e' H/\k e' H=1:=by
 unfold Bo at hb;simp only[Yu,decide_eq_true_eq,WL]at hb;obtain⟨⟨⟨hed,hall⟩,hnd⟩,hads⟩:=hb;have hads':∀o∈ops.toList,∀(t:TypeId)(s d:Nat),dn o=some (t,s,d)->s∉kH ops/\SW P t=true:=λo ho t s d hl=>by have:=hads o ho;rw[hl]at this;simpa using this
 obtain⟨e',h1,h2⟩:=Fk (ops.toList.filter lM) 0 r e k (λo ho=>(Wp.1 ho).2) (λo ho t s d hl=>(hads' o (Wp.1 ho).1 t s d hl).2) hc h;refine⟨e',λrd b0 w0 rho w a hp ht Q hQ=>?_,h1⟩;have hnt:=ht.le;have hfm:(ops.toList.filter lM).filterMap (λo=>(dn o).map (·.2.2))=kH ops:=by unfold kH;rw[List.filterMap_filter];congr 1;funext o;unfold lM;cases dn o<;>rfl
 have hmemd:∀o∈ops.toList,∀(t:TypeId)(s d:Nat),dn o=some (t,s,d)->d∈kH ops:=λo ho t s d hl=>Qr.2 ⟨o,ho,by rw[hl];rfl⟩;have hspec:=gk.spec hnt h2 (by rw[hfm];exact hnd) λo ho o' ho' t s d t' s' d' hl hl' e=>(hads' o (Wp.1 ho).1 t s d hl).1 (by rw[e];exact hmemd o' (Wp.1 ho').1 t' s' d' hl');have hE:=rZ hed;refine wpIn_region_any hm ?_;have hp1:PR P b0 w0 rho H {w with drawn:=w.drawn+1}:=hp.drawn _;have ht1:TR (mu rho H {w with drawn:=w.drawn+1}) nt e a.tmps:=ht;have x1:Ext rho H w rho H {w with drawn:=w.drawn+1}:=⟨YC _,YC _,YC _,λ_ _ _=>⟨rfl,rfl⟩,λ_ _ _ h=>h,λ_ _ h _=>h,λ_ _ h=>h,λb c hb h=>absurd (hp.lt b c h) (by omega),λ_ _ _=>rfl,λb hb=>⟨hb,rfl,λ_ _=>rfl⟩,λc cs e fr hc=>⟨cs,e,fr,hc,rfl⟩,λc r hc=>⟨r,hc⟩⟩;generalize hw1:({w with drawn:=w.drawn+1}:World)=w1 at hp1 ht1 x1⊢;have hQ':∀a',a'.defers=a.defers->TR (mu rho H w1) nt e' a'.tmps->Q .normal a' w1:=λa' g1 g2=>hQ a' w1 rho g1 hp1 g2 x1;clear hQ hp ht hw1;have hsize:=ht1.size;have hrd:∀o∈ops.toList,∀(t:TypeId)(s d:Nat),dn o=some (t,s,d)->s<nt/\d<nt/\∃cv,(Instr.loadAt t (a.eval (.tmp s))).run P w1=.ok cv w1/\VR (mu rho H w1) (af (bj d) e') cv/\(Instr.storeAt t (a.eval (.tmp s)) cv).run P w1=.ok () w1:=λo ho t s d hl=>by
  obtain⟨g1,g2,g3⟩:=hspec o (Wp.2 ⟨ho,by unfold lM;rw[hl];rfl⟩) t s d hl;have hlt:s<a.tmps.size:=by omega
  have hex:a.tmps[s]?=some a.tmps[s]:=Yd hlt;have hev:a.eval (.tmp s)=a.tmps[s]:=by simp[Act.eval,hex]
  obtain⟨cv,q1,q2,q3⟩:=g3 hp1 (ht1.get s _ hex);rw[<-hev]at q1 q3;exact⟨g1,g2,cv,q1,q2,q3⟩
 let Dn:Array Bool->Nat->Prop:=λlisted t=>∃(j:Nat)(o:Oper)(ty:TypeId)(s:Nat),ops[j]?=some o/\dn o=some (ty,s,t)/\dL listed j;let Inv:Array Bool->Act->Prop:=λlisted a'=>a'.defers=a.defers/\a'.tmps.size=nt/\(∀t:Nat,¬Dn listed t->a'.tmps[t]?=a.tmps[t]?)/\∀(j:Nat)(o:Oper)(ty:TypeId)(s d:Nat),ops[j]?=some o->dn o=some (ty,s,d)->dL listed j->∃cv,a'.tmps[d]?=some cv/\(Instr.loadAt ty (a.eval (.tmp s))).run P w1=.ok cv w1;have fin:∀listed a',Inv listed a'->(∀i,i<ops.size->dL listed i)->Q .normal a' w1:=λlisted a'⟨g1,g2,g3,g4⟩hb=>by
  refine hQ' a' g1 ⟨g2,hnt,λt v hv=>?_,λt q1 q2=>?_⟩
  .have htn:t<nt:=by rw[<-g2];exact(YO.1 hv).1
   by_cases hd:Dn listed t;.obtain⟨j,o,ty,s,q1,q2,q3⟩:=hd;obtain⟨cv,q4,q5⟩:=g4 j o ty s t q1 q2 q3;rw[hv]at q4;cases q4;obtain⟨_,_,cv',q6,q7,_⟩:=hrd o (by rw[<-Yr]at q1;exact Yk q1) ty s t q2;rw[q5]at q6;cases q6;exact q7
   .rw[g3 t hd]at hv;rw[gk.other hnt h2 t (by omega) λo ho ty s d hl e=>hd ?_];.exact ht1.get t v hv
    .obtain⟨j,hj⟩:=List.getElem?_of_mem (Wp.1 ho).1;have hj':ops[j]?=some o:=by rw[<-Yr];exact hj
     exact⟨j,o,ty,s,hj',by rw[hl,e],hb j (YO.1 hj').1⟩
  .rw[gk.other hnt h2 t q2 λo ho ty s d hl e=>?_];.exact ht1.rest t q1 q2
   .have:=(hrd o (Wp.1 ho).1 ty s d hl).2.1;omega
 have walk:∀(fuel:Nat)(listed:Array Bool)(a':Act),listed.size=ops.size->Inv listed a'->listed.toList.count false=fuel->wpAnyIn (WF rd) 0 P .any ops Q fuel listed a' w1:=by
  have hready:∀(listed:Array Bool),Region.ready .any ops listed=[]->listed.size=ops.size->∀i,i<ops.size->dL listed i:=λlisted hr hsz i=>by induction i using Nat.strongRecOn with|_ i ih=>
    intro hi;by_cases hb:dL listed i;.exact hb
    .have ho:ops[i]?=some ops[i]:=Yd hi;have hmem:i∈Region.ready .any ops listed:=mem_ready.2 ⟨by have hex:listed[i]?=some listed[i]:=Yd (by omega);unfold dL at hb;rw[Yn,hex]at hb⊢;simpa using hb,_,ho,λe he hbd=>ih e.on (hE i _ ho e (by simpa using he) hbd) (by have:=hE i _ ho e (by simpa using he) hbd;omega)⟩;rw[hr]at hmem;cases hmem
  intro fuel;induction fuel with|zero=>
   intro listed a' hsz hI hc;have hall':∀i,i<ops.size->dL listed i:=λi hi=>by
    have hlt:i<listed.size:=by rw[hsz];exact hi
    have hex:listed[i]?=some listed[i]:=Yd hlt;unfold dL;rw[Yn,hex,YU];cases hv:listed[i]with|true=>rfl|false=>
     have:false∈listed.toList:=by rw[<-hv];simp
     rw[List.count_eq_zero]at hc;exact absurd this hc
   refine⟨?_,fin listed a' hI hall'⟩;refine List.eq_nil_iff_forall_not_mem.2 λi hi=>?_;obtain⟨h1,o,ho,_⟩:=mem_ready.1 hi;have hb:=hall' i (YO.1 ho).1;have hlt:i<listed.size:=by rw[hsz];exact(YO.1 ho).1
   have hex:listed[i]?=some listed[i]:=Yd hlt;unfold dL at hb;rw[Yn,hex,YU]at hb h1;rw[hb]at h1;cases h1|succ fuel ih=>
   intro listed a' hsz hI hc;refine⟨λhr=>fin listed a' hI (hready listed hr hsz),λi hi=>?_⟩;obtain⟨h1,o,ho,hr0⟩:=mem_ready.1 hi;have hin:i<ops.size:=(YO.1 ho).1;have hil:i<listed.size:=by rw[hsz];exact hin
   have hex:listed[i]?=some listed[i]:=Yd hil;have hv:listed[i]=false:=by rw[Yn,hex,YU]at h1;exact h1
   have hnb:¬dL listed i:=by unfold dL;rw[Yn,hex,YU,hv];simp
   have hc':(listed.setIfInBounds i true).toList.count false=fuel:=by have:=count_set (l:=listed.toList) (i:=i) (by simpa[hv]using hex);rw[Array.toList_setIfInBounds];omega
   have hsz':(listed.setIfInBounds i true).size=ops.size:=by simpa using hsz
   have hmem:o∈ops.toList:=by rw[<-Yr]at ho;exact Yk ho
   obtain⟨g1,g2,g3,g4⟩:=hI;have heval:∀s:Nat,s∉kH ops->a'.eval (.tmp s)=a.eval (.tmp s):=λs hs=>by have:=g3 s λ⟨j,q,ty,s',q1,q2,_⟩=>hs (hmemd q (by rw[<-Yr]at q1;exact Yk q1) ty s' s q2);simp[Act.eval,this]
   unfold wpOpIn;simp only[ho];cases hlo:dn o with|some q=>
    obtain⟨ty,s,d⟩:=q;obtain⟨hop,hd,hg⟩:=uy hlo;obtain⟨_,hdn,cv,q1,q2,_⟩:=hrd o hmem ty s d hlo;have hw:Region.wanted o (yielded ops a'.tmps)=true:=by simp[Region.wanted,hg]
    rw[if_pos hw];refine⟨iD P o a' w1 rd,?_⟩;rw[semAt_eq (by simp[hop])];have hex2:(execOp a'.eval o).run P w1=.ok (.value cv) w1:=by simp only[execOp,hop,Sem.run_bind,heval s (hads' o hmem ty s d hlo).1,q1,Result.andThen_ok,Sem.run_pure]
    rw[hex2];show wpAnyIn (WF rd) 0 P .any ops Q fuel (listed.setIfInBounds i true) (a'.put o.dst cv) w1;rw[hd];refine ih _ _ hsz' ⟨g1,by simpa[Act.put]using g2,λt htd=>?_,λj o' ty' s' d' r1 r2 r3=>?_⟩ hc';.have hne:d≠t:=λe=>htd ⟨i,o,ty,s,ho,by rw[hlo,e],(dc hil).2 (YH rfl)⟩;simp only[Act.put,WW hne];exact g3 t λ⟨j,q,ty',s',r1,r2,r3⟩=>htd ⟨j,q,ty',s',r1,r2,(dc hil).2 (YE r3)⟩
    .by_cases hdd:d=d'
     .subst hdd;refine⟨cv,by simp[Act.put,g2,hdn],?_⟩;rcases(dc hil).1 r3 with rfl|r3;.rw[ho]at r1;cases r1;rw[hlo]at r2;cases r2;exact q1
      .obtain⟨cv',r4,r5⟩:=g4 j o' ty' s' d r1 r2 r3;have hji:j=i:=by
        have hnd':∀(l:List Oper)(x y:Nat)(ox oy:Oper),(l.filterMap λo=>(dn o).map (·.2.2)).Nodup->l[x]?=some ox->l[y]?=some oy->(dn ox).map (·.2.2)=some d->(dn oy).map (·.2.2)=some d->x=y:=by intro l;induction l with|nil=>intro x y ox oy _ hx;simp at hx|cons z l ihl=>
          intro x y ox oy hnn hx hy hox hoy;have htail:(l.filterMap λo=>(dn o).map (·.2.2)).Nodup:=by
           rw[YA4]at hnn;split at hnn;.exact hnn
           .exact(WY.1 hnn).2
          cases x with
          |zero=>cases y with|zero=>rfl|succ y=>simp at hx hy;subst hx;rw[YA4,hox]at hnn;exact absurd (Qr.2 ⟨oy,Yk hy,hoy⟩) (WY.1 hnn).1
          |succ x=>cases y with|zero=>simp at hx hy;subst hy;rw[YA4,hoy]at hnn;exact absurd (Qr.2 ⟨ox,Yk hx,hox⟩) (WY.1 hnn).1|succ y=>simp at hx hy;rw[ihl x y ox oy htail hx hy hox hoy]
        exact hnd' ops.toList j i o' o hnd (by simpa using r1) (by simpa using ho) (by rw[r2];rfl) (by rw[hlo];rfl)
       exact absurd (hji▸r3) hnb
     .rcases(dc hil).1 r3 with rfl|r3;.rw[ho]at r1;cases r1;rw[hlo]at r2;cases r2;exact absurd rfl hdd
      .obtain⟨cv',r4,r5⟩:=g4 j o' ty' s' d' r1 r2 r3;exact⟨cv',by simp only[Act.put,WW hdd];exact r4,r5⟩|none=>
    have hbk:HH ops o=true:=by have:=hall o hmem;unfold lM at this;rw[hlo]at this;simpa using this
    unfold HH at hbk;split at hbk
    .rename_i ty s d hop hd hg;rw[List.any_eq_true]at hbk;obtain⟨ed,he1,he2⟩:=hbk;rw[Yu]at he2;obtain⟨hbind,he3⟩:=he2;split at he3
     .rename_i o2 ho2;have hl2:dn o2=some (ty,s,d):=by simpa using he3
      have hbn:dL listed ed.on:=hr0 ed (by simpa using he1) hbind;obtain⟨cv,r4,r5⟩:=g4 _ o2 ty s d ho2 hl2 hbn;have hmem2:o2∈ops.toList:=by rw[<-Yr]at ho2;exact Yk ho2
      obtain⟨_,hdn,cv',q1,q2,q3⟩:=hrd o2 hmem2 ty s d hl2;rw[r5]at q1;cases q1;have hw:Region.wanted o (yielded ops a'.tmps)=true:=by simp[Region.wanted,hg]
      rw[if_pos hw];refine⟨iD P o a' w1 rd,?_⟩;rw[semAt_eq (by simp[hop])];have hev:a'.eval (.tmp d)=cv:=by simp[Act.eval,r4]
      have hex2:(execOp a'.eval o).run P w1=.ok .skip w1:=by simp only[execOp,hop,Sem.run_bind,heval s (hads' o2 hmem2 ty s d hl2).1,hev,q3,Result.andThen_ok,Sem.run_pure]
      rw[hex2];show wpAnyIn (WF rd) 0 P .any ops Q fuel (listed.setIfInBounds i true) (a'.put o.dst undef) w1;rw[hd];refine ih _ _ hsz' ⟨g1,g2,λt htd=>?_,λj o' ty' s' d' r1 r2 r3=>?_⟩ hc';.exact g3 t λ⟨j,q,ty',s',r1,r2,r3⟩=>htd ⟨j,q,ty',s',r1,r2,(dc hil).2 (YE r3)⟩
      .rcases(dc hil).1 r3 with rfl|r3;.rw[ho]at r1;cases r1;rw[hlo]at r2;cases r2
       .exact g4 j o' ty' s' d' r1 r2 r3
     .cases he3
    .cases hbk
 refine walk ops.size _ a (by simp) ⟨rfl,hsize,λ_ _=>rfl,λj o ty s d _ _ hb=>?_⟩ (by simp[List.count_replicate]);unfold dL at hb;rw[Yn,YB4]at hb;split at hb<;>cases hb
end
inductive Out where|normal|jump(n:Nat)
def Out.ex:Out->Exit|.normal=>.normal|.jump 0=>.ret|.jump (n+1)=>.exit n
def Marks(H:Heap)(rho':Nat->Option Nat)(H':Heap)(w':World)(ms:List Deferred):Prop:=∃bs:List (Nat×Nat),(bs.map (·.1)).Nodup/\ms=bs.map (λp=>{target:=.collected p.2,args:=#[]})/\∀p∈bs,H.n<=p.1/\p.1<H'.n/\rho' p.1=some p.2/\H'.get p.1=.mark/\w'.heap[p.2]?=some (.deferred (some []))
theorem Marks.nil{H H':Heap}{rho':Nat->Option Nat}{w':World}:Marks H rho' H' w' []:=⟨[],by simp,rfl,λp h=>by cases h⟩
theorem Marks.trans{H H1 H2:Heap}{w1 w2:World}{r1 r2:Nat->Option Nat}{ms1 ms2:List Deferred}(h:Marks H r1 H1 w1 ms1)(k:Marks H1 r2 H2 w2 ms2)(x:Ext r1 H1 w1 r2 H2 w2)(hn:H.n<=H1.n):Marks H r2 H2 w2 (ms2++ms1):=by
 obtain⟨b1,n1,rfl,h1⟩:=h;obtain⟨b2,n2,rfl,h2⟩:=k;refine⟨b2++b1,?_,by simp,λp hp=>?_⟩;.rw[List.map_append,List.nodup_append];refine⟨n2,n1,λa ha b hb e=>?_⟩;obtain⟨p,hp,rfl⟩:=Ye.1 ha;obtain⟨q,hq,rfl⟩:=Ye.1 hb;have:=(h2 p hp).1;have:=(h1 q hq).2.1;omega
 .rcases List.mem_append.1 hp with hp|hp;.obtain⟨g1,g2,g3⟩:=h2 p hp;exact⟨Ys hn g1,g2,g3⟩
  .obtain⟨g1,g2,g3,g4,g5⟩:=h1 p hp;obtain⟨m1,m2,m3⟩:=x.marks p.1 g4;exact⟨g1,YF g2 x.n,m2.trans g3,m1,(m3 p.2 g3).trans g5⟩
def InL(rd:Option Nat)(w:World):Prop:=∀l,rd=some l->∃r,w.heap[l]?=some (.loop r)
theorem InL.ext{rd:Option Nat}{w w':World}{rho rho':Nat->Option Nat}{H H':Heap}(h:InL rd w)(x:Ext rho H w rho' H' w'):InL rd w':=λl e=>let⟨r,h1⟩:=h l e;x.loops l r h1
def CS(P:Program)(nt:Nat)(inl:Bool)(c:Code)(e:Env)(H:Heap)(out:Out)(e':Env)(H':Heap):Prop:=∀(rd:Option Nat)(hrd:rd.isSome=inl)(base:Nat)(w0:World)(rho:Nat->Option Nat)(w:World)(a:Act),PR P base w0 rho H w->TR (mu rho H w) nt e a.tmps->InL rd w->∀(Q:Exit->Act->World->Prop),(∀a' w' rho' ms,a'.defers=ms++a.defers->Marks H rho' H' w' ms->PR P base w0 rho' H' w'->TR (mu rho' H' w') nt e' a'.tmps->Ext rho H w rho' H' w'->Q out.ex a' w')->c.wpIn (WF rd) 0 P Q a w
theorem NS.cs{P:Program}{nt:Nat}{inl:Bool}{c:Code}{e e':Env}{H H':Heap}(h:NS P nt c e H e' H'):CS P nt inl c e H .normal e' H':=λrd hrd base w0 rho w a hp ht hL Q hQ=>h rd base w0 rho w a hp ht Q λa' w' rho' g1 g2 g3 g4=>hQ a' w' rho' [] g1 Marks.nil g2 g3 g4
theorem CS.here{P:Program}{nt:Nat}{inl:Bool}{c:Code}{e:Env}{H:Heap}{out:Out}(h:∀{rd Q a w},Q out.ex a w->c.wpIn (WF rd) 0 P Q a w):CS P nt inl c e H out e H:=λrd hrd base w0 rho w a hp ht hL Q hQ=>h (hQ a w rho [] rfl Marks.nil hp ht (Ext.refl hp.lt))
theorem pI{K}{Q}{a}{w}(h:K a w):Exit.then K Q .normal a w:=h
theorem Bc{K}{Q}{a}{w}{n}(h:Q (Out.jump n).ex a w):Exit.then K Q (Out.jump n).ex a w:=by cases n<;>exact h
theorem CS.seq{P:Program}{nt:Nat}{inl:Bool}{x y:Code}{e e1 e2:Env}{H H1 H2:Heap}{out:Out}(h:CS P nt inl x e H .normal e1 H1)(k:CS P nt inl y e1 H1 out e2 H2):CS P nt inl (.seq x y) e H out e2 H2:=λrd hrd base w0 rho w a hp ht hL Q hQ=>wpIn_seq (h rd hrd base w0 rho w a hp ht hL _ λa1 w1 rho1 ms1 d1 m1 p1 t1 x1=>pI (k rd hrd base w0 rho1 w1 a1 p1 t1 (hL.ext x1) Q λa2 w2 rho2 ms2 d2 m2 p2 t2 x2=>hQ a2 w2 rho2 (ms2++ms1) (by rw[d2,d1,List.append_assoc]) (m1.trans m2 x2 x1.n) p2 t2 (Ext.trans hp.lt x1 x2)))
theorem CS.TG{P:Program}{nt:Nat}{inl:Bool}{x y:Code}{e e1:Env}{H H1:Heap}{n:Nat}(h:CS P nt inl x e H (.jump n) e1 H1):CS P nt inl (.seq x y) e H (.jump n) e1 H1:=λrd hrd base w0 rho w a hp ht hL Q hQ=>wpIn_seq (h rd hrd base w0 rho w a hp ht hL _ λa1 w1 rho1 ms1 d1 m1 p1 t1 x1=>Bc (hQ a1 w1 rho1 ms1 d1 m1 p1 t1 x1))
def LS(P:Program)(nt:Nat)(inl:Bool)(c:Code)(m:Nat)(e:Env)(H:Heap)(n:Nat)(e':Env)(H':Heap):Prop:=∀(rd:Option Nat)(hrd:rd.isSome=inl)(base:Nat)(w0:World)(rho:Nat->Option Nat)(w:World)(a:Act),PR P base w0 rho H w->TR (mu rho H w) nt e a.tmps->InL rd w->∀(Q:Exit->Act->World->Prop),(∀a' w' rho' ms,a'.defers=ms++a.defers->Marks H rho' H' w' ms->PR P base w0 rho' H' w'->TR (mu rho' H' w') nt e' a'.tmps->Ext rho H w rho' H' w'->Q (Out.jump n).ex a' w')->Code.roundsIn (WF rd) 0 P c Q m a w
def kk(kn:KE)(kx:Nat->KE):Out->KE|.normal=>kn|.jump n=>kx n
section
variable{P:Program}{nt fid:Nat}{inl:Bool}{ph:dg}
theorem KX{c}{f:Env->Heap->KE->(Nat->KE)->R}(hc:∀e H kn kx,f e H kn kx=1->∃out e' H',CS P nt inl c e H out e' H'/\kk kn kx out e' H'=1)(kx):∀(m)(e)(H),(Nat.rec (motive:=λ_=>Env->Heap->R) (λ_ _=>no 3) (λ_ ih e H=>f e H ih kx) m:Env->Heap->R) e H=1->∃n e' H',LS P nt inl c m e H n e' H'/\kx n e' H'=1|0,e,H,h=>(aw h).elim|m+1,e,H,h=>by obtain⟨out,e1,H1,h1,h2⟩:=hc e H _ kx h;cases out with|jump n=>exact⟨n,e1,H1,λrd hrd base w0 rho w a hp ht hL Q hQ=>by exact h1 rd hrd base w0 rho w a hp ht hL _ λa' w' rho' ms d1 m1 p1 t1 x1=>Bc (hQ a' w' rho' ms d1 m1 p1 t1 x1),h2⟩|normal=>obtain⟨n,e2,H2,h3,h4⟩:=KX hc kx m e1 H1 h2;exact⟨n,e2,H2,λrd hrd base w0 rho w a hp ht hL Q hQ=>by exact h1 rd hrd base w0 rho w a hp ht hL _ λa1 w1 rho1 ms1 d1 m1 p1 t1 x1=>pI (h3 rd hrd base w0 rho1 w1 a1 p1 t1 (hL.ext x1) Q λa2 w2 rho2 ms2 d2 m2 p2 t2 x2=>hQ a2 w2 rho2 (ms2++ms1) (by simp_all) (m1.trans m2 x2 x1.n) p2 t2 (Ext.trans hp.lt x1 x2)),h4⟩
def ZO:Nat->Out|0=>.normal|m+1=>.jump m
theorem NO(hph:jb P ph){g:Operand}{ps:Array Tmp}{asL bo:Code}{x:Arg}{l:List Slot}(hx:aL nt g=some x)(hl:gZ nt ps.toList=some l){fuel:Nat}{e:Env}{H:Heap}{kn:KE}{kx:Nat->KE}(h:gG (.kP x l (.mk nt fid asL) (.mk nt fid bo)) fuel ph e H kn kx=1):∃out e' H',CS P nt false (.rangeFunc g ps asL bo) e H out e' H'/\kk kn kx out e' H'=1:=by
 have h':aJ x e (λg=>yC 0 g λf caps=>Nat.rec (motive:=λ_=>R) (cC H .mark λ_ H=>cC H (.loop 0 0 e l (.mk nt fid asL) (.mk nt fid bo)) λb H=>ph (.func f caps) [.sU b] H λ_ H=>dv H b λbl=>eU bl λst j e' ps' as' bo'=>Nat.rec (motive:=λ_=>R) (cZ 0 H b (.loop 3 j e' ps' as' bo') λH=>Nat.rec (motive:=λ_=>R) (kn e H) (λm _=>kx m e H) j) (λs _=>Nat.rec (motive:=λ_=>R) (no 10) (λ_ _=>cZ 0 H b (.loop 3 j e' ps' as' bo') λH=>Nat.rec (motive:=λ_=>R) (kn e H) (λm _=>kx m e H) j) s) st) (λ_ _=>no 14) (Yx f 2))=1:=h;rw[aq]at h';obtain⟨f0,caps,hf,h0⟩:=GO h';have hf0:∃f,f0=2*f/\cC H .mark (λ_ H=>cC H (.loop 0 0 e l (.mk nt fid asL) (.mk nt fid bo)) λb H=>ph (.func f0 caps) [.sU b] H λ_ H=>dv H b λbl=>eU bl λst j e' ps' as' bo'=>Nat.rec (motive:=λ_=>R) (cZ 0 H b (.loop 3 j e' ps' as' bo') λH=>Nat.rec (motive:=λ_=>R) (kn e H) (λm _=>kx m e H) j) (λs _=>Nat.rec (motive:=λ_=>R) (no 10) (λ_ _=>cZ 0 H b (.loop 3 j e' ps' as' bo') λH=>Nat.rec (motive:=λ_=>R) (kn e H) (λm _=>kx m e H) j) s) st)=1:=by
  rcases(by omega:f0%2=0\/f0%2=1)with hm|hm;.rw[show Yx f0 2=0from hm]at h0;exact⟨f0/2,by omega,h0⟩
  .rw[show Yx f0 2=1from hm]at h0;exact(aw h0).elim
 obtain⟨f,rfl,h1⟩:=hf0;obtain⟨H1,h2,n1⟩:=dE h1;obtain⟨H2,h3,n2⟩:=dE h2;obtain⟨v,H3,⟨_,h4⟩,h5⟩:=hph _ _ _ _ h3;rw[aW]at h5;obtain⟨st,j,e',ps',as',bo',hb,h6⟩:=l5 h5;have h7:st≠1/\cZ 0 H3 H1.n (.loop 3 j e' ps' as' bo') (λH=>Nat.rec (motive:=λ_=>R) (kn e H) (λm _=>kx m e H) j)=1:=by match st,h6 with|0,h6=>exact⟨by decide,h6⟩|1,h6=>exact(aw h6).elim|s+2,h6=>exact⟨by omega,h6⟩
 obtain⟨H4,h8,s4⟩:=ic h7.2;have hcall:=h4 f caps rfl;refine⟨ZO j,e,H4,λrd hrd base w0 rho w a hp ht hL Q hQ=>?_,by cases j<;>exact h8⟩;obtain rfl:rd=none:=by simp_all
 refine wpIn_rangeFunc λfn _=>?_;let nv:Loop:={state:=.ready,pending:=none,fn,tmps:=a.tmps,params:=ps,assign:=asL,body:=bo,defers:=w.heap.size};obtain⟨p1,x1⟩:=hp.alloc (w':=w.alloc (.deferred (some []))) (o:=.deferred (some [])) n1.n n1.bF n1.get n1.vQ trivial ⟨rfl,rfl,rfl⟩ (by simp) (World.alloc_heap_new w _) (λj hj=>Below.heap_alloc _ _ _ hj) ⟨_,rfl⟩;have hsz1:(w.alloc (.deferred (some []))).heap.size=w.heap.size+1:=by simp
 generalize hr1:(λb=>if b=H.n then some w.heap.size else rho b)=rho1 at p1 x1;have hr1b:rho1 H.n=some w.heap.size:=by rw[<-hr1];simp
 obtain⟨p2,x2⟩:=p1.alloc (w':=(w.alloc (.deferred (some []))).alloc (.loop nv)) (o:=.loop nv) n2.n n2.bF n2.get n2.vQ trivial ⟨rfl,rfl,rfl⟩ (by simp) (World.alloc_heap_new _ _) (λj hj=>Below.heap_alloc _ _ _ hj) ⟨nv,nt,fid,rfl,rfl,rfl,ht.mono x1.mu,hl,rfl,rfl⟩;generalize hr2:(λb=>if b=H1.n then some (w.alloc (.deferred (some []))).heap.size else rho1 b)=rho2 at p2 x2;have hr2b:rho2 H1.n=some (w.heap.size+1):=by rw[<-hr2];simp
 have hr2a:rho2 H.n=some w.heap.size:=by
  rw[<-hr2];have:H.n≠H1.n:=by have:=n1.n;omega
  simp[this,hr1b]
 have hev:=kB (mu:=mu rho H w) ht hx;rw[hf]at hev;simp only[VR]at hev;obtain⟨cs,hg,hcs⟩:=hev;have hg:a.eval g=.func (.func f) #[] cs:=by simpa using hg
 have hyl:VR (mu rho2 H2 ((w.alloc (.deferred (some []))).alloc (.loop nv))) (.sU H1.n) (.func (.yield (w.heap.size+1)) #[] #[]):=by simp only[VR];exact⟨_,rfl,by rw[n2.n];omega,λ_=>hr2b⟩
 have hx12:=Ext.trans hp.lt x1 x2;obtain⟨hrun,hin⟩:=hcall base w0 rho2 _ (#[.func (.yield (w.heap.size+1)) #[] #[]]++cs) p2 (by rw[YN0];exact bZ.append (by simp only[bZ];exact⟨_,_,rfl,hyl,rfl⟩) (bZ.mono hx12.mu _ _ hcs));refine⟨w.heap.size+1,[{target:=.collected w.heap.size,args:=#[]}],(w.alloc (.deferred (some []))).alloc (.loop nv),{target:=.fn (.func f) cs,args:=#[.func (.yield (w.heap.size+1)) #[] #[]]},(w.alloc (.deferred (some []))).alloc (.loop nv),f,#[.func (.yield (w.heap.size+1)) #[] #[]]++cs,(w.alloc (.deferred (some []))).alloc (.loop nv),run_enterLoop_outer fn a.tmps ps asL bo,?_,λ_ _=>trivial,?_,λh=>absurd h (by simp),?_⟩;.simp[resolve,Act.eval]at hg⊢;simp[hg,Deferred.ofValue]
 .simp only[invoke];exact hrun
 .refine(CallsIn.mono hin ?_:CallsIn (WF none) 0 P f _ _ _);rintro en w3⟨cv,rfl,rho3,v3,p3,x3⟩;have hr3b:rho3 H1.n=some (w.heap.size+1):=x3.live _ _ hr2b (by rw[hb];trivial);obtain⟨o3,g1,g2⟩:=p3.cV _ _ hr3b;rw[hb]at g2;obtain⟨r,nt',fid',rfl,g3,g4,g5,g6,g7,g8⟩:=g2;have hnb:r.state≠.busy:=λe=>h7.1 (by rw[<-g3,e];rfl);obtain⟨p4,x4⟩:=p3.write (H':=H4) (w':=w3.putObj (w.heap.size+1) (.loop {r with state:=.exhausted})) hr3b (by rw[hb];intro e;cases e) s4.n s4.bF s4.wb s4.get s4.vQ trivial ⟨rfl,rfl,rfl⟩ (by simp) (World.putObj_heap_same (YO.1 g1).1) (λj hj=>World.putObj_heap_other hj) ⟨{r with state:=.exhausted},nt',fid',rfl,rfl,g4,g5,g6,g7,g8⟩ (λcs2 e2 fr2 h=>by rw[g1]at h;cases h) (λ_ _=>⟨_,rfl⟩);have hxx:=Ext.trans hp.lt hx12 (Ext.trans p2.lt x3 x4);have hmk:H2.get H.n=.mark:=by rw[n2.vQ _ (by have:=n1.n;omega)];exact n1.get
  obtain⟨m1,m2,m3⟩:=(Ext.trans p2.lt x3 x4).marks H.n hmk;have hmw:((w.alloc (.deferred (some []))).alloc (.loop nv)).heap[w.heap.size]?=some (.deferred (some [])):=by rw[Below.heap_alloc _ _ _ (by simp)];exact World.alloc_heap_new w _
  have hmarks:Marks H rho3 H4 (w3.putObj (w.heap.size+1) (.loop {r with state:=.exhausted})) [{target:=.collected w.heap.size,args:=#[]}]:=⟨[(H.n,w.heap.size)],by simp,rfl,λp hpm=>by
    obtain rfl:p=(H.n,w.heap.size):=by simpa using hpm
    refine⟨YC _,?_,m2.trans hr2a,m1,(m3 _ hr2a).trans hmw⟩;have e1:=n1.n;have e2:=n2.n;have e3:=x3.n;have e4:=x4.n;show H.n<H4.n;omega⟩;have hq:=hQ {a with defers:=[{target:=.collected w.heap.size,args:=#[]}]++a.defers} _ rho3 _ rfl hmarks p4 (TR.mono hxx.mu ht) hxx;refine⟨r.pending,_,run_endLoop g1 hnb,?_⟩;rw[g4]at hq⊢;clear h5 h6 h7 h8 s4 hb p4 x4 hxx hmarks hnb h' h h1 h2 h3 hQ m1 m2 m3;rcases j with _|_|m;.exact hq
  .exact wpIn_ret hq
  .exact wpIn_exit hq
theorem NP(hph:jb P ph){g:Operand}{ps:Array Tmp}{asL bo:Code}{x:Arg}{l:List Slot}(hx:aL nt g=some x)(hl:gZ nt ps.toList=some l){fuel:Nat}{e:Env}{H:Heap}{kn:KE}{kx:Nat->KE}(h:gG (.Ct x l (.mk nt fid asL) (.mk nt fid bo)) fuel ph e H kn kx=1):∃out e' H',CS P nt true (.rangeFunc g ps asL bo) e H out e' H'/\kk kn kx out e' H'=1:=by
 have h':aJ x e (λg=>yC 0 g λf caps=>Nat.rec (motive:=λ_=>R) (cC H (.loop 0 0 e l (.mk nt fid asL) (.mk nt fid bo)) λb H=>ph (.func f caps) [.sU b] H λ_ H=>dv H b λbl=>eU bl λst j e' ps' as' bo'=>Nat.rec (motive:=λ_=>R) (cZ 0 H b (.loop 3 j e' ps' as' bo') λH=>Nat.rec (motive:=λ_=>R) (kn e H) (λm _=>kx m e H) j) (λs _=>Nat.rec (motive:=λ_=>R) (no 10) (λ_ _=>cZ 0 H b (.loop 3 j e' ps' as' bo') λH=>Nat.rec (motive:=λ_=>R) (kn e H) (λm _=>kx m e H) j) s) st) (λ_ _=>no 14) (Yx f 2))=1:=h;rw[aq]at h';obtain⟨f0,caps,hf,h0⟩:=GO h';have hf0:∃f,f0=2*f/\cC H (.loop 0 0 e l (.mk nt fid asL) (.mk nt fid bo)) (λb H=>ph (.func f0 caps) [.sU b] H λ_ H=>dv H b λbl=>eU bl λst j e' ps' as' bo'=>Nat.rec (motive:=λ_=>R) (cZ 0 H b (.loop 3 j e' ps' as' bo') λH=>Nat.rec (motive:=λ_=>R) (kn e H) (λm _=>kx m e H) j) (λs _=>Nat.rec (motive:=λ_=>R) (no 10) (λ_ _=>cZ 0 H b (.loop 3 j e' ps' as' bo') λH=>Nat.rec (motive:=λ_=>R) (kn e H) (λm _=>kx m e H) j) s) st)=1:=by
  rcases(by omega:f0%2=0\/f0%2=1)with hm|hm;.rw[show Yx f0 2=0from hm]at h0;exact⟨f0/2,by omega,h0⟩
  .rw[show Yx f0 2=1from hm]at h0;exact(aw h0).elim
 obtain⟨f,rfl,h1⟩:=hf0;obtain⟨H2,h3,n2⟩:=dE h1;obtain⟨v,H3,⟨_,h4⟩,h5⟩:=hph _ _ _ _ h3;rw[aW]at h5;obtain⟨st,j,e',ps',as',bo',hb,h6⟩:=l5 h5;have h7:st≠1/\cZ 0 H3 H.n (.loop 3 j e' ps' as' bo') (λH=>Nat.rec (motive:=λ_=>R) (kn e H) (λm _=>kx m e H) j)=1:=by match st,h6 with|0,h6=>exact⟨by decide,h6⟩|1,h6=>exact(aw h6).elim|s+2,h6=>simp_all
 obtain⟨H4,h8,s4⟩:=ic h7.2;have hcall:=h4 f caps rfl;refine⟨ZO j,e,H4,λrd hrd base w0 rho w a hp ht hL Q hQ=>?_,by cases j<;>exact h8⟩;obtain⟨l₀,rfl⟩:∃l₀,rd=some l₀:=by cases rd with|none=>cases hrd|some l₀=>simp
 obtain⟨r₀,hl₀⟩:=hL l₀ rfl;refine wpIn_rangeFunc λfn _=>?_;let nv:Loop:={state:=.ready,pending:=none,fn,tmps:=a.tmps,params:=ps,assign:=asL,body:=bo,defers:=r₀.defers};obtain⟨p2,x2⟩:=hp.alloc (w':=w.alloc (.loop nv)) (o:=.loop nv) n2.n n2.bF n2.get n2.vQ trivial ⟨rfl,rfl,rfl⟩ (by simp) (World.alloc_heap_new _ _) (λj hj=>Below.heap_alloc _ _ _ hj) ⟨nv,nt,fid,rfl,rfl,rfl,ht,hl,rfl,rfl⟩;generalize hr2:(λb=>if b=H.n then some w.heap.size else rho b)=rho2 at p2 x2;have hr2b:rho2 H.n=some w.heap.size:=by rw[<-hr2];simp
 have hev:=kB (mu:=mu rho H w) ht hx;rw[hf]at hev;simp only[VR]at hev;obtain⟨cs,hg,hcs⟩:=hev;have hg:a.eval g=.func (.func f) #[] cs:=by simp_all
 have hyl:VR (mu rho2 H2 (w.alloc (.loop nv))) (.sU H.n) (.func (.yield w.heap.size) #[] #[]):=by simp only[VR];exact⟨_,rfl,by rw[n2.n];omega,λ_=>hr2b⟩
 obtain⟨hrun,hin⟩:=hcall base w0 rho2 _ (#[.func (.yield w.heap.size) #[] #[]]++cs) p2 (by rw[YN0];exact bZ.append (by simp only[bZ];simp_all) (bZ.mono x2.mu _ _ hcs));refine⟨w.heap.size,[],w.alloc (.loop nv),{target:=.fn (.func f) cs,args:=#[.func (.yield w.heap.size) #[] #[]]},w.alloc (.loop nv),f,#[.func (.yield w.heap.size) #[] #[]]++cs,w.alloc (.loop nv),run_enterLoop_inner hl₀ fn a.tmps ps asL bo,?_,λ_ _=>trivial,?_,λh=>absurd h (by simp),?_⟩;.simp[resolve,Act.eval]at hg⊢;simp[hg,Deferred.ofValue]
 .simp only[invoke];exact hrun
 .refine(CallsIn.mono hin ?_:CallsIn (WF none) 0 P f _ _ _);rintro en w3⟨cv,rfl,rho3,v3,p3,x3⟩;have hr3b:rho3 H.n=some w.heap.size:=x3.live _ _ hr2b (by rw[hb];trivial);obtain⟨o3,g1,g2⟩:=p3.cV _ _ hr3b;rw[hb]at g2;obtain⟨r,nt',fid',rfl,g3,g4,g5,g6,g7,g8⟩:=g2;have hnb:r.state≠.busy:=λe=>h7.1 (by rw[<-g3,e];rfl);obtain⟨p4,x4⟩:=p3.write (H':=H4) (w':=w3.putObj w.heap.size (.loop {r with state:=.exhausted})) hr3b (by simp_all) s4.n s4.bF s4.wb s4.get s4.vQ trivial ⟨rfl,rfl,rfl⟩ (by simp) (World.putObj_heap_same (YO.1 g1).1) (λj hj=>World.putObj_heap_other hj) ⟨{r with state:=.exhausted},nt',fid',rfl,rfl,g4,g5,g6,g7,g8⟩ (λcs2 e2 fr2 h=>by simp_all) (λ_ _=>⟨_,rfl⟩);have hxx:=Ext.trans hp.lt x2 (Ext.trans p2.lt x3 x4);have hq:=hQ a _ rho3 [] rfl Marks.nil p4 (TR.mono hxx.mu ht) hxx;refine⟨r.pending,_,run_endLoop g1 hnb,?_⟩;rw[g4]at hq⊢;clear h5 h6 h7 h8 s4 hb p4 x4 hxx hnb h' h h1 h3 hQ;rcases j with _|_|m;.exact hq
  .exact wpIn_ret hq
  .exact wpIn_exit hq
theorem Is(hm:P.follows .mixedOrders=true)(hph:jb P ph)(fuel:Nat):∀(c:Code)(e:Env)(H:Heap)(kn:KE)(kx:Nat->KE),gG (iA P nt fid inl c) fuel ph e H kn kx=1->∃out e' H',CS P nt inl c e H out e' H'/\kk kn kx out e' H'=1:=by intro c;induction c with
 |skip=>intro e H kn kx h;exact⟨.normal,e,H,CS.here λh=>wpIn_skip h,h⟩|exit id=>intro e H kn kx h;exact⟨.jump (id+1),e,H,CS.here λh=>wpIn_exit h,h⟩|ret=>intro e H kn kx h;exact⟨.jump 0,e,H,CS.here λh=>wpIn_ret h,h⟩|seq x y ihx ihy=>intro e H kn kx h;obtain⟨out,e1,H1,h1,h2⟩:=ihx e H (λe H=>gG (iA P nt fid inl y) fuel ph e H kn kx) kx h;cases out with|jump n=>exact⟨.jump n,e1,H1,h1.TG,h2⟩|normal=>obtain⟨out,e2,H2,h3,h4⟩:=ihy e1 H1 kn kx h2;exact⟨out,e2,H2,h1.seq h3,h4⟩
 |cond x a b iha ihb=>
  intro e H kn kx h;unfold iA at h;split at h
  .rename_i ar har;have h':aJ ar e (λv=>eO 0 v λb'=>aH b' (gG (iA P nt fid inl a) fuel ph e H kn kx) (gG (iA P nt fid inl b) fuel ph e H kn kx))=1:=h;rw[aq]at h';obtain⟨t,ht,h1⟩:=mJ h';have hev:∀{m:M}{ac:Act},TR m nt e ac.tmps->ac.eval x=.bool t:=λhtr=>by have:=kB htr har;rw[ht]at this;simpa only[VR]using this
   cases t with|true=>obtain⟨out,e1,H1,h2,h3⟩:=iha e H kn kx h1;exact⟨out,e1,H1,λrd hrd base w0 rho w ac hp htr hL Q hQ=>wpIn_cond_true (hev htr) (h2 rd hrd base w0 rho w ac hp htr hL Q hQ),h3⟩|false=>obtain⟨out,e1,H1,h2,h3⟩:=ihb e H kn kx h1;exact⟨out,e1,H1,λrd hrd base w0 rho w ac hp htr hL Q hQ=>wpIn_cond_false (hev htr) (h2 rd hrd base w0 rho w ac hp htr hL Q hQ),h3⟩
  .exact(aw h).elim|block id a iha=>intro e H kn kx h;obtain⟨out,e1,H1,h1,h2⟩:=iha e H kn (λn e H=>aH (YR n (WN id)) (kn e H) (kx n e H)) h;cases out with|normal=>exact⟨.normal,e1,H1,λrd hrd base w0 rho w ac hp htr hL Q hQ=>wpIn_block (h1 rd hrd base w0 rho w ac hp htr hL _ hQ),h2⟩|jump n=>
   rcases bV h2 with⟨h3,h4⟩|⟨h3,h4⟩;.have:=cH h3;subst this;refine⟨.normal,e1,H1,λrd hrd base w0 rho w ac hp htr hL Q hQ=>wpIn_block (h1 rd hrd base w0 rho w ac hp htr hL _ λa' w' rho' ms d1 m1 p1 t1 x1=>?_),h4⟩;show Exit.inBlock id Q (.exit id) a' w';simp only[Exit.inBlock,if_true];exact hQ a' w' rho' ms d1 m1 p1 t1 x1
   .refine⟨.jump n,e1,H1,λrd hrd base w0 rho w ac hp htr hL Q hQ=>wpIn_block (h1 rd hrd base w0 rho w ac hp htr hL _ λa' w' rho' ms d1 m1 p1 t1 x1=>?_),h4⟩;have hq:=hQ a' w' rho' ms d1 m1 p1 t1 x1;cases n with|zero=>exact hq|succ n=>
     show Exit.inBlock id Q (.exit n) a' w';have hne:n≠id:=λh=>by subst h;simp at h3
     simp only[Exit.inBlock,hne,if_false];exact hq
 |loop a iha=>intro e H kn kx h;obtain⟨n,e1,H1,h1,h2⟩:=KX (f:=λe H kn kx=>gG (iA P nt fid inl a) fuel ph e H kn kx) iha kx fuel e H h;exact⟨.jump n,e1,H1,λrd hrd base w0 rho w ac hp htr hL Q hQ=>wpIn_loop_rounds fuel (h1 rd hrd base w0 rho w ac hp htr hL Q hQ),h2⟩|region id ops draw=>
  intro e H kn kx h
  cases draw with|false=>
   have h':gG (match du P nt (fid*100000+id*100) ops [] [] #[] ops.toList 0with|some l=>.rj l|none=>.bad) fuel ph e H kn kx=1:=h;split at h';.rename_i l hl;obtain⟨e1,H1,h1,h2⟩:=xh hph ops.toList 0 l e H kn hl h';exact⟨.normal,e1,H1,NS.cs λrd base w0 rho w a hp ht Q hQ=>wpIn_region_list (h1 rd base w0 rho w a hp ht Q hQ),h2⟩
   .exact(aw h').elim|true=>
   have h0:gG (if Bo P ops=true then(match du P nt (fid*100000+id*100) ops [] [] #[] (ops.toList.filter lM) 0with|some l=>au.rj l|none=>.bad)else if(jP ops (Region.before ops)&&lx ops)=true then(if(xrs.contains (fid*100000+id*100)&&xOK (ops.toList.map (ai P nt)) (Region.before ops))=true then(match iH P nt (fid*100000+id*100) ops ops.toList 0with|some l=>au.ab9 l|none=>.bad)else if ZL (ops.toList.map (ai P nt)) (Region.before ops)=true then(match iG P nt (fid*100000+id*100) ops (ops.toList.map (ai P nt)) (Region.before ops) ops.toList 0with|some l=>au.aa0 l|none=>.bad)else match du P nt (fid*100000+id*100) ops (ops.toList.map λo=>bR (ai P nt o)) (ops.toList.map λo=>kW (ai P nt o)) (Region.before ops) ops.toList 0with|some l=>au.tz l|none=>.bad)else .bad) fuel ph e H kn kx=1:=h;split at h0
   .rename_i hbk;split at h0;.rename_i l hl;obtain⟨e1,h1,h2⟩:=UI (bid:=id) hm hbk hl (show jm ph l e H kn=1from h0);exact⟨.normal,e1,H,h1.cs,h2⟩
    .exact(aw h0).elim
   have h':=h0;split at h'
   .rename_i hcd;rw[Yu]at hcd;split at h'
    .rename_i hxx;rw[Yu]at hxx;split at h';.rename_i l hl;cases H with|mk n bF t=>obtain⟨e1,H1,h1,h2⟩:=XG (id:=id) (H:=.mk n bF t) hm hph hcd.1 hcd.2 hxx.2 hl (show dm ph n l e (.mk n bF t) [] [] kn=1from h');exact⟨.normal,e1,H1,h1.cs,h2⟩
     .exact(aw h').elim
    split at h'
    .split at h';.rename_i l hl;cases H with|mk n bF t=>obtain⟨e1,H1,h1,h2⟩:=Vj (id:=id) (H:=.mk n bF t) hm hph hcd.1 hcd.2 hl (show bQ ph n l e (.mk n bF t) [] [] kn=1from h');exact⟨.normal,e1,H1,h1.cs,h2⟩
     .exact(aw h').elim
    split at h';.rename_i l hl;obtain⟨e1,H1,h1,h2⟩:=U4 (id:=id) hm hph hcd.1 hcd.2 hl (show cP ph l e H kn=1from h');exact⟨.normal,e1,H1,h1.cs,h2⟩
    .exact(aw h').elim
   .exact(aw h').elim
 |rangeFunc g ps asL bo iha ihb=>
  intro e H kn kx h
  cases inl with|true=>
   have h0:gG (match aL nt g,gZ nt ps.toList with|some x,some l=>.Ct x l (.mk nt fid asL) (.mk nt fid bo)|_,_=>.bad) fuel ph e H kn kx=1:=h;split at h0;.rename_i x l hx hl;exact NP hph hx hl h0
   .exact(aw h0).elim|false=>
   have h0:gG (match aL nt g,gZ nt ps.toList with|some x,some l=>.kP x l (.mk nt fid asL) (.mk nt fid bo)|_,_=>.bad) fuel ph e H kn kx=1:=h;split at h0;.rename_i x l hx hl;exact NO hph hx hl h0
   .exact(aw h0).elim
 |_=>intro e H kn kx h;exact(aw h).elim
end
theorem iv.fs{P:Program}{f:Nat}{args caps:List V}{H H':Heap}{v:V}(h:iv P f (args++caps) H v H'):FSq P (.func (2*f) caps) args H v H':=by
 refine⟨λrd base w0 rho w cx cargs hp hx ha o a=>?_,λf' caps' e=>by
  injection e with e1 e2;have e1:2*f=2*(f':Nat):=e1;obtain rfl:f=(f':Nat):=by omega
  obtain rfl:=e2;exact h⟩;simp only[VR]at hx;obtain⟨cs,rfl,hc⟩:=hx;obtain⟨h1,h2⟩:=h base w0 rho w (cargs++cs) hp (by simpa using ha.append hc);have he:(do let d<-Deferred.ofValue (.func (.func (2*f/2)) (if 2*f%2=0then#[]else cs) (if 2*f%2=0then cs else#[])) cargs;invoke d.target d.args:Sem Next).run P w=(callFunc f (cargs++cs)).run P w:=by simp[Deferred.ofValue,invoke]
 rw[he,h1];refine⟨λh=>absurd h (by simp),?_⟩;refine(CallsIn.mono h2 ?_:CallsIn (WF none) 0 P f (cargs++cs) w _);rintro en w'⟨cv,rfl,hl⟩;exact⟨cv,rfl,hl⟩
theorem iv.fsb{P:Program}{f:Nat}{args caps:List V}{H H':Heap}{v:V}(h:iv P f (caps++args) H v H'):FSq P (.func (2*f+1) caps) args H v H':=by
 refine⟨λrd base w0 rho w cx cargs hp hx ha o a=>?_,λf' caps' e=>by injection e with e1 e2;have e1:2*f+1=2*(f':Nat):=e1;omega⟩;simp only[VR]at hx;obtain⟨cs,rfl,hc⟩:=hx;obtain⟨h1,h2⟩:=h base w0 rho w (cs++cargs) hp (by simpa using hc.append ha);have h3:(2*f+1)%2=1:=by omega
 have h4:(2*f+1)/2=f:=by omega
 have he:(do let d<-Deferred.ofValue (.func (.func ((2*f+1)/2)) (if(2*f+1)%2=0then#[]else cs) (if(2*f+1)%2=0then cs else#[])) cargs;invoke d.target d.args:Sem Next).run P w=(callFunc f (cs++cargs)).run P w:=by rw[h3,h4];simp[Deferred.ofValue,invoke]
 rw[he,h1];refine⟨λh=>absurd h (by simp),?_⟩;refine(CallsIn.mono h2 ?_:CallsIn (WF none) 0 P f (cs++cargs) w _);rintro en w'⟨cv,rfl,hl⟩;exact⟨cv,rfl,hl⟩
theorem Cp{α}(i)(x:α):p8 i (.mk x x x x x x x x)=x:=by cases i<;>rfl
theorem AU(s):af s Eo=.cG []:=by cases s with|mk a b c=>show p8 c (p8 b (p8 a (.mk u2 u2 u2 u2 u2 u2 u2 u2)))=_;rw[Cp];show p8 c (p8 b (.mk u1 u1 u1 u1 u1 u1 u1 u1))=_;rw[Cp];show p8 c (.mk u0 u0 u0 u0 u0 u0 u0 u0)=_;rw[Cp];rfl
theorem Gx:∀(n i)(args)(e)(k),i+n<=512->gi ((List.range' i n).map bj) args e k=1->∃e',k e'=1/\args.length=n/\(∀t,t<512->af (bj t) e'=if i<=t then(args[t-i]?).getD (af (bj t) e)else af (bj t) e)
 |0,i,[],e,k,_,h=>⟨e,h,rfl,λt _=>by simp⟩|0,i,_::_,e,k,_,h=>(aw h).elim|n+1,i,[],e,k,_,h=>(aw h).elim|n+1,i,v::args,e,k,hi,h=>by
  have h':JF (bj i) v e (λe'=>gi ((List.range' (i+1) n).map bj) args e' k)=1:=h;rw[sG]at h';obtain⟨e',h1,h2,h3⟩:=Gx n (i+1) args _ k (by omega) h';refine⟨e',h1,by simp_all,λt ht=>?_⟩;rcases Nat.lt_trichotomy t i with hlt|heq|hgt
  .have hne:bj t≠bj i:=λe=>by have:=fI (by omega) (by omega) e;omega
   have e1:af (bj t) (kY (bj i) v e)=af (bj t) e:=by rw[fk,if_neg hne]
   rw[h3 t ht,e1,if_neg (show¬i+1<=t by omega),if_neg (show¬i<=t by omega)]
  .subst heq;rw[h3 t ht,if_neg (show¬t+1<=t by omega),if_pos (YC t),fk,if_pos rfl];simp
  .have hne:bj t≠bj i:=λe=>by have:=fI (by omega) (by omega) e;omega
   have e1:af (bj t) (kY (bj i) v e)=af (bj t) e:=by rw[fk,if_neg hne]
   rw[h3 t ht,e1,if_pos (show i+1<=t by omega),if_pos (show i<=t by omega),show t-i=(t-(i+1))+1by omega,List.getElem?_cons_succ]
section
variable{P:Program}{nt:Nat}
def tS(tmps:Array Value):ResultVar->Sem Value|.tmp t=>pure (tmps.getD t undef)|.cell a t=>do loadVar t (<-asAddr (tmps.getD a undef))
theorem Jw(fn)(tmps):results fn tmps=(do let vs<-fn.results.mapM (tS tmps);pure (if h:vs.size=1then vs[0]else .tuple vs)):=by rfl
def acs(P:Program)(nt:Nat)(e:Env)(H:Heap)(r:ResultVar)(v:V):Prop:=∀{base:Nat}{w0 w:World}{rho:Nat->Option Nat}{tmps:Array Value},PR P base w0 rho H w->TR (mu rho H w) nt e tmps->∃c,(tS tmps r).run P w=.ok c w/\VR (mu rho H w) v c
theorem T1{m}{e}{tmps}(h:TR m nt e tmps){t}(ht:t<nt):VR m (af (bj t) e) (tmps.getD t undef):=by have hs:=h.size;have hex:tmps[t]?=some tmps[t]:=Yd (by omega);rw[Yn,hex];exact h.get t _ hex
theorem EN:∀(l)(rs)(e)(H)(k),lu P nt l=some rs->xu rs e H k=1->∃vs,k vs=1/\vs.length=l.length/\∀{base}{w0 w}{rho}{tmps},PR P base w0 rho H w->TR (mu rho H w) nt e tmps->∃cs,(l.mapM (tS tmps)).run P w=.ok cs w/\bZ (mu rho H w) vs cs
 |[],rs,e,H,k,hc,h=>by simp only[lu,Option.some.injEq]at hc;subst hc;exact⟨[],h,rfl,λhp ht=>⟨[],rfl,by simp only[bZ]⟩⟩|r::l,rs,e,H,k,hc,h=>by
  have key:∀(q)(qs),rs=q::qs->lu P nt l=some qs->(∀f,adQ q e H f=1->∃v,f v=1/\acs P nt e H r v)->∃vs,k vs=1/\vs.length=(r::l).length/\∀{base}{w0 w}{rho}{tmps},PR P base w0 rho H w->TR (mu rho H w) nt e tmps->∃cs,((r::l).mapM (tS tmps)).run P w=.ok cs w/\bZ (mu rho H w) vs cs:=λq qs hrs hqs hq=>by subst hrs;have h':=h;obtain⟨v,h1,h2⟩:=hq _ h';obtain⟨vs,h3,h4,h5⟩:=EN l qs e H _ hqs h1;refine⟨v::vs,h3,by simp[h4],λhp ht=>?_⟩;obtain⟨c,g1,g2⟩:=h2 hp ht;obtain⟨cs,g3,g4⟩:=h5 hp ht;exact⟨c::cs,by simp[List.mapM_cons,g1,g3],by exact⟨c,cs,rfl,g2,g4⟩⟩
  cases r with
  |tmp t=>
   simp only[lu]at hc;split at hc
   .rename_i qs hqs;split at hc;.rename_i hlt;cases hc;refine key _ _ rfl hqs λf hf=>?_;have hf':jU (bj t) e f=1:=hf;rw[eg]at hf';exact⟨_,hf',λhp ht=>⟨_,rfl,T1 ht hlt⟩⟩
    .cases hc
   .cases hc|cell a t=>
   simp only[lu]at hc;split at hc
   .rename_i qs hqs hag;split at hc;.rename_i hlt;cases hc;refine key _ _ rfl hqs λf hf=>?_;have hf':jU (bj a) e (λv=>ej 0 v λb o=>nJ 0 H b o f)=1:=hf;rw[eg]at hf';obtain⟨b,off,hb,h1⟩:=fP hf';obtain⟨row,v,h2,h3,h4⟩:=xJ h1;refine⟨v,h4,λ{base w0 w rho tmps}hp ht=>?_⟩;have vx:=T1 ht hlt;rw[hb]at vx;obtain⟨c,hc,hm⟩:=vx;obtain⟨cv,g1,g2,_⟩:=hp.cell (hp.lR hm h2) h2 h3;exact⟨cv,by simp[tS,hc,asAddr,loadVar,kg hag,g1],g2⟩
    .cases hc
   .rename_i qs n hqs hag hsz;split at hc;.rename_i hlt;cases hc;refine key _ _ rfl hqs λf hf=>?_;have hf':jU (bj a) e (λv=>ej 0 v λb o=>eL 0 H b o n λl=>f (.agg l))=1:=hf;rw[eg]at hf';obtain⟨b,off,hb,h1⟩:=fP hf';obtain⟨row,h2,h3,h4⟩:=pg h1;refine⟨_,h4,λ{base w0 w rho tmps}hp ht=>?_⟩;have vx:=T1 ht hlt;rw[hb]at vx;obtain⟨c,hc,hm⟩:=vx;obtain⟨cs,g1,g2,g3⟩:=hp.cells (hp.lR hm h2) h2 h3;exact⟨.agg cs.toArray,by simp[tS,hc,asAddr,loadVar,kg hag,cK hsz,g1],by exact⟨_,rfl,g2⟩⟩
    .cases hc
   .cases hc
end
theorem Xc{l}{k}(h:Jy l k=1):∃v,k v=1/\∀(m)(cs),bZ m l cs->VR m v (if h:cs.toArray.size=1then cs.toArray[0]else .tuple cs.toArray):=by cases l with|nil=>refine⟨_,h,λm cs hv=>?_⟩;subst hv;exact⟨#[],rfl,by rfl⟩|cons v l=>cases l with|nil=>refine⟨v,h,λm cs hv=>?_⟩;obtain⟨c,r,rfl,h1,rfl⟩:=hv;exact h1|cons u l=>refine⟨_,h,λm cs hv=>?_⟩;have:=hv.length;rw[dif_neg (by simp_all)];simp only[VR];simp_all
section
variable{P:Program}
theorem jY{f}{fn}{c}(hf:P.funcs[f]?=some fn)(hb:fn.body=some c)(hn:(fn.name== "runtime.NumGoroutine")=false)(args)(w):(callFunc f args).run P w=.ok (.enter f args) w:=by
 have hn':fn.name≠ "runtime.NumGoroutine":=by simp_all
 simp[callFunc,hf,hb,hn']
theorem Fi{fn}{tmps}{R}{base}{w0 w}{rho rho'}{H H'}{nt}{e}(h0:∀b c,rho b=some c->b<H.n):∀{w'},PR P base w0 rho' H' w'->TR (mu rho' H' w') nt e tmps->Ext rho H w rho' H' w'->∀(bs:List (Nat×Nat)),(∀p∈bs,H.n<=p.1)->(bs.map (·.1)).Nodup->(∀p∈bs,rho' p.1=some p.2/\H'.get p.1=.mark/\w'.heap[p.2]?=some (.deferred (some [])))->(∀w2,PR P base w0 rho' H' w2->TR (mu rho' H' w2) nt e tmps->Ext rho H w rho' H' w2->∃v,(results fn tmps).run P w2=.ok v w2/\R (.returned v) w2)->LeavesInM (WF none) 0 P fn tmps R (bs.map λp=>{target:=.collected p.2,args:=#[]}) .returning w'
 |w',hp,ht,hx,[],_,_,_,hR=>hR w' hp ht hx|w',hp,ht,hx,p::bs,hn,hnd,hb,hR=>by
  obtain⟨h1,h2,h3⟩:=hb p (YL ..);have hlt:=(hp.jM _ _ h1).2.2.1;have hnn:=hn p (YL ..);have hot:∀k,k≠p.2->(w'.putObj p.2 (.deferred none)).heap[k]?=w'.heap[k]?:=λk hk=>World.putObj_heap_other hk;have hm:(mu rho' H' w').le (mu rho' H' (w'.putObj p.2 (.deferred none))):=⟨λ_ _ h=>h,λc z⟨cs,e,fr,g1,g2⟩=>⟨cs,e,fr,(hot c λe=>by simp_all).trans g1,g2⟩⟩;have hp2:PR P base w0 rho' H' (w'.putObj p.2 (.deferred none)):=by
   refine⟨oz hp.below rfl rfl rfl (by simp) λk hk=>hot k (by have:=(hp.jM _ _ h1).2.1;omega),by simp;exact hp.cS,hp.wn,λb c hr=>by simp;exact hp.jM b c hr,hp.inj,λb c hr=>?_,hp.out,vt hp.gl.1 λc hc=>hot c λe=>hp.gl.2.2 _ _ h1 (e▸hc),λc hc=>by simp;exact hp.gl.2.1 c hc,hp.gl.2.2⟩;by_cases hc:c=p.2;.subst hc;obtain rfl:=hp.inj _ _ _ hr h1;exact⟨_,World.putObj_heap_same hlt,by rw[h2];exact⟨_,rfl⟩⟩
   .obtain⟨o,g1,g2⟩:=hp.cV b c hr;exact⟨o,(hot c hc).trans g1,g2.mono hm⟩
  have hx2:Ext rho H w rho' H' (w'.putObj p.2 (.deferred none)):=by
   refine⟨hx.n,hx.bF,by simp;exact hx.size,hx.cm,hx.old,hx.live,hx.qF,hx.new,λc hc hb=>?_,λb hm=>?_,λc cs e fr hc=>?_,λc r hc=>?_⟩
   .refine(hot c λe=>?_).trans (hx.fr c hc hb);subst e;rcases hx.new _ _ hnn h1 with h|⟨b0,g1,g2⟩;.omega
    .have:=hb b0 g1;omega
   .obtain⟨a1,a2,a3⟩:=hx.marks b hm;refine⟨a1,a2,λc hc=>(hot c λe=>?_).trans (a3 c hc)⟩;subst e;have:=hp.inj _ _ _ (a2.trans hc) h1;have:=h0 _ _ hc;omega
   .obtain⟨cs',e',fr',g1,g2⟩:=hx.rows c cs e fr hc;exact⟨cs',e',fr',(hot c λe=>by simp_all).trans g1,g2⟩
   .obtain⟨r',g1⟩:=hx.loops c r hc;exact⟨r',(hot c λe=>by simp_all).trans g1⟩
  refine⟨by simp,YH ⟨p.2,_,rfl,run_takeDeferred h3,?_⟩⟩;rw[List.map_cons,WY]at hnd;refine Fi h0 hp2 (ht.mono hm) hx2 bs (λq hq=>hn q (YI _ hq)) hnd.2 (λq hq=>?_) hR;obtain⟨g1,g2,g3⟩:=hb q (YI _ hq);refine⟨g1,g2,(hot q.2 λe=>?_).trans g3⟩;have:=hp.inj _ _ _ (e▸g1) h1;exact hnd.1 (Ye.2 ⟨q,hq,this⟩)
theorem adP{f:FuncId}{fn:Func}{fe:dr}{fuel:Nat}{ph:dg}{args:List V}{H:Heap}{k:K}(hm:P.follows .mixedOrders=true)(hph:jb P ph)(hf:P.funcs[f]?=some fn)(hn:(fn.name== "runtime.NumGoroutine")=false)(hfe:jE P f fn=some fe)(h:Vg fe fuel ph args H k=1):∃v H',iv P f args H v H'/\k v H'=1:=by
 unfold jE at hfe;split at hfe
 .rename_i c hb;split at hfe
  .rename_i hcd;rw[Yu,decide_eq_true_eq,decide_eq_true_eq]at hcd;split at hfe
   .rename_i r hr;cases hfe;have h':gi ((List.range (fn.params.size+fn.nfree)).map bj) args Eo (λe=>gG (iA P fn.ntmps f false c) fuel ph e H (λe H=>xu r e H λl=>Jy l λv=>k v H) λn e H=>Nat.rec (motive:=λ_=>R) (xu r e H λl=>Jy l λv=>k v H) (λ_ _=>no 6) n)=1:=h;rw[List.range_eq_range']at h';obtain⟨e,h1,h2,h3⟩:=Gx _ 0 args Eo _ (by omega) h';obtain⟨out,e1,H1,h4,h5⟩:=Is hm hph fuel c e H _ _ h1;have h6:xu r e1 H1 (λl=>Jy l λv=>k v H1)=1/\(out.ex=.normal\/out.ex=.ret):=by cases out with|normal=>exact⟨h5,YH rfl⟩|jump n=>cases n with|zero=>exact⟨h5,YE rfl⟩|succ n=>exact(aw h5).elim
    obtain⟨vs,h7,h8,h9⟩:=EN (nt:=fn.ntmps) _ _ _ _ _ hr h6.1;obtain⟨v,h10,h11⟩:=Xc h7;refine⟨v,H1,λbase w0 rho w cargs hp ha=>⟨jY hf hb hn _ _,?_⟩,h10⟩;have hlen:=ha.length;have hsz:cargs.size=fn.params.size+fn.nfree:=by simp_all
    have htr:TR (mu rho H w) fn.ntmps e (cargs++Qh (fn.ntmps-cargs.size) undef):=by
     refine⟨by simp;omega,hcd.1,λt u hu=>?_,λt g1 g2=>?_⟩
     .have ht:t<fn.ntmps:=by have:=(YO.1 hu).1;simp_all
      rw[h3 t (by omega),if_pos (Ya _),Wu];by_cases htc:t<cargs.size
      .rw[Array.getElem?_append_left htc]at hu;have hta:t<args.length:=by omega
       have hex:args[t]?=some args[t]:=YA hta;obtain⟨c',g3,g4⟩:=ha.get hex;simp_all
      .rw[Array.getElem?_append_right (by omega),YB4]at hu;split at hu;.cases hu;rw[WJ (by omega),Ww,AU];exact pL
       .cases hu
     .rw[h3 t g2,if_pos (Ya _),Wu,WJ (by omega),Ww,AU]
    refine callsIn_of_wp_marks (F:=WF none) (n:=0) hf hb trivial ?_;refine h4 none rfl base w0 rho w _ hp htr (λ_ e=>by cases e) _ λa' w' rho' ms d1 m1 p1 t1 x1=>?_;obtain⟨bs,nd,hms,hbs⟩:=m1;have hd:a'.defers=bs.map (λp=>{target:=.collected p.2,args:=#[]}):=by rw[d1,hms];simp
    have key:=Fi (fn:=fn) (tmps:=a'.tmps) (R:=λen w'=>∃cv,en=.returned cv/\Left P base w0 rho H w v H1 cv w') hp.lt p1 t1 x1 bs (λp hp=>(hbs p hp).1) nd (λp hp=>⟨(hbs p hp).2.2.1,(hbs p hp).2.2.2.1,(hbs p hp).2.2.2.2⟩) λw2 p2 t2 x2=>by
     obtain⟨cs,g1,g2⟩:=h9 p2 t2;have hres:(results fn a'.tmps).run P w2=.ok (if h:cs.toArray.size=1then cs.toArray[0]else .tuple cs.toArray) w2:=by rw[Jw,Array.mapM_eq_mapM_toList];simp[g1]
     exact⟨_,hres,_,rfl,rho',h11 _ _ g2,p2,x2⟩
    have hpost:bodyPostM (WF none) 0 P fn (λen w'=>∃cv,en=.returned cv/\Left P base w0 rho H w v H1 cv w') .normal a' w':=by show LeavesInM (WF none) 0 P fn a'.tmps _ a'.defers .returning w';simp_all
    rcases h6.2with h|h<;>rw[h]<;>exact hpost
   .cases hfe
  .cases hfe
 .cases hfe
def vZ(P:Program)(f:FuncId)(g:List V->Heap->K->R):Prop:=∀args H k,g args H k=1->∃v H',iv P f args H v H'/\k v H'=1
def jc(P:Program)(t:Nat->Option dr):Prop:=∀f fe,t f=some fe->(∃fn,P.funcs[f]?=some fn/\(fn.name== "runtime.NumGoroutine")=false/\jE P f fn=some fe)\/∃g,fe=.nat g/\vZ P f g
theorem Gy:∀(sl)(args)(e)(k),gi sl args e k=1->args.length=sl.length/\∃e',k e'=1/\∀(m)(nt)(ps)(cargs)(tmps),gZ nt ps=some sl->TR m nt e tmps->bZ m args cargs->TR m nt e' ((ps.zip cargs).foldl (λtmps(q:Tmp×Value)=>tmps.setIfInBounds q.1 q.2) tmps)
 |[],args,e,k,h=>by cases args with|nil=>exact⟨rfl,e,h,λm nt ps cargs tmps hc ht hv=>by simp only[bZ]at hv;simp_all⟩|cons=>exact(aw h).elim
 |s::sl,args,e,k,h=>by cases args with|nil=>exact(aw h).elim|cons v args=>have h':JF s v e (λe'=>gi sl args e' k)=1:=h;rw[sG]at h';obtain⟨h1,e',h2,h3⟩:=Gy sl args _ k h';refine⟨by simp_all,e',h2,λm nt ps cargs tmps hc ht hv=>?_⟩;cases ps with|nil=>simp[gZ]at hc|cons p ps=>
    simp only[gZ]at hc;split at hc
    .rename_i r hr;split at hc;.rename_i hp;cases hc;obtain⟨c,cr,rfl,hv1,hv2⟩:=hv;simpa using h3 m nt ps cr _ hr (ht.put hp hv1) hv2
     simp_all
    simp_all
def kF:Out->Option Code|.normal=>none|.jump 0=>some .ret|.jump (n+1)=>some (.exit n)
theorem qC{nt}:∀{l}{r},gZ nt l=some r->r.length=l.length
 |[],r,h=>by simp only[gZ,Option.some.injEq]at h;simp_all|t::l,r,h=>by
  simp only[gZ]at h;split at h
  .rename_i q hq;split at h;.cases h;simp[qC hq]
   simp_all
  simp_all
theorem aaX{ph:dg}(hm:P.follows .mixedOrders=true)(hph:jb P ph){fuel b:Nat}{args:List V}{H:Heap}{k:K}(h:Zv (aN P) fuel ph b args H k=1):∃v H',FSq P (.sU b) args H v H'/\k v H'=1:=by unfold Zv at h;rw[aW]at h;obtain⟨st,j,e,ps,asL,bo,hb,h1⟩:=l5 h;match st,hb,h1 with|s+1,hb,h1=>exact(aw h1).elim|0,hb,h1=>obtain⟨nt,fid,c1⟩:=asL;obtain⟨nt2,fid2,c2⟩:=bo;have h2:gi ps args e (λe1=>gG (iA P nt fid true c1) fuel ph e1 H (λe2 H=>dv H b λbl=>eU bl λst1 j1 e1 ps1 as1 bo1=>Nat.rec (motive:=λ_=>R) (cZ 0 H b (.loop 1 j1 e1 ps1 as1 bo1) λH=>gG (iA P nt2 fid2 true c2) fuel ph e2 H (λ_ H=>dv H b λbl=>eU bl λ_ _ e' ps' as' bo'=>cZ 0 H b (.loop 0 0 e' ps' as' bo') λH=>k (.bool true) H) λn _ H=>dv H b λbl=>eU bl λ_ _ e' ps' as' bo'=>cZ 0 H b (.loop 2 (WN n) e' ps' as' bo') λH=>k (.bool false) H) (λ_ _=>no 13) st1) (λ_ _ _=>no 11))=1:=h1;obtain⟨hlen,e1,h3,hT⟩:=Gy _ _ _ _ h2;obtain⟨out,e2,H1,cs1,h4⟩:=Is hm hph fuel c1 e1 H _ _ h3;cases out with|jump n=>exact(aw h4).elim|normal=>have h4':dv H1 b (λbl=>eU bl λst1 j1 e1 ps1 as1 bo1=>Nat.rec (motive:=λ_=>R) (cZ 0 H1 b (.loop 1 j1 e1 ps1 as1 bo1) λH=>gG (iA P nt2 fid2 true c2) fuel ph e2 H (λ_ H=>dv H b λbl=>eU bl λ_ _ e' ps' as' bo'=>cZ 0 H b (.loop 0 0 e' ps' as' bo') λH=>k (.bool true) H) λn _ H=>dv H b λbl=>eU bl λ_ _ e' ps' as' bo'=>cZ 0 H b (.loop 2 (WN n) e' ps' as' bo') λH=>k (.bool false) H) (λ_ _=>no 13) st1)=1:=h4;rw[aW]at h4';obtain⟨st1,j1,ea,psa,asa,boa,hb1,h5⟩:=l5 h4';match st1,hb1,h5 with
   |s+1,hb1,h5=>exact(aw h5).elim|0,hb1,h5=>
    obtain⟨H2,h6,s2⟩:=ic (show cZ 0 H1 b (.loop 1 j1 ea psa asa boa) _=1from h5);obtain⟨out3,e3,H3,cs2,h7⟩:=Is hm hph fuel c2 e2 H2 _ _ h6;have fin:∃(bv:Bool)(st4 jmp:Nat)(H4:Heap)(st3 j3:Nat)(eb:Env)(psb:List Slot)(asb bob:RC),H3.get b=.loop st3 j3 eb psb asb bob/\OJ H3 b (.loop st4 jmp eb psb asb bob) H4/\k (.bool bv) H4=1/\Jo jmp=kF out3/\bv=(kF out3).isNone/\st4=Xr (if(kF out3).isNone then .ready else .done):=by cases out3 with|normal=>have h8:dv H3 b (λbl=>eU bl λ_ _ e' ps' as' bo'=>cZ 0 H3 b (.loop 0 0 e' ps' as' bo') λH=>k (.bool true) H)=1:=h7;rw[aW]at h8;obtain⟨st3,j3,eb,psb,asb,bob,hb3,h9⟩:=l5 h8;obtain⟨H4,h10,s4⟩:=ic h9;exact⟨true,0,0,H4,st3,j3,eb,psb,asb,bob,hb3,s4,h10,rfl,rfl,rfl⟩|jump n=>have h8:dv H3 b (λbl=>eU bl λ_ _ e' ps' as' bo'=>cZ 0 H3 b (.loop 2 (WN n) e' ps' as' bo') λH=>k (.bool false) H)=1:=h7;rw[aW]at h8;obtain⟨st3,j3,eb,psb,asb,bob,hb3,h9⟩:=l5 h8;obtain⟨H4,h10,s4⟩:=ic h9;exact⟨false,2,n+1,H4,st3,j3,eb,psb,asb,bob,hb3,s4,h10,by cases n<;>rfl,by cases n<;>rfl,by cases n<;>rfl⟩
    obtain⟨bv,st4,jmp,H4,st3,j3,eb,psb,asb,bob,hb3,s4,hk,hpend,hbv,hst4⟩:=fin;refine⟨.bool bv,H4,⟨λrd base w0 rho w cx cargs hp hx ha o a=>?_,λf caps e=>by cases e⟩,hk⟩;simp only[VR]at hx;obtain⟨c,rfl,hmu⟩:=hx;have hr:rho b=some c:=hmu.2 (by rw[hb];trivial);obtain⟨o1,g1,g2⟩:=hp.cV _ _ hr;rw[hb]at g2;obtain⟨r,nt',fid',rfl,g3,g4,g5,g6,g7,g8⟩:=g2;have hready:∀{x:LoopState},Xr x=0->x=.ready:=λ{x}hx=>by cases x<;>simp[Xr]at hx;rfl
    simp only[RC.mk.injEq]at g7 g8;obtain⟨rfl,rfl,g7⟩:=g7;obtain⟨rfl,rfl,g8⟩:=g8;have hsz:cargs.size=r.params.size:=by rw[<-YN1,ha.length,hlen,qC g6,YN1]
    have he:(do let d<-Deferred.ofValue (.func (.yield c) #[] #[]) cargs;invoke d.target d.args:Sem Next).run P w=.ok (.round c r.fn ((r.params.zip cargs).foldl (λtmps(t,a)=>tmps.setIfInBounds t a) r.tmps) r.assign r.body) w:=by have:=run_yield (P:=P) g1 hsz;simp[Deferred.ofValue,invoke,this]
    rw[he,g7,g8];have htr:TR (mu rho H w) nt' e1 ((r.params.zip cargs).foldl (λtmps(t,a)=>tmps.setIfInBounds t a) r.tmps):=by have:=hT (mu rho H w) nt' r.params.toList cargs.toList r.tmps g6 g5 ha;rw[<-Array.foldl_toList,Array.toList_zip];exact this
    refine⟨λh=>absurd h (by simp),?_⟩;refine(roundIn_of_wpIn (F:=WF rd) (n:=0) trivial ?_:RoundIn (WF rd) 0 P _ _ _ _ _ _ _);refine(cs1 (some c) rfl base w0 rho w {tmps:=_,defers:=[]} hp htr (λl e=>by cases e;exact⟨r,g1⟩) _ λa1 w1 rho1 ms1 d1 m1 p1 t1 x1=>?_:Code.wpIn (WF (some c)) 0 P _ _ _ _);refine pI ?_;have hr1:rho1 b=some c:=x1.live b c hr (by rw[hb1];trivial);obtain⟨o2,q1,q2⟩:=p1.cV _ _ hr1;rw[hb1]at q2;obtain⟨r1,nt1,fid1,rfl,q3,q4,q5,q6,q7,q8⟩:=q2;refine⟨_,run_beginRound q1 (hready q3),?_⟩;obtain⟨p2,x2⟩:=p1.write (H':=H2) (w':=w1.putObj c (.loop {r1 with state:=.busy})) hr1 (by rw[hb1];intro e;cases e) s2.n s2.bF s2.wb s2.get s2.vQ trivial ⟨rfl,rfl,rfl⟩ (by simp) (World.putObj_heap_same (YO.1 q1).1) (λj hj=>World.putObj_heap_other hj) ⟨{r1 with state:=.busy},nt1,fid1,rfl,rfl,q4,q5,q6,q7,q8⟩ (λcs2 e2 fr2 h=>by rw[q1]at h;cases h) (λ_ _=>⟨_,rfl⟩);refine(cs2 (some c) rfl base w0 rho1 _ a1 p2 (t1.mono x2.mu) (λl e=>by cases e;exact⟨_,World.putObj_heap_same (YO.1 q1).1⟩) _ λa3 w3 rho3 ms3 d3 m3 p3 t3 x3=>?_:Code.wpIn (WF (some c)) 0 P _ _ _ _);have hr3:rho3 b=some c:=x3.live b c hr1 (by rw[hb3];trivial);obtain⟨o3,u1,u2⟩:=p3.cV _ _ hr3;rw[hb3]at u2;obtain⟨r3,nt3,fid3,rfl,u3,u4,u5,u6,u7,u8⟩:=u2;obtain⟨p4,x4⟩:=p3.write (H':=H4) (w':=w3.putObj c (.loop {r3 with state:=if(kF out3).isNone then .ready else .done,pending:=kF out3})) hr3 (by rw[hb3];intro e;cases e) s4.n s4.bF s4.wb s4.get s4.vQ trivial ⟨rfl,rfl,rfl⟩ (by simp) (World.putObj_heap_same (YO.1 u1).1) (λj hj=>World.putObj_heap_other hj) ⟨{r3 with state:=if(kF out3).isNone then .ready else .done,pending:=kF out3},nt3,fid3,rfl,hst4.symm,hpend.symm,u5,u6,u7,u8⟩ (λcs2 e2 fr2 h=>by rw[u1]at h;cases h) (λ_ _=>⟨_,rfl⟩);have hR:∃cv,a.put o.dst (.bool (kF out3).isNone)=a.put o.dst cv/\Left P base w0 rho H w (.bool bv) H4 cv (w3.putObj c (.loop {r3 with state:=if(kF out3).isNone then .ready else .done,pending:=kF out3})):=⟨_,rfl,rho3,by simp only[VR];rw[hbv],p4,Ext.trans hp.lt x1 (Ext.trans p1.lt x2 (Ext.trans p2.lt x3 x4))⟩;have hend:=run_endRound (P:=P) (kF out3) u1;cases out3 with|normal=>exact⟨_,_,hend,hR⟩|jump n=>cases n<;>exact⟨_,_,hend,hR⟩
theorem Iv(hm:P.follows .mixedOrders=true){t}(ht:jc P t)(fuel):∀depth,jb P (aT (aN P) t fuel depth)
 |0=>λx args H k h=>(aw h).elim|d+1=>λx args H k h=>by
  have ih:=Iv hm ht fuel d;cases x<;>first|exact(aw h).elim|skip
  rotate_left;.exact aaX hm ih h
  rename_i f caps;have key:∀g l,Iy t fuel (aT (aN P) t fuel d) g l H k=1->∃v H',iv P g l H v H'/\k v H'=1:=λg l h=>by unfold Iy at h;rw[ax]at h;cases htf:t g with|none=>rw[htf]at h;exact(aw h).elim|some fe=>
    rw[htf]at h;have h2:=h;rcases ht g fe htf with⟨fn,h3,h4,h5⟩|⟨q,rfl,h3⟩;.exact adP hm ih h3 h4 h5 h2
    .exact h3 _ _ _ (show q l H k=1from h2)
  have h':Nat.rec (jQ args caps λargs=>Iy t fuel (aT (aN P) t fuel d) (Wm f 2) args H k) (λ_ _=>jQ caps args λargs=>Iy t fuel (aT (aN P) t fuel d) (Wm f 2) args H k) (Yx f 2)=1:=h;rcases(by omega:f%2=0\/f%2=1)with hf|hf
  .rw[show Yx f 2=0from hf]at h';have h'':=h';rw[fu]at h'';obtain⟨v,H',h1,h2⟩:=key _ _ h'';have hq:f=2*(f/2):=by omega
   refine⟨v,H',?_,h2⟩;rw[hq];exact iv.fs h1
  .rw[show Yx f 2=1from hf]at h';have h'':jQ caps args (λargs=>Iy t fuel (aT (aN P) t fuel d) (Wm f 2) args H k)=1:=h';rw[fu]at h'';obtain⟨v,H',h1,h2⟩:=key _ _ h'';have hq:f=2*(f/2)+1:=by omega
   refine⟨v,H',?_,h2⟩;rw[hq];exact iv.fsb h1
theorem PR.empty(w:World)(hg:GQ w/\∀c,GB c->c<w.heap.size):PR P w.heap.size w (λ_=>none) H0 w where
 below:=Below.refl _ _;cS:=YC _;wn:=YC _;jM b c h:=by cases h
 inj b b' c h:=by cases h
 cV b c h:=by cases h
 out b _:=rfl;gl:=⟨hg.1,hg.2,λb c h=>by cases h⟩
noncomputable def isTrue(v:V)(_:Heap):R:=eO 0 v λb=>aH b 1 (no 0)
theorem Nj{v}{H}(h:isTrue v H=1):v=.bool true:=by obtain⟨b,rfl,h1⟩:=mJ h;obtain⟨h2,_⟩:=aU h1;rw[h2]
theorem known(hm:P.follows .mixedOrders=true){t}(ht:jc P t){fuel depth}{f:FuncId}{fn}{c}(hf:P.funcs[f]?=some fn)(hb:fn.body=some c)(hn:(fn.name== "runtime.NumGoroutine")=false)(h:aT (aN P) t fuel depth (.func (2*f) []) [] H0 isTrue=1)(w)(hg:GQ w/\∀c,GB c->c<w.heap.size:=by exact Gno):Calls P f #[] w λe w'=>e=.returned (.bool true)/\Below w.heap.size w w':=by
 obtain⟨v,H',h1,h2⟩:=Iv hm ht fuel depth _ _ _ _ h;have:=Nj h2;subst this;have h3:=h1.1 none w.heap.size w (λ_=>none) w (.func (.func f) #[] #[]) #[] (PR.empty w hg) (by exact⟨#[],by simp,by rfl⟩) (by rfl) {(default:Oper)with dst:=some 0} {tmps:=#[undef],defers:=[]};have he:(do let d<-Deferred.ofValue (.func (.func f) #[] #[]) #[];invoke d.target d.args:Sem Next).run P w=.ok (.enter f #[]) w:=by have:=jY hf hb hn #[] w;simp[Deferred.ofValue,invoke,this]
 rw[he]at h3;obtain⟨_,h4⟩:=h3;refine CallsIn.calls (h4.mono λe w' he=>?_) λk=>by simp[Fence.room]
 cases e with|returned u=>
  obtain⟨cv,h5,rho',h6,h7,_⟩:=he;have h8:=by simpa[Act.put]using h5
  subst h8;exact⟨by rw[h6],h7.below⟩|panicked ch=>simp_all|outgrown=>obtain⟨_,_,h⟩:=he;simp_all
end
section
variable{P:Program}{base:Nat}{w0 w w':World}{rho:Nat->Option Nat}{H:Heap}
theorem PR.called(h:PR P base w0 rho H w)(hb:Below w.heap.size w w'):PR P base w0 rho H w'/\Ext rho H w rho H w':=by
 have hE:Ext rho H w rho H w':=⟨YC _,YC _,hb.size,λ_ _ _=>⟨rfl,rfl⟩,λ_ _ _ h=>h,λ_ _ h _=>h,λ_ _ h=>h,λb c hb h1=>absurd (h.lt b c h1) (by omega),λc hc _=>hb.block c hc,λb h1=>⟨h1,rfl,λc hc=>hb.block c (h.jM b c hc).2.2.1⟩,λc cs e fr h1=>⟨cs,e,fr,(hb.block c (YO.1 h1).1).trans h1,rfl⟩,λc r h1=>⟨r,(hb.block c (YO.1 h1).1).trans h1⟩⟩;refine⟨⟨h.below.trans (hb.mono h.cS),Ys h.cS hb.size,h.wn,λb c hr=>?_,h.inj,λb c hr=>?_,h.out,h.gl.step hE⟩,hE⟩;.obtain⟨h1,h2,h3,h4⟩:=h.jM b c hr;exact⟨h1,h2,YF h3 hb.size,h4⟩
 .obtain⟨o,h1,h2⟩:=h.cV b c hr;exact⟨o,(hb.block c (h.jM b c hr).2.2.1).trans h1,h2.mono hE.mu⟩
theorem iv.pz{f:FuncId}{fn:Func}{c:Code}{args:List V}{v:V}(hf:P.funcs[f]?=some fn)(hb:fn.body=some c)(hn:(fn.name== "runtime.NumGoroutine")=false)(h:∀(base:Nat)(w0:World)(rho:Nat->Option Nat)(w:World)(cargs:Array Value),PR P base w0 rho H w->bZ (mu rho H w) args cargs.toList->∃cv,VR (mu rho H w) v cv/\Calls P f cargs w λe w'=>e=.returned cv/\Below w.heap.size w w'):iv P f args H v H:=λbase w0 rho w cargs hp ha=>by obtain⟨cv,h1,h2⟩:=h base w0 rho w cargs hp ha;refine⟨jY hf hb hn _ _,?_⟩;have h3:CallsIn (WF none) 0 P f cargs w λe w'=>e=.returned cv/\Below w.heap.size w w':=callsIn_wide.2 h2;refine h3.mono ?_;rintro e w'⟨rfl,h4⟩;obtain⟨h5,h6⟩:=hp.called h4;exact⟨cv,rfl,rho,VR.mono h6.mu v cv h1,h5,h6⟩
theorem uN{m}{l n}{cargs}(h:bZ m [.str l n] cargs.toList):cargs=#[.string ⟨(aD l n).toArray⟩]/\n<256^l:=by obtain⟨c,r,h1,⟨rfl,h2⟩,rfl⟩:=h;exact⟨by apply YO2;omega,h2⟩
end
theorem toI_nat{k}{n}(hk:k.signed=false)(h:n<fq k):toI k n=n:=by unfold toI IntKind.wrap fq at*;have:(n:Int)%(2^k.bits:Nat)=n:=Int.emod_eq_of_lt (by omega) (by omega);simp_all
noncomputable def SG(args:List V)(H:Heap)(k:K):R:=List.rec (motive:=λ_=>R) (no 0) (λx r _=>List.rec (motive:=λ_=>R) (dZ 0 x λl n=>aH (Yb l 16777216) (vD l n 4294967295 λc=>av (Nat.sub 4294967295 c) λr=>k (.int 6 r) H) (no 0)) (λ_ _ _=>no 0) r) args
theorem SH{args}{H}{k}(h:SG args H k=1):∃l n,args=[.str l n]/\l<=16777216/\vD l n 4294967295 (λc=>av (Nat.sub 4294967295 c) λr=>k (.int 6 r) H)=1:=by match args,h with|[],h=>exact(aw h).elim|[x],h=>obtain⟨l,n,rfl,h1⟩:=eo (id:=0) h;obtain⟨h2,h3⟩:=aU h1;exact⟨l,n,rfl,cB h2,h3⟩|x::y::r,h=>exact(aw h).elim
def uv(sep:List UInt8):List (List UInt8)->List UInt8|[]=>[]|[x]=>x|x::y::r=>x++(sep++uv sep (y::r))
theorem TK(n l:Nat):Yt n (Ym 8 l)=n*256^l:=by show n<<<(8*l)=_;rw[Nat.shiftLeft_eq,Nat.pow_mul]
theorem Lk{a b n m}(hn:n<256^a)(hm:m<256^b):aD (a+b) (n+m*256^a)=aD a n++aD b m/\n+m*256^a<256^(a+b):=by refine⟨by rw[Wt];exact fm a b n m hn,?_⟩;have h1:(m+1)*256^a<=256^b*256^a:=Nat.mul_le_mul_right _ hm;rw[Nat.pow_add,Wt (256^a)];rw[Nat.add_mul,Nat.one_mul]at h1;omega
theorem Fa{sl sn}(hs:sn<256^sl):∀{l}{k},KS sl sn l k=1->∃xs:List (Nat×Nat),l=xs.map (λp=>V.str p.1 p.2)/\∃tl tn,k tl tn=1/\((∀p∈xs,p.2<256^p.1)->aD tl tn=uv (aD sl sn) (xs.map λp=>aD p.1 p.2)/\tn<256^tl)|[],k,h=>⟨[],rfl,0,0,h,λ_=>⟨rfl,by simp⟩⟩|[v],k,h=>by have h':dZ 0 v (λl n=>k l n)=1:=h;obtain⟨l,n,rfl,h1⟩:=eo h';exact⟨[(l,n)],rfl,l,n,h1,λhx=>⟨rfl,hx (l,n) (by simp)⟩⟩|v::u::r,k,h=>by have h':dZ 0 v (λl n=>KS sl sn (u::r) λrl rn=>av (Yg l (Yg sl rl)) λtl=>av (Yg n (Yt (Yg sn (Yt rn (Ym 8 sl))) (Ym 8 l))) λtn=>k tl tn)=1:=h;obtain⟨l,n,rfl,h1⟩:=eo h';obtain⟨xs,h2,rl,rn,h3,h4⟩:=Fa hs h1;rw[ax,ax,TK,TK]at h3;refine⟨(l,n)::xs,by simp_all,_,_,h3,λhx=>?_⟩;obtain⟨h5,h6⟩:=h4 λp hp=>hx p (YI _ hp);have hn:=hx (l,n) (YL ..);obtain⟨c1,c2⟩:=Lk hs h6;obtain⟨c3,c4⟩:=Lk hn c2;refine⟨?_,c4⟩;refine c3.trans ?_;rw[c1,h5];cases xs with|nil=>cases h2|cons p xs=>rfl
noncomputable def IW(args:List V)(H:Heap)(k:K):R:=List.rec (motive:=λ_=>R) (no 0) (λx r _=>List.rec (motive:=λ_=>R) (no 0) (λs r2 _=>List.rec (motive:=λ_=>R) (dZ 0 s λsl sn=>aH (WA sn (Nat.pow 256 sl)) (bD 0 x (λb o n _ _=>aH (Yb n 16777216) (aH (YR n 0) (k (.str 0 0) H) (eL 0 H b o n λl=>KS sl sn l λtl tn=>aH (Yb tl 16777216) (k (.str tl tn) H) (no 0))) (no 0)) (k (.str 0 0) H)) (no 0)) (λ_ _ _=>no 0) r2) r) args
theorem Nt{args}{H}{k}(h:IW args H k=1):∃x sl sn,args=[x,.str sl sn]/\sn<256^sl/\bD 0 x (λb o n _ _=>aH (Yb n 16777216) (aH (YR n 0) (k (.str 0 0) H) (eL 0 H b o n λl=>KS sl sn l λtl tn=>aH (Yb tl 16777216) (k (.str tl tn) H) (no 0))) (no 0)) (k (.str 0 0) H)=1:=by match args,h with|[],h=>exact(aw h).elim|[x],h=>exact(aw h).elim|[x,s],h=>obtain⟨sl,sn,rfl,h1⟩:=eo (id:=0) h;obtain⟨h2,h3⟩:=aU h1;exact⟨x,sl,sn,rfl,eQ h2,h3⟩|x::y::z::r,h=>exact(aw h).elim
structure Hk(P:Program)(f:FuncId):Prop where
 Sq:∃fn c,P.funcs[f]?=some fn/\fn.body=some c/\(fn.name== "runtime.NumGoroutine")=false
 Az:∀(a:Option Addr)(c:Nat)(sep:ByteArray)(w:World),Calls P f #[.slice a 0 c,.string sep] w λe w'=>e=.returned (.string ⟨#[]⟩)/\w'=w
 Zw:∀(bk o c:Nat)(xs:List ByteArray)(sep:ByteArray)(w:World),(∀(j:Nat)x,xs[j]?=some x->w.cell? ⟨bk,o+j,none⟩=some (.string x))->bk<w.heap.size->xs.length<=140737488355328->xs.length<=c->(uv sep.data.toList (xs.map (·.data.toList))).length<=140737488355328->Calls P f #[.slice (some ⟨bk,o,none⟩) xs.length c,.string sep] w λe w'=>e=.returned (.string ⟨(uv sep.data.toList (xs.map (·.data.toList))).toArray⟩)/\Below w.heap.size w w'
theorem Hk.nat{P:Program}{f:FuncId}(hj:Hk P f):vZ P f IW:=λargs H k h=>by
 obtain⟨x,sl,sn,rfl,hs,h1⟩:=Nt h;obtain⟨fn,c,hf,hb,hn⟩:=hj.Sq;have empty:∀(x:V),(∀m cv,VR m x cv->∃a c,cv=.slice a 0 c)->iv P f [x,.str sl sn] H (.str 0 0) H:=λx hx=>iv.pz hf hb hn λbase w0 rho w cargs hp hv=>by
   simp only[bZ]at hv;obtain⟨c1,r1,e1,v1,c2,r2,rfl,v2,rfl⟩:=hv;obtain⟨a,cp,rfl⟩:=hx _ _ v1;simp only[VR]at v2;obtain⟨rfl,_⟩:=v2;have hc:cargs=#[.slice a 0 cp,.string ⟨(aD sl sn).toArray⟩]:=by apply YO2;exact e1
   subst hc;refine⟨.string ⟨#[]⟩,by simp only[VR];exact⟨rfl,by decide⟩,(hj.Az a cp _ w).mono ?_⟩;rintro e w'⟨rfl,rfl⟩;exact⟨rfl,Below.refl _ _⟩
 rcases fJ h1 with⟨b,o,n,cp,sz,rfl,h2⟩|⟨rfl,h2⟩
 .obtain⟨h3,h4⟩:=aU h2;rcases bV h4 with⟨h5,h6⟩|⟨h5,h6⟩;.have:=cH h5;subst this;exact⟨_,H,empty _ (λm cv hv=>by simp only[VR]at hv;obtain⟨c,cap,o',sp,rfl,_⟩:=hv;exact⟨_,_,rfl⟩),h6⟩
  .obtain⟨row,h7,h8,h9⟩:=pg h6;have hn0:n≠0:=by rintro rfl;cases h5
   obtain⟨xs,h10,tl,tn,h11,h12⟩:=Fa hs h9;obtain⟨h13,h14⟩:=aU h11;have htl:=cB h13;have hlen:xs.length=n:=by have:=congrArg List.length h10;simp at this;omega
   refine⟨_,H,iv.pz hf hb hn λbase w0 rho w cargs hp hv=>?_,h14⟩;simp only[bZ]at hv;obtain⟨c1,r1,e1,v1,c2,r2,rfl,v2,rfl⟩:=hv;simp only[VR]at v1 v2;obtain⟨c,cap,o',sp,rfl,hm,hcap,hcp,ho⟩:=v1;obtain⟨rfl,_⟩:=v2;obtain⟨rfl,rfl⟩:o'=o/\sp=none:=by
    rcases ho with h|h;.exact h
    .omega
   have hc:cargs=#[.slice (some ⟨c,o',none⟩) n cap,.string ⟨(aD sl sn).toArray⟩]:=by apply YO2;exact e1
   subst hc;have hrho:=hp.lR hm h7;have hcell:∀j p,xs[j]?=some p->∃cv,w.cell? ⟨c,o'+j,none⟩=some cv/\VR (mu rho H w) (.str p.1 p.2) cv:=λj p hj=>by
    have hrow:row[o'+j]?=some (.str p.1 p.2):=by
     have h15:((row.drop o').take n)[j]?=some (.str p.1 p.2):=by rw[h10,Yq,hj];rfl
     rw[List.getElem?_take]at h15;split at h15;.simpa using h15
     .cases h15
    obtain⟨cv,g1,g2,_⟩:=hp.cell hrho h7 hrow;exact⟨cv,g1,g2⟩
   have hok:∀p∈xs,p.2<256^p.1:=λp hp'=>by obtain⟨j,hj,rfl⟩:=List.mem_iff_getElem.1 hp';obtain⟨cv,_,g2⟩:=hcell j _ (YA hj);simp only[VR]at g2;exact g2.2
   obtain⟨h16,h17⟩:=h12 hok;have hmap:((xs.map λp=>(⟨(aD p.1 p.2).toArray⟩:ByteArray)).map (·.data.toList))=xs.map λp=>aD p.1 p.2:=by rw[List.map_map];exact List.map_congr_left λp _=>rfl
   have hcall:=hj.Zw c o' cap (xs.map λp=>(⟨(aD p.1 p.2).toArray⟩:ByteArray)) ⟨(aD sl sn).toArray⟩ w (λj x hx=>by rw[Yq]at hx;obtain⟨p,hp',rfl⟩:=Option.map_eq_some_iff.1 hx;obtain⟨cv,g1,g2⟩:=hcell j p hp';simp only[VR]at g2;rw[g1,g2.1]) (hp.jM _ _ hrho).2.2.1 (by rw[Yj,hlen];have:=cB h3;omega) (by rw[Yj,hlen];exact hcap) (by rw[hmap,<-h16,aK];omega);rw[hmap,<-h16,Yj,hlen]at hcall;exact⟨_,by simp only[VR];exact⟨trivial,h17⟩,hcall⟩
 .exact⟨_,H,empty _ (λm cv hv=>by simp only[VR]at hv;exact⟨_,_,hv⟩),h2⟩
theorem jc.base{P:Program}(h:(P.funcs.toList.all λfn=>!(fn.name== "runtime.NumGoroutine"))=true):jc P (λf=>(P.funcs[f]?).bind (jE P f)):=λf fe hf=>by
 obtain⟨fn,h1,h2⟩:=Option.bind_eq_some_iff.1 hf;refine YH ⟨fn,h1,?_,h2⟩;have hm:fn∈P.funcs.toList:=by rw[<-Yr]at h1;exact Yk h1
 have:=WL.1 h fn hm;simpa using this
theorem jc.nat{P:Program}{t:Nat->Option dr}{n:Nat}{g:List V->Heap->K->R}(hg:vZ P n g)(ht:jc P t):jc P (λf=>Bool.rec (motive:=λ_=>Option dr) (t f) (some (.nat g)) (YR f n)):=λf fe hf=>by replace hf:Bool.rec (motive:=λ_=>Option dr) (t f) (some (.nat g)) (YR f n)=some fe:=hf;cases hb:YR f n with|false=>rw[hb]at hf;exact ht f fe hf|true=>rw[hb]at hf;obtain rfl:=cH hb;cases hf;exact YE ⟨g,rfl,hg⟩
end Go.Ev
end
