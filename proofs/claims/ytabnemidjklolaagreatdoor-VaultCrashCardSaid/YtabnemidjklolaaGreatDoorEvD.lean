/- EvD: a part of the evaluator,of its logic,or of the laws' walk in it. -/
import Derived.Test.YtabnemidjklolaaGreatDoorEvC
import Derived.LoopNIn
import Derived.RangeFuncIn
import Derived.RangeFuncRecord
import Derived.RangeFuncNested
import Derived.Laws.Sem
import Derived.RangeFuncLeaves
open List renaming getElem?_eq_getElem→YA,mem_cons_of_mem→YI,mem_cons_self→YM,mem_cons→YN,map_cons→YP,mem_map→YW,mem_of_getElem?→Yb,length_map→Yg,getElem?_map→Yq,nodup_cons→WI,all_eq_true→WR,getElem?_eq_none→WT,mem_zipIdx_iff_getElem?→WU,mem_filter→Wt,mem_filterMap→Qw,filterMap_cons→YB3
open Nat renaming le_refl→YC,lt_of_lt_of_le→YE,beq→YR,zero_le→Ya,ble→Yd,lt_or_ge→Yh,add→Yi,mul→Yn,le_trans→Yr,shiftLeft→Yt,mod→Yx,blt→WC,zero_add→WG,succ→WQ,div→Wo,mul_comm→Ww,sub_zero→Wx
open Or renaming inr→YD,inl→YF
open Array renaming getElem?_eq_some_iff→YO,getElem?_eq_getElem→Yf,getD_eq_getD_getElem?→Yo,getElem?_toList→Ys,getElem?_setIfInBounds_ne→WV,replicate→Ql,getElem?_replicate→YC4,ext_getElem?→YE0,ext'→YL2,toList_append→YO0,length_toList→YO1
open Option renaming getD_some→YU,getD_none→Wv
open Bool renaming and_eq_true→Yu,or_eq_true→QU,false_or→YC3
set_option linter.unusedVariables false
set_option linter.unusedSimpArgs false
set_option linter.unusedSectionVars false
section
namespace Go.Ev
open Go.RowKit
theorem AG{l}{bf}{i j}(h:iG l bf i=true)(hj:l[j]?=some false)(hne:i≠j):(bf.getD i 0).testBit j=true\/(bf.getD j 0).testBit i=true:=by
 unfold iG at h;rw[WR]at h;have:=h (false,j) (WU.2 hj);simp only[YC3,QU,beq_iff_eq]at this;rcases this with(h1|h1)|h1;.omega
 .simp_all
 simp_all
def NS(P:Program)(nt:Nat)(c:Code)(e:Env)(H:Heap)(e':Env)(H':Heap):Prop:=∀(rd:Option Nat)(base:Nat)(w0:World)(rho:Nat->Option Nat)(w:World)(a:Act),PR P base w0 rho H w->TR (mu rho H w) nt e a.tmps->∀(Q:Exit->Act->World->Prop),(∀a' w' rho',a'.defers=a.defers->PR P base w0 rho' H' w'->TR (mu rho' H' w') nt e' a'.tmps->Ext rho H w rho' H' w'->Q .normal a' w')->c.wpIn (WF rd) 0 P Q a w
theorem Jd{P:Program}{nt:Nat}{ops:Array Oper}{id:Nat}{iso pur al:Nat->Bool}{E:Nat->Env}{Hh:Nat->Heap}{Vv:Nat->V}{B:Nat->Option Nat}(hm:P.follows .mixedOrders=true)(hap:kA ops (Region.before ops)=true)(hE:Ex ops)(hst:∀j o,ops[j]?=some o->iB P nt ops (iso j) (pur j) (B j) o (E j) (Hh j) (Vv j) (E (j+1)) (Hh (j+1)))(hiso:∀i j,jU iso pur i->i≠j->pur j=false->j<ops.size->((Region.before ops).getD i 0).testBit j=true\/((Region.before ops).getD j 0).testBit i=true\/al j=true)(hhal:∀i,jU iso pur i->al i=false)(hal:∀i o,ops[i]?=some o->al i=true->(GW nt (E i) ops o false/\Vv i=.cG []/\Hh (i+1)=Hh i)\/(rJ P nt (E i) o (Hh i) (Vv i) (Hh (i+1))/\∀k,k<ops.size->jU iso pur k->i<k->kg (Region.before ops) i k=false->(Hh i).n<(Hh k).n->(Hh (k+1)).get (Hh i).n=(Hh k).get (Hh i).n))(hB:∀i b,i<ops.size->B i=some b->b<(Hh 0).n)(hkp:∀i k b,i<ops.size->k<ops.size->B i=some b->jU iso pur k->kg (Region.before ops) i k=false->b<(Hh k).n->(Hh (k+1)).get b=(Hh k).get b):NS P nt (.region id ops true) (E 0) (Hh 0) (E ops.size) (Hh ops.size):=λrd b0 w0 rho w a hp ht Q hQ=>by
 have hp1:PR P b0 w0 rho (Hh 0) {w with drawn:=w.drawn+1}:=hp.drawn _;have ht1:TR (mu rho (Hh 0) {w with drawn:=w.drawn+1}) nt (E 0) a.tmps:=ht;have hrun:=VF (iso:=iso) (pur:=pur) hst hp1 ht1;have hhp:Ln ops.size iso pur Hh:=⟨λi hi=>by obtain⟨⟨_,_,_,p,_⟩,_⟩:=hrun i hi;exact p.wn,λi hi=>by obtain⟨⟨_,_,_,p,_⟩,_⟩:=hrun i hi;exact p.out,λi hi=>by obtain⟨_,g⟩:=hrun (i+1) hi;simp_all,λi hi=>by obtain⟨_,g⟩:=hrun (i+1) hi;simp_all⟩;have hke:∀i,i<ops.size->∀t,t<nt->∃m c,VR m (af (bj t) (E i)) c/\∀b c',m.b b c'->b<(Hh i).n:=λi hi t hlt=>by
  obtain⟨⟨rho',w',a',p,tr⟩,_⟩:=hrun i (by omega);have hs:=tr.size;have hlt':t<a'.tmps.size:=by omega
  exact⟨_,_,tr.get t _ (Yf hlt'),λb c' hm=>hm.1⟩
 refine wpIn_region_any hm ?_;obtain⟨T,t1,t2,t3,t4⟩:=BW iso pur ops.size _ 0 rfl (Ya _);obtain⟨b1,b2⟩:=Xv hhp T t2 0 t1 t4;obtain⟨p2,m2⟩:=hp1.grow b1 (hhp.wn T t2) (hhp.out T t2);have hnb:∀k,(Ql ops.size false).getD k false=false:=λk=>by rw[Yo,YC4];split<;>rfl
 have x2:Ext rho (Hh 0) w rho (Hh T) {w with drawn:=w.drawn+1}:=⟨b1.n,by omega,YC _,λb hb _=>⟨b1.get b hb,rfl⟩,λ_ _ _ h=>h,λ_ _ h _=>h,λb hb ha=>by rw[<-b1.get b hb];exact ha,λb c hb hr=>absurd (hp.lt b c hr) (by omega),λ_ _ _=>rfl,λb hb=>⟨by
  have hbn:b<(Hh 0).n:=by
   rcases Yh b (Hh 0).n with h|h;.exact h
   .rw[b1.out b h]at hb;cases hb
  rw[b1.get b hbn];exact hb,rfl,λ_ _=>rfl⟩,λc cs e fr hc=>⟨cs,e,fr,hc,rfl⟩,λc r hc=>⟨r,hc⟩⟩;obtain⟨Hy,y1,y2,y3,y4⟩:=Df (λb=>if b<(Hh T).n then(Hh T).get b else .cells []) (Hh ops.size).n (Hh T).bD;have hTN:=(dx hhp ops.size (YC _) T t2).1;have hylo:∀b,b<(Hh T).n->Hy.get b=(Hh T).get b:=λb hb=>by rw[y3 b (by omega),if_pos hb]
 have bY:Part (Hh T) Hy:=⟨by rw[y1];exact hTN,hylo,hhp.out T t2⟩;obtain⟨p3,m3⟩:=p2.grow bY (by rw[y1,y2];have:=hhp.wn T t2;omega) (λb hb=>y4 b (by rw[<-y1];exact hb));have h0T:=(dx hhp T t2 0 (Ya _)).1;have x3:Ext rho (Hh 0) w rho Hy {w with drawn:=w.drawn+1}:=x2.re hp.lt (λb c h=>(hp.j8 b c h).2.2.1) hp.out (by rw[y1];omega) y2 (λb hb=>hylo b (by omega)) (λ_ _=>rfl) (λb c _ h=>YF h) (λ_ _=>rfl) (YC _);refine walk (al:=al) (rho0:=rho) (w00:=w) (ds:=a.defers) hst hE hap hiso hhal hal hhp ht.le hp.lt (λb c h=>(hp.j8 b c h).2.2.1) hB hkp hke (λa' w' rho' g1 g2 g3 g4=>hQ a' w' rho' g1 g2 g3 g4) hp.out ops.size _ _ _ T rho Hy ⟨by simp,(λj hj=>by unfold dV at hj;simp_all),t2,t3,(λhb=>by unfold dV at hb;simp_all),λi hi hh=>absurd hh (t4 i (Ya _) hi),y1,y2,hylo,λb hb hb'=>?_,p3,x3,?_,rfl,λb c hr k hk _=>?_,λb c hr k hk hkj hb=>?_,λb c hr hb=>?_⟩ (by simp);.rw[y3 b (by omega),if_neg (by omega)];trivial
 .have:(λk=>(Ql ops.size false).getD k false)=λ_=>false:=funext hnb;rw[this,Bw λ_=>rfl];exact ht1.mono (M.le_trans m2 m3)
 .have:=hp.lt b c hr;have:=(dx hhp k (by omega) 0 (Ya _)).1;omega
 .exact(hp1.kn hr).part (Xv hhp k (by omega) 0 (Ya _) λj h5 h6=>t4 j h5 (by omega)).1 (hp.lt b c hr)
 .have:=hp.lt b c hr;omega
theorem pY{l al}{bf}{i j}(h:dJ l al bf i=true)(hj:l[j]?=some false)(hne:i≠j):(bf.getD i 0).testBit j=true\/(bf.getD j 0).testBit i=true\/(al.getD j false=true/\i<j):=by
 unfold dJ at h;rw[Yu]at h;have h:=h.2;rw[WR]at h;have:=h (false,j) (WU.2 hj);simp only[YC3,QU,beq_iff_eq,Yu]at this;rcases this with((h1|h1)|h1)|h1;.omega
 .simp_all
 .simp_all
 simp_all
theorem XN{P:Program}{nt:Nat}{ph:dz}{ops:Array Oper}{base id:Nat}{r:List Er}{e:Env}{H:Heap}{k:Env->Heap->R}(hm:P.follows .mixedOrders=true)(hph:jC P ph)(hap:kA ops (Region.before ops)=true)(hed:lY ops=true)(hc:dG P nt base ops (ops.toList.map λo=>bQ (ai P nt o)) (ops.toList.map λo=>lP (ai P nt o)) (Region.before ops) ops.toList 0=some r)(h:da ph r e H k=1):∃e' H',NS P nt (.region id ops true) e H e' H'/\k e' H'=1:=by
 obtain⟨E,Hh,Vv,h1,h2,h3,h5,h4⟩:=By hph ops.toList 0 r e H k hc h;have hE:=tu hed;subst h1 h2;have hpur:∀(j:Nat)(o:Oper),ops[j]?=some o->(ops[j]?.map λo=>bQ (ai P nt o)).getD true=bQ (ai P nt o):=λj o hj=>by simp[hj]
 have halg:∀(j:Nat),(ops.toList.map λo=>lP (ai P nt o)).getD j false=true->∃o,ops[j]?=some o/\lP (ai P nt o)=true:=λj hj=>by rw[List.getD_eq_getElem?_getD,Yq,Ys]at hj;cases ho:ops[j]?with|none=>simp_all|some o=>simp_all
 have hni:∀j,(ops.toList.map λo=>lP (ai P nt o)).getD j false=true->dJ (ops.toList.map λo=>bQ (ai P nt o)) (ops.toList.map λo=>lP (ai P nt o)) (Region.before ops) j=false:=λj hj=>by unfold dJ;simp_all
 refine⟨_,_,Jd (iso:=λj=>dJ (ops.toList.map λo=>bQ (ai P nt o)) (ops.toList.map λo=>lP (ai P nt o)) (Region.before ops) j) (pur:=λj=>(ops[j]?.map λo=>bQ (ai P nt o)).getD true) (al:=λj=>(ops.toList.map λo=>lP (ai P nt o)).getD j false) (Vv:=Vv) (B:=λ_=>none) hm hap hE (λj o hj=>?_) (λi j hi hne hpj hj=>?_) (λi hi=>?_) (λi o ho hi=>?_) (λi b _ hb=>by cases hb) (λi k b _ _ hb=>by cases hb),by omega⟩;.simp_all
 .refine(pY hi.1 ?_ hne).imp (λh=>h) (Or.imp (λh=>h) And.left);simp_all
 .cases hx:(ops.toList.map λo=>lP (ai P nt o)).getD i false with|false=>rfl|true=>exact absurd (hi.1.symm.trans (hni i hx)) (by simp)
 .obtain⟨o',g1,g2⟩:=halg i hi;rw[ho]at g1;cases g1;have:=h5 i o (by simpa using ho) g2;rw[WG]at this;refine(this (hni i hi)).imp (λh=>h) λhA=>⟨hA,λk hk hh hik hord hlt=>?_⟩;exfalso;have hpf:(ops.toList.map λo=>bQ (ai P nt o))[i]?=some false:=by rw[Yq,Ys,ho];cases hcc:ai P nt o<;>rw[hcc]at g2<;>first|(cases g2;done)|simp[hcc,bQ]
  unfold kg at hord;rw[Bool.or_eq_false_iff]at hord;rcases pY hh.1 hpf (by omega)with h8|h8|h8;.simp_all
  .simp_all
  .omega
theorem Vg{x y}{k}(h:Vf x y k=1):x=y/\k=1:=by obtain⟨k1,a,hx,h3⟩:=dL (show cI 0 x (λk1 a=>cI 0 y λk2 b=>aH (YR k1 k2) (aH (YR a b) k (no 0)) (no 0))=1from h);obtain⟨k2,b,hy,h4⟩:=dL (show cI 0 y (λk2 b=>aH (YR k1 k2) (aH (YR a b) k (no 0)) (no 0))=1from h3);obtain⟨h1,h5⟩:=aX (show aH (YR k1 k2) (aH (YR a b) k (no 0)) (no 0)=1from h4);obtain⟨h2,h6⟩:=aX h5;simp_all
theorem B8:∀{l m}{k},si l m k=1->l=m/\k=1|[],[],k,h=>⟨rfl,h⟩|[],_::_,k,h=>(aw h).elim|_::_,[],k,h=>(aw h).elim|a::l,b::m,k,h=>by obtain⟨h1,h2⟩:=Vg (show Vf a b (si l m k)=1from h);obtain⟨h3,h4⟩:=B8 h2;simp_all
theorem Ic{x y}{k}(h:wj x y k=1):x=y/\k=1:=by
 rcases nO (show vt 0 x (λl=>vt 0 y (λm=>si l m k) λ_ _=>no 0) (λ_ _=>no 0)=1from h)with⟨l,hx,h3⟩|⟨a,b,hx,h3⟩
 .rcases nO (show vt 0 y (λm=>si l m k) (λ_ _=>no 0)=1from h3)with⟨m,hy,h4⟩|⟨a,b,hy,h4⟩;.obtain⟨h1,h2⟩:=B8 h4;simp_all
  .exact(aw h4).elim
 .exact(aw h3).elim
theorem Ie{b}{x}:∀{hs}{k},qp b x hs k=1->(∀G∈hs,G.get b=x)/\k=1|[],k,h=>⟨λG hG=>(by cases hG),h⟩|G::hs,k,h=>by have h':cR G b (λy=>wj y x (qp b x hs k))=1:=h;rw[aU]at h';obtain⟨h1,h2⟩:=Ic h';obtain⟨h3,h4⟩:=Ie h2;simp_all
theorem Ig{H H'}:∀{bs}{k},rE H H' bs k=1->(∀b∈bs,H'.get b=H.get b)/\k=1|[],k,h=>⟨λb hb=>(by cases hb),h⟩|b::bs,k,h=>by have h':cR H b (λx=>cR H' b λy=>wj y x (rE H H' bs k))=1:=h;rw[aU,aU]at h';obtain⟨h1,h2⟩:=Ic h';obtain⟨h3,h4⟩:=Ig h2;simp_all
def ad6(P:Program)(nt:Nat)(ops:Array Oper)(n0:Nat)(l:List Oper)(e:Env)(H:Heap)(hs:List Heap)(bs:List Nat)(k:Env->Heap->R):Prop:=∃(E:Nat->Env)(Hh:Nat->Heap)(Vv:Nat->V)(B:Nat->Option Nat),E 0=e/\Hh 0=H/\(∀j o,l[j]?=some o->iB P nt ops true (wP (ai P nt o)) (B j) o (E j) (Hh j) (Vv j) (E (j+1)) (Hh (j+1)))/\k (E l.length) (Hh l.length)=1/\(∀j b,j<l.length->B j=some b->b<n0/\(∀G∈hs,G.get b=H.get b)/\∀m,m<=l.length->(Hh m).get b=H.get b)/\∀b∈bs,∀m,m<=l.length->(Hh m).get b=H.get b
theorem BA{P:Program}{nt:Nat}{ph:dz}{ops:Array Oper}{base n0:Nat}(hph:jC P ph):∀(l:List Oper)(i:Nat)(r:List wB)(e:Env)(H:Heap)(hs:List Heap)(bs:List Nat)(k:Env->Heap->R),jf P nt base ops l i=some r->dD ph n0 r e H hs bs k=1->ad6 P nt ops n0 l e H hs bs k
 |[],i,r,e,H,hs,bs,k,hc,h=>by simp only[jf,Option.some.injEq]at hc;subst hc;exact⟨λ_=>e,λ_=>H,λ_=>.ny,λ_=>none,rfl,rfl,λj o hj=>by simp at hj,h,λj b hj=>by simp at hj,λb _ m _=>rfl⟩|o::l,i,r,e,H,hs,bs,k,hc,h=>by
  simp only[jf]at hc;split at hc
  .rename_i d g r' hd hg hr;cases hc;have fin:∀(v:V)(H1:Heap)(B0:Option Nat)(hs':List Heap)(bs':List Nat),iB P nt ops true (wP (ai P nt o)) B0 o e H v (dH d v e) H1->(∀b,B0=some b->b<n0/\(∀G∈hs,G.get b=H.get b)/\b∈bs'/\H1=H)->(∀b∈bs,b∈bs'/\H1.get b=H.get b)->(∀G∈hs,G∈hs')->(H∈hs'\/H1=H)->dD ph n0 r' (dH d v e) H1 hs' bs' k=1->ad6 P nt ops n0 (o::l) e H hs bs k:=λv H1 B0 hs' bs' hst hB hbs hhs hH hev=>by
    obtain⟨E,Hh,Vv,B,h1,h2,h3,h4,h5,h6⟩:=BA hph l (i+1) r' _ _ hs' bs' k hr hev;refine⟨qe e E,qe H Hh,qe v Vv,qe B0 B,rfl,rfl,λj o' hj=>?_,h4,λj b hj hb=>?_,λb hb m hm=>?_⟩;.cases j with|zero=>simp only[List.getElem?_cons_zero,Option.some.injEq]at hj;subst hj;show iB P nt ops true _ B0 o e H v (E 0) (Hh 0);rw[h1,h2];exact hst|succ j=>exact h3 j o' (by simpa using hj)
    .cases j with
     |zero=>obtain⟨q1,q2,q3,q4⟩:=hB b hb;refine⟨q1,q2,λm hm=>?_⟩;cases m with|zero=>rfl|succ m=>show(Hh m).get b=H.get b;simp_all
     |succ j=>
      obtain⟨q1,q2,q3⟩:=h5 j b (by simpa using hj) hb;have hHb:H1.get b=H.get b:=hH.elim (λh=>(q2 H h).symm) λh=>by rw[h]
      refine⟨q1,λG hG=>(q2 G (hhs G hG)).trans hHb,λm hm=>?_⟩;cases m with|zero=>rfl|succ m=>exact(q3 m (by simpa using hm)).trans hHb
    .cases m with|zero=>rfl|succ m=>exact(h6 b (hbs b hb).1 m (by simpa using hm)).trans (hbs b hb).2
   have h':wz g e (aH (YR (Ep (ai P nt o)) 5) (aJ (rN (ai P nt o)) e λa=>mM 0 a λob=>Option.rec (motive:=λ_=>R) (no 0) (λb=>aH (WC b n0) (cR H b λx=>qp b x hs (aQ (ai P nt o) 0 ph e H λv _=>bZ d v e λe'=>dD ph n0 r' e' H hs (b::bs) k)) (no 0)) ob) (aH (YR (Ep (ai P nt o)) 6) (aQ (ai P nt o) 0 ph e H λv H'=>rE H H' bs (bZ d v e λe'=>dD ph n0 r' e' H' (H::hs) bs k)) (aQ (ai P nt o) 0 ph e H λv H'=>bZ d v e λe'=>dD ph n0 r' e' H' hs bs k))) (bZ d (.cG []) e λe'=>dD ph n0 r' e' H hs bs k)=1:=h;rcases tY hg h' with⟨h1,h2⟩|⟨h1,h2⟩;rotate_left;.rw[cj]at h1;exact fin _ H none hs bs ⟨d,hd,rfl,YF ⟨h2,rfl,rfl⟩⟩ (λb hb=>by cases hb) (λb hb=>⟨hb,rfl⟩) (λ_ h=>h) (YD rfl) h1
   by_cases hpu:bQ (ai P nt o)=true;.rw[show Ep (ai P nt o)=0 by unfold Ep;rw[if_pos hpu]]at h1;obtain⟨v,h3,h4⟩:=zq hph hpu (show aQ (ai P nt o) 0 ph e H (λv H'=>bZ d v e λe'=>dD ph n0 r' e' H' hs bs k)=1from h1);have h4':bZ d v e (λe'=>dD ph n0 r' e' H hs bs k)=1:=h4;rw[cj]at h4';exact fin v H none hs bs ⟨d,hd,rfl,YD (YF ⟨h2,by unfold wP;rw[hpu];rfl,rfl,λH2 _=>h3 H2⟩)⟩ (λb hb=>by cases hb) (λb hb=>⟨hb,rfl⟩) (λ_ h=>h) (YD rfl) h4'
   by_cases hld:GH (ai P nt o)=true;.rw[show Ep (ai P nt o)=5by unfold Ep;rw[if_neg hpu,if_pos hld]]at h1;have h3:aJ (rN (ai P nt o)) e (λa=>mM 0 a λob=>Option.rec (motive:=λ_=>R) (no 0) (λb=>aH (WC b n0) (cR H b λx=>qp b x hs (aQ (ai P nt o) 0 ph e H λv _=>bZ d v e λe'=>dD ph n0 r' e' H hs (b::bs) k)) (no 0)) ob)=1:=h1;rw[aq]at h3;have h4:=sV h3;cases hob:rk (aA (rN (ai P nt o)) e)with|none=>rw[hob]at h4;exact(aw h4).elim|some b=>
     rw[hob]at h4;obtain⟨h5,h6⟩:=aX (show aH (WC b n0) (cR H b λx=>qp b x hs (aQ (ai P nt o) 0 ph e H λv _=>bZ d v e λe'=>dD ph n0 r' e' H hs (b::bs) k)) (no 0)=1from h4);rw[aU]at h6;obtain⟨h7,h8⟩:=Ie h6;obtain⟨v,h9,h10⟩:=Uj hld hob h8;have h9':bZ d v e (λe'=>dD ph n0 r' e' H hs (b::bs) k)=1:=h9;rw[cj]at h9';have hb0:b<n0:=by simp_all
     refine fin v H (some b) hs (b::bs) ⟨d,hd,rfl,YD (YF ⟨h2,by unfold wP;rw[hld];simp,rfl,λH2 hH2=>?_⟩)⟩ (λb' hb'=>?_) (λb' hb'=>⟨YI _ hb',rfl⟩) (λ_ h=>h) (YD rfl) h9';.have hev:=h10 H2 (hH2 b rfl) (λv' H'=>open Classical in if v'=v/\H'=H2 then 1 else 0);obtain⟨v',H',q1,q2⟩:=eL hph (P:=P) (nt:=nt) (o:=o) (id:=0) (e:=e) (H:=H2) (by rw[hev];simp);simp_all
     simp_all
   .rw[show Ep (ai P nt o)=6by unfold Ep;rw[if_neg hpu,if_neg hld]]at h1;obtain⟨v,H1,h3,h4⟩:=eL hph (show aQ (ai P nt o) 0 ph e H (λv H'=>rE H H' bs (bZ d v e λe'=>dD ph n0 r' e' H' (H::hs) bs k))=1from h1);obtain⟨h5,h6⟩:=Ig (show rE H H1 bs (bZ d v e λe'=>dD ph n0 r' e' H1 (H::hs) bs k)=1from h4);rw[cj]at h6;have hpf:wP (ai P nt o)=false:=by unfold wP;simp[hpu,hld]
    exact fin v H1 none (H::hs) bs ⟨d,hd,rfl,YD (YD (YF ⟨h2,hpf,rfl,h3⟩))⟩ (λb hb=>by cases hb) (λb hb=>⟨hb,h5 b hb⟩) (λG hG=>YI _ hG) (YF (YM ..)) h6
  .cases hc
theorem aal{P}{nt}{ph}{ops}{base id}{r}{e}{H}{k}(hm:P.follows .mixedOrders=true)(hph:jC P ph)(hap:kA ops (Region.before ops)=true)(hed:lY ops=true)(hx:xOK (ops.toList.map (ai P nt)) (Region.before ops)=true)(hc:jf P nt base ops ops.toList 0=some r)(h:dD ph H.n r e H [] [] k=1):∃e' H',NS P nt (.region id ops true) e H e' H'/\k e' H'=1:=by
 have hE:=tu hed;obtain⟨E,Hh,Vv,B,h1,h2,h3,h4,h5,h6⟩:=BA hph ops.toList 0 r e H [] [] k hc h;subst h1 h2;have hlen:ops.toList.length=ops.size:=by simp
 have hpur:∀(j:Nat)(o),ops[j]?=some o->(ops[j]?.map λo=>wP (ai P nt o)).getD true=wP (ai P nt o):=λj o hj=>by simp_all
 have hcs:∀(j:Nat)(o),ops[j]?=some o->(ops.toList.map (ai P nt))[j]?=some (ai P nt o):=λj o hj=>by simp_all
 refine⟨_,_,Jd (iso:=λ_=>true) (pur:=λj=>(ops[j]?.map λo=>wP (ai P nt o)).getD true) (Vv:=Vv) hm hap hE (λj o hj=>?_) (λi j hi hne hpj hj=>?_) (λi hi=>rfl) (λi o ho hi=>by cases hi) (λi b hi hb=>(h5 i b hi hb).1) (λi k b hi hk hb _ _ _=>?_),h4⟩;.simp_all
 .have hji:=Yf hj;have hip:(ops[i]?.map λo=>wP (ai P nt o)).getD true=false:=hi.2;rcases Yh i ops.size with hisz|hisz;.have hii:=Yf hisz;rw[hpur i _ hii]at hip;unfold xOK at hx;rw[WR]at hx;have hz:(ai P nt ops[i],i)∈(ops.toList.map (ai P nt)).zipIdx:=WU.2 (hcs i _ hii);have:=hx _ hz;simp only[hip,YC3]at this;refine(AG this ?_ hne).imp (λh=>h) YF;simp_all
  simp_all
 .obtain⟨_,_,q⟩:=h5 i b hi hb;rw[q (k+1) hk,q k (by omega)]
theorem yD{l la}{bf}{i j}(h:uG l la bf i=true)(hj:l[j]?=some false)(hne:i≠j):(bf.getD i 0).testBit j=true\/(bf.getD j 0).testBit i=true\/la.getD j false=true:=by
 unfold uG at h;rw[WR]at h;have:=h (false,j) (WU.2 hj);simp only[YC3,QU,beq_iff_eq,Yu]at this;rcases this with((h1|h1)|h1)|h1;.omega
 .simp_all
 .simp_all
 simp_all
theorem X2{P}{nt}{ph}{ops}{base id}{r}{e}{H:Heap}{k:Env->Heap->R}(hm:P.follows .mixedOrders=true)(hph:jC P ph)(hap:kA ops (Region.before ops)=true)(hed:lY ops=true)(hc:je P nt base ops (ops.toList.map (ai P nt)) (Region.before ops) ops.toList 0=some r)(h:bI ph H.n r e H [] [] k=1):∃e' H',NS P nt (.region id ops true) e H e' H'/\k e' H'=1:=by
 have hE:=tu hed;obtain⟨E,Hh,Vv,B,h1,h2,h3,h4,h5,h6,h7,h8⟩:=Bz hph (λx y=>ig hE x y) ops.toList 0 r e H [] [] k hc (λj o hj=>by simp_all) (λp hp=>by cases hp) h;subst h1 h2;have hlen:ops.toList.length=ops.size:=by simp
 simp only[WG]at h3 h5 h6 h7 h8;have hpur:∀(j)(o),ops[j]?=some o->(ops.toList.map (ai P nt)).getD j .bad=ai P nt o:=λj o hj=>by simp_all
 refine⟨_,_,Jd (al:=λj=>lr (ops.toList.map (ai P nt)) (Region.before ops) j) hm hap hE (λj o hj=>h3 j o (by simp_all)) (λi j hi hne hpj hj=>?_) (λi hi=>?_) (λi o ho hi=>?_) (λi b hi hb=>(h5 i b (by omega) hb).1) (λi k b hi hk hb hh hord hlt=>h7 i k b (by omega) (by omega) hb hh.1 hh.2 hord hlt),by omega⟩;rotate_left;.cases hx:lr (ops.toList.map (ai P nt)) (Region.before ops) i with|false=>rfl|true=>exact absurd (hi.1.symm.trans (GP hx)) (by simp)
 .refine(h8 i o (by simp_all) hi).imp (λh=>h) λhA=>⟨hA.1,λk hk hh hik hord hlt=>hA.2 k hik (by omega) hh.1 hh.2 hord hlt⟩
 have hi1:=hi.1;unfold pn at hi1;rw[Yu]at hi1;have hlast:∀{x},(Ui (ops.toList.map (ai P nt)) (Region.before ops)).getD j false=x->lr (ops.toList.map (ai P nt)) (Region.before ops) j=x:=λ{x}hx=>by rw[<-hx];unfold Ui;simp_all
 refine(yD hi1.1 ?_ hne).imp (λh=>h) (Or.imp (λh=>h) hlast);unfold af2;rw[Yq];have hex:ops[j]?=some ops[j]:=Yf hj;have hz:(ops.toList.map (ai P nt)).zipIdx[j]?=some (ai P nt ops[j],j):=by simp_all
 rw[hz];unfold lF at hpj;simp_all
theorem D0{w:World}{a}{v}(h:w.cell? a=some v):w.setCell a v=w:=by unfold World.cell? at h;unfold World.setCell;cases ha:w.heap[a.block]?with|none=>simp_all|some o=>rw[ha]at h;cases w with|mk heap tape drawn os output=>
   congr 1;apply YE0;intro i;rw[Array.getElem?_modify];by_cases hi:a.block=i
   .subst hi;rw[if_pos rfl,ha];cases o<;>simp at h⊢;intro _;replace h:=h.2;apply YE0;intro j;by_cases hj:a.off=j;.subst hj;obtain⟨hlt,hv⟩:=YO.1 h;simp_all
    simp_all
   simp_all
section
variable{P:Program}{nt:Nat}{id:Nat}{ph:dz}{e:Env}{H:Heap}{k:K}
theorem su{w}{g o}:∀(vs)(i),(∀(j)v,vs[j]?=some v->w.cell? ⟨g,o+i+j,none⟩=some v/\v.oneCell'=true/\w.frozen? ⟨g,o+i+j,none⟩=false)->(storeCells ⟨g,o,none⟩ vs i).run P w=.ok () w
 |[],i,_=>rfl|v::vs,i,h=>by
  obtain⟨h1,h2,h3⟩:=h 0 v rfl;rw[Nat.add_zero]at h1 h3;have ih:=su vs (i+1) λj u hu=>by have:=h (j+1) u (by simp_all);rw[show o+i+(j+1)=o+(i+1)+j by omega]at this;omega
  simp only[storeCells,Sem.run_bind,Addr.add_lit,run_store P w _ v .plain h2,h1,h3,D0 h1];simp_all
def abD(P:Program)(H:Heap)(x:V)(t:TypeId)(v:V):Prop:=∀{base:Nat}{w0 w:World}{rho:Nat->Option Nat}{cx:Value},PR P base w0 rho H w->VR (mu rho H w) x cx->∃cv,(Instr.loadAt t cx).run P w=.ok cv w/\VR (mu rho H w) v cv/\(Instr.storeAt t cx cv).run P w=.ok () w
theorem Y6{o}{t}{s}(hop:o.op=.load t (.tmp s))(h1:UK P t=true)(h:aQ (ai P nt o) id ph e H k=1):∃v,k v H=1/\abD P H (af (bj s) e) t v:=by
 simp only[ai,hop]at h;split at h
 .rename_i x' n hx hag hsz;have hx':x'=.s (bj s):=by unfold aN at hx;simp_all
  subst hx';have h':rV n (.s (bj s)) id ph e H k=1:=h;unfold rV at h';rw[aq]at h';obtain⟨b,off,hb,h1⟩:=gu h';obtain⟨row,h2,h3,h30,h4⟩:=KK h1;refine⟨_,h4,λ{base w0 w rho cx}hp vx=>?_⟩;replace hb:af (bj s) e=.ptr b off:=hb;rw[hb]at vx;obtain⟨c,rfl,hm⟩:=vx;obtain⟨cs,g1,g2,g3,g4⟩:=hp.KJ (hp.zE hm h2) h2 h3 h30;refine⟨.agg cs.toArray,by simp[Instr.loadAt,Instr.sureAddr,loadVar,kQ hag,cY hsz,g1],by simp only[VR];simp_all,?_⟩;have hst:(storeCells ⟨c,off,none⟩ cs 0).run P w=.ok () w:=su cs 0 λj v hv=>by have:=g4 j v hv;omega
  have hcl:cs.toArray.size=n:=by omega
  simp[Instr.storeAt,Instr.sureAddr,storeVar,Value.cells,cY hsz,hcl,hst]
 .rename_i _ x' hx hag;have hx':x'=.s (bj s):=by unfold aN at hx;simp_all
  subst hx';have h':rU (.s (bj s)) id ph e H k=1:=h;unfold rU at h';rw[aq]at h';obtain⟨b,off,hb,h1'⟩:=gu h';obtain⟨row,v,h2,h3,h30,h4⟩:=U2 h1';refine⟨_,h4,λ{base w0 w rho cx}hp vx=>?_⟩;replace hb:af (bj s) e=.ptr b off:=hb;rw[hb]at vx;obtain⟨c,rfl,hm⟩:=vx;obtain⟨cv,g1,g2,g3,g4⟩:=hp.U0 (hp.zE hm h2) h2 h3 h30;have hsz:rq P t=some 1:=by unfold UK at h1;simp_all
  refine⟨cv,by simp[Instr.loadAt,Instr.sureAddr,loadVar,kQ hag,g1],g2,?_⟩;have ho:=uN g2 g3;have hcv:cv.cells=#[cv]:=by obtain⟨n1,n2⟩:=g2.one g3;cases cv<;>first|rfl|simp_all|rfl
  have hst:(storeCells ⟨c,off,none⟩ [cv] 0).run P w=.ok () w:=by refine su [cv] 0 λj v hv=>?_;cases j with|succ j=>simp_all|zero=>simp_all
  simp[Instr.storeAt,Instr.sureAddr,storeVar,hcv,cY hsz,hst]
 .exact(aw h).elim
theorem vU{o}{t}{s d}(h:dE o=some (t,s,d)):o.op=.load t (.tmp s)/\o.dst=some d/\o.guard=none:=by
 unfold dE at h;split at h;.simp_all
 simp_all
def gV(P:Program)(nt:Nat)(H:Heap):List Oper->Env->Env->Prop|[],e,e'=>e'=e|o::l,e,e'=>∃(t:TypeId)(s d:Nat)(v:V),dE o=some (t,s,d)/\s<nt/\d<nt/\abD P H (af (bj s) e) t v/\gV P nt H l (jl (bj d) v e) e'
theorem vG{s:Nat}{x}(h:aN nt (.tmp s)=some x):s<nt:=by unfold aN at h;simp_all
theorem GV{base}{ops}:∀(l)(i)(r)(e)(k),(∀o∈l,mn o=true)->(∀o∈l,∀(t)(s d),dE o=some (t,s,d)->UK P t=true)->dG P nt base ops [] [] #[] l i=some r->jM ph r e H k=1->∃e',k e' H=1/\gV P nt H l e e'
 |[],i,r,e,k,_,_,hc,h=>by simp only[dG,Option.some.injEq]at hc;subst hc;exact⟨e,h,rfl⟩|o::l,i,r,e,k,hl,h1,hc,h=>by
  obtain⟨⟨t,s,d⟩,hld⟩:=Option.isSome_iff_exists.1 (hl o (YM ..));obtain⟨hop,hd,hg⟩:=vU hld;simp only[dG,hd,hg,guardOf]at hc;split at hc
  .rename_i dd gg r' hdd hgg hr;cases hgg;cases hc;simp only[tp]at hdd;split at hdd
   .rename_i hdn;cases hdd;have h':aQ (ai P nt o) 0 ph e H (λv H'=>KU (bj d) v e λe'=>jM ph r' e' H' k)=1:=h;obtain⟨v,h2,h3⟩:=Y6 hop (h1 o (YM ..) t s d hld) h';rw[tT]at h2;have hs:=by
     have h4:=h';simp only[ai,hop]at h4;split at h4;.rename_i hx _ _;exact vG hx
     .rename_i hx _;exact vG hx
     .exact(aw h4).elim
    obtain⟨e',h5,h6⟩:=GV l (i+1) r' _ k (λq hq=>hl q (YI _ hq)) (λq hq=>h1 q (YI _ hq)) hr h2;exact⟨e',h5,t,s,d,v,hld,hs,hdn,h3,h6⟩
   simp_all
  simp_all
theorem gV.other(hnt:nt<=512):∀{l:List Oper}{e e':Env},gV P nt H l e e'->∀x,x<512->(∀o∈l,∀(t:TypeId)(s d:Nat),dE o=some (t,s,d)->d≠x)->af (bj x) e'=af (bj x) e|[],e,e',h,x,_,_=>by rw[show e'=e from h]|o::l,e,e',h,x,hx,hd=>by obtain⟨t,s,d,v,h1,h2,h3,h4,h5⟩:=h;rw[gV.other hnt h5 x hx λq hq=>hd q (YI _ hq),fH,if_neg];intro e;exact hd o (YM ..) t s d h1 (fY hx (by omega) e).symm
theorem gV.spec(hnt:nt<=512):∀{l:List Oper}{e e':Env},gV P nt H l e e'->(l.filterMap λo=>(dE o).map (·.2.2)).Nodup->(∀o∈l,∀o'∈l,∀(t:TypeId)(s d:Nat)(t':TypeId)(s' d':Nat),dE o=some (t,s,d)->dE o'=some (t',s',d')->s≠d')->∀o∈l,∀(t:TypeId)(s d:Nat),dE o=some (t,s,d)->s<nt/\d<nt/\abD P H (af (bj s) e) t (af (bj d) e')
 |[],_,_,_,_,_,o,ho,_,_,_,_=>by cases ho|q::l,e,e',h,hn,hs,o,ho,t,s,d,hld=>by
  obtain⟨t0,s0,d0,v0,h1,h2,h3,h4,h5⟩:=h;have hn':d0∉(l.filterMap λo=>(dE o).map (·.2.2))/\(l.filterMap λo=>(dE o).map (·.2.2)).Nodup:=by rw[YB3,h1]at hn;simpa using hn
  rcases YN.1 ho with rfl|ho';.rw[h1]at hld;cases hld;refine⟨h2,h3,?_⟩;rw[gV.other hnt h5 d (by omega) λq hq t s d hq' e=>hn'.1 (Qw.2 ⟨q,hq,by rw[hq',e];rfl⟩),fH,if_pos rfl];exact h4
  .obtain⟨g1,g2,g3⟩:=gV.spec hnt h5 hn'.2 (λa ha b hb=>hs a (YI _ ha) b (YI _ hb)) o ho' t s d hld;refine⟨g1,g2,?_⟩;have hsd:=hs o ho q (YM ..) t s d t0 s0 d0 hld h1;rw[fH,if_neg]at g3;.exact@g3
   .intro e;exact hsd (fY (by omega) (by omega) e)
theorem Xu{ops:Array Oper}{base bid:Nat}{r:List Er}{k:Env->Heap->R}(hm:P.follows .mixedOrders=true)(hb:Cs P ops=true)(hc:dG P nt base ops [] [] #[] (ops.toList.filter mn) 0=some r)(h:jM ph r e H k=1):∃e',NS P nt (.region bid ops true) e H e' H/\k e' H=1:=by
 unfold Cs at hb;simp only[Yu,decide_eq_true_eq,WR]at hb;obtain⟨⟨⟨hed,hall⟩,hnd⟩,hads⟩:=hb;have hads':∀o∈ops.toList,∀(t:TypeId)(s d:Nat),dE o=some (t,s,d)->s∉lx ops/\UK P t=true:=λo ho t s d hl=>by have:=hads o ho;rw[hl]at this;simpa using this
 obtain⟨e',h1,h2⟩:=GV (ops.toList.filter mn) 0 r e k (λo ho=>(Wt.1 ho).2) (λo ho t s d hl=>(hads' o (Wt.1 ho).1 t s d hl).2) hc h;refine⟨e',λrd b0 w0 rho w a hp ht Q hQ=>?_,h1⟩;have hnt:=ht.le;have hfm:(ops.toList.filter mn).filterMap (λo=>(dE o).map (·.2.2))=lx ops:=by unfold lx;rw[List.filterMap_filter];congr 1;funext o;unfold mn;cases dE o<;>rfl
 have hmemd:∀o∈ops.toList,∀(t:TypeId)(s d:Nat),dE o=some (t,s,d)->d∈lx ops:=λo ho t s d hl=>Qw.2 ⟨o,ho,by rw[hl];rfl⟩;have hspec:=gV.spec hnt h2 (by rw[hfm];exact hnd) λo ho o' ho' t s d t' s' d' hl hl' e=>(hads' o (Wt.1 ho).1 t s d hl).1 (by rw[e];exact hmemd o' (Wt.1 ho').1 t' s' d' hl');have hE:=tu hed;refine wpIn_region_any hm ?_;have hp1:PR P b0 w0 rho H {w with drawn:=w.drawn+1}:=hp.drawn _;have ht1:TR (mu rho H {w with drawn:=w.drawn+1}) nt e a.tmps:=ht;have x1:Ext rho H w rho H {w with drawn:=w.drawn+1}:=⟨YC _,YC _,YC _,λ_ _ _=>⟨rfl,rfl⟩,λ_ _ _ h=>h,λ_ _ h _=>h,λ_ _ h=>h,λb c hb h=>absurd (hp.lt b c h) (by omega),λ_ _ _=>rfl,λb hb=>⟨hb,rfl,λ_ _=>rfl⟩,λc cs e fr hc=>⟨cs,e,fr,hc,rfl⟩,λc r hc=>⟨r,hc⟩⟩;generalize hw1:({w with drawn:=w.drawn+1}:World)=w1 at hp1 ht1 x1⊢;have hQ':∀a',a'.defers=a.defers->TR (mu rho H w1) nt e' a'.tmps->Q .normal a' w1:=λa' g1 g2=>hQ a' w1 rho g1 hp1 g2 x1;clear hQ hp ht hw1;have hsize:=ht1.size;have hrd:∀o∈ops.toList,∀(t:TypeId)(s d:Nat),dE o=some (t,s,d)->s<nt/\d<nt/\∃cv,(Instr.loadAt t (a.eval (.tmp s))).run P w1=.ok cv w1/\VR (mu rho H w1) (af (bj d) e') cv/\(Instr.storeAt t (a.eval (.tmp s)) cv).run P w1=.ok () w1:=λo ho t s d hl=>by
  obtain⟨g1,g2,g3⟩:=hspec o (Wt.2 ⟨ho,by unfold mn;rw[hl];rfl⟩) t s d hl;have hlt:s<a.tmps.size:=by omega
  have hex:a.tmps[s]?=some a.tmps[s]:=Yf hlt;have hev:a.eval (.tmp s)=a.tmps[s]:=by simp[Act.eval,hex]
  obtain⟨cv,q1,q2,q3⟩:=g3 hp1 (ht1.get s _ hex);rw[<-hev]at q1 q3;exact⟨g1,g2,cv,q1,q2,q3⟩
 let Dn:Array Bool->Nat->Prop:=λlisted t=>∃(j:Nat)(o:Oper)(ty:TypeId)(s:Nat),ops[j]?=some o/\dE o=some (ty,s,t)/\dV listed j;let Inv:Array Bool->Act->Prop:=λlisted a'=>a'.defers=a.defers/\a'.tmps.size=nt/\(∀t:Nat,¬Dn listed t->a'.tmps[t]?=a.tmps[t]?)/\∀(j:Nat)(o:Oper)(ty:TypeId)(s d:Nat),ops[j]?=some o->dE o=some (ty,s,d)->dV listed j->∃cv,a'.tmps[d]?=some cv/\(Instr.loadAt ty (a.eval (.tmp s))).run P w1=.ok cv w1;have fin:∀listed a',Inv listed a'->(∀i,i<ops.size->dV listed i)->Q .normal a' w1:=λlisted a'⟨g1,g2,g3,g4⟩hb=>by
  refine hQ' a' g1 ⟨g2,hnt,λt v hv=>?_,λt q1 q2=>?_⟩
  .have htn:t<nt:=by rw[<-g2];exact(YO.1 hv).1
   by_cases hd:Dn listed t;.obtain⟨j,o,ty,s,q1,q2,q3⟩:=hd;obtain⟨cv,q4,q5⟩:=g4 j o ty s t q1 q2 q3;rw[hv]at q4;cases q4;obtain⟨_,_,cv',q6,q7,_⟩:=hrd o (by rw[<-Ys]at q1;exact Yb q1) ty s t q2;rw[q5]at q6;cases q6;exact q7
   .rw[g3 t hd]at hv;rw[gV.other hnt h2 t (by omega) λo ho ty s d hl e=>hd ?_];.exact ht1.get t v hv
    .obtain⟨j,hj⟩:=List.getElem?_of_mem (Wt.1 ho).1;have hj':ops[j]?=some o:=by rw[<-Ys];exact hj
     exact⟨j,o,ty,s,hj',by rw[hl,e],hb j (YO.1 hj').1⟩
  .rw[gV.other hnt h2 t q2 λo ho ty s d hl e=>?_];.exact ht1.rest t q1 q2
   .have:=(hrd o (Wt.1 ho).1 ty s d hl).2.1;omega
 have walk:∀(fuel:Nat)(listed:Array Bool)(a':Act),listed.size=ops.size->Inv listed a'->listed.toList.count false=fuel->wpAnyIn (WF rd) 0 P .any ops Q fuel listed a' w1:=by
  have hready:∀(listed:Array Bool),Region.ready .any ops listed=[]->listed.size=ops.size->∀i,i<ops.size->dV listed i:=λlisted hr hsz i=>by induction i using Nat.strongRecOn with|_ i ih=>
    intro hi;by_cases hb:dV listed i;.exact hb
    .have ho:ops[i]?=some ops[i]:=Yf hi;have hmem:i∈Region.ready .any ops listed:=mem_ready.2 ⟨by have hex:listed[i]?=some listed[i]:=Yf (by omega);unfold dV at hb;rw[Yo,hex]at hb⊢;simpa using hb,_,ho,λe he hbd=>ih e.on (hE i _ ho e (by simpa using he) hbd) (by have:=hE i _ ho e (by simpa using he) hbd;omega)⟩;rw[hr]at hmem;cases hmem
  intro fuel;induction fuel with|zero=>
   intro listed a' hsz hI hc;have hall':∀i,i<ops.size->dV listed i:=λi hi=>by
    have hlt:i<listed.size:=by rw[hsz];exact hi
    have hex:listed[i]?=some listed[i]:=Yf hlt;unfold dV;rw[Yo,hex,YU];cases hv:listed[i]with|true=>rfl|false=>
     have:false∈listed.toList:=by rw[<-hv];simp
     rw[List.count_eq_zero]at hc;exact absurd this hc
   refine⟨?_,fin listed a' hI hall'⟩;refine List.eq_nil_iff_forall_not_mem.2 λi hi=>?_;obtain⟨h1,o,ho,_⟩:=mem_ready.1 hi;have hb:=hall' i (YO.1 ho).1;have hlt:i<listed.size:=by rw[hsz];exact(YO.1 ho).1
   have hex:listed[i]?=some listed[i]:=Yf hlt;unfold dV at hb;rw[Yo,hex,YU]at hb h1;rw[hb]at h1;cases h1|succ fuel ih=>
   intro listed a' hsz hI hc;refine⟨λhr=>fin listed a' hI (hready listed hr hsz),λi hi=>?_⟩;obtain⟨h1,o,ho,hr0⟩:=mem_ready.1 hi;have hin:i<ops.size:=(YO.1 ho).1;have hil:i<listed.size:=by rw[hsz];exact hin
   have hex:listed[i]?=some listed[i]:=Yf hil;have hv:listed[i]=false:=by rw[Yo,hex,YU]at h1;exact h1
   have hnb:¬dV listed i:=by unfold dV;rw[Yo,hex,YU,hv];simp
   have hc':(listed.setIfInBounds i true).toList.count false=fuel:=by have:=count_set (l:=listed.toList) (i:=i) (by simpa[hv]using hex);rw[Array.toList_setIfInBounds];omega
   have hsz':(listed.setIfInBounds i true).size=ops.size:=by simpa using hsz
   have hmem:o∈ops.toList:=by rw[<-Ys]at ho;exact Yb ho
   obtain⟨g1,g2,g3,g4⟩:=hI;have heval:∀s:Nat,s∉lx ops->a'.eval (.tmp s)=a.eval (.tmp s):=λs hs=>by have:=g3 s λ⟨j,q,ty,s',q1,q2,_⟩=>hs (hmemd q (by rw[<-Ys]at q1;exact Yb q1) ty s' s q2);simp[Act.eval,this]
   unfold wpOpIn;simp only[ho];cases hlo:dE o with|some q=>
    obtain⟨ty,s,d⟩:=q;obtain⟨hop,hd,hg⟩:=vU hlo;obtain⟨_,hdn,cv,q1,q2,_⟩:=hrd o hmem ty s d hlo;have hw:Region.wanted o (yielded ops a'.tmps)=true:=by simp[Region.wanted,hg]
    rw[if_pos hw];refine⟨iY P o a' w1 rd,?_⟩;rw[semAt_eq (by simp[hop])];have hex2:(execOp a'.eval o).run P w1=.ok (.value cv) w1:=by simp only[execOp,hop,Sem.run_bind,heval s (hads' o hmem ty s d hlo).1,q1,Result.andThen_ok,Sem.run_pure]
    rw[hex2];show wpAnyIn (WF rd) 0 P .any ops Q fuel (listed.setIfInBounds i true) (a'.put o.dst cv) w1;rw[hd];refine ih _ _ hsz' ⟨g1,by simpa[Act.put]using g2,λt htd=>?_,λj o' ty' s' d' r1 r2 r3=>?_⟩ hc';.have hne:d≠t:=λe=>htd ⟨i,o,ty,s,ho,by rw[hlo,e],(dv hil).2 (YF rfl)⟩;simp only[Act.put,WV hne];exact g3 t λ⟨j,q,ty',s',r1,r2,r3⟩=>htd ⟨j,q,ty',s',r1,r2,(dv hil).2 (YD r3)⟩
    .by_cases hdd:d=d'
     .subst hdd;refine⟨cv,by simp[Act.put,g2,hdn],?_⟩;rcases(dv hil).1 r3 with rfl|r3;.rw[ho]at r1;cases r1;rw[hlo]at r2;cases r2;exact q1
      .obtain⟨cv',r4,r5⟩:=g4 j o' ty' s' d r1 r2 r3;have hji:j=i:=by
        have hnd':∀(l:List Oper)(x y:Nat)(ox oy:Oper),(l.filterMap λo=>(dE o).map (·.2.2)).Nodup->l[x]?=some ox->l[y]?=some oy->(dE ox).map (·.2.2)=some d->(dE oy).map (·.2.2)=some d->x=y:=by intro l;induction l with|nil=>intro x y ox oy _ hx;simp at hx|cons z l ihl=>
          intro x y ox oy hnn hx hy hox hoy;have htail:(l.filterMap λo=>(dE o).map (·.2.2)).Nodup:=by
           rw[YB3]at hnn;split at hnn;.exact hnn
           .exact(WI.1 hnn).2
          cases x with
          |zero=>cases y with|zero=>rfl|succ y=>simp at hx hy;subst hx;rw[YB3,hox]at hnn;exact absurd (Qw.2 ⟨oy,Yb hy,hoy⟩) (WI.1 hnn).1
          |succ x=>cases y with|zero=>simp at hx hy;subst hy;rw[YB3,hoy]at hnn;exact absurd (Qw.2 ⟨ox,Yb hx,hox⟩) (WI.1 hnn).1|succ y=>simp at hx hy;rw[ihl x y ox oy htail hx hy hox hoy]
        exact hnd' ops.toList j i o' o hnd (by simpa using r1) (by simpa using ho) (by rw[r2];rfl) (by rw[hlo];rfl)
       exact absurd (hji▸r3) hnb
     .rcases(dv hil).1 r3 with rfl|r3;.rw[ho]at r1;cases r1;rw[hlo]at r2;cases r2;exact absurd rfl hdd
      .obtain⟨cv',r4,r5⟩:=g4 j o' ty' s' d' r1 r2 r3;exact⟨cv',by simp only[Act.put,WV hdd];exact r4,r5⟩|none=>
    have hbk:Jf ops o=true:=by have:=hall o hmem;unfold mn at this;rw[hlo]at this;simpa using this
    unfold Jf at hbk;split at hbk
    .rename_i ty s d hop hd hg;rw[List.any_eq_true]at hbk;obtain⟨ed,he1,he2⟩:=hbk;rw[Yu]at he2;obtain⟨hbind,he3⟩:=he2;split at he3
     .rename_i o2 ho2;have hl2:dE o2=some (ty,s,d):=by simpa using he3
      have hbn:dV listed ed.on:=hr0 ed (by simpa using he1) hbind;obtain⟨cv,r4,r5⟩:=g4 _ o2 ty s d ho2 hl2 hbn;have hmem2:o2∈ops.toList:=by rw[<-Ys]at ho2;exact Yb ho2
      obtain⟨_,hdn,cv',q1,q2,q3⟩:=hrd o2 hmem2 ty s d hl2;rw[r5]at q1;cases q1;have hw:Region.wanted o (yielded ops a'.tmps)=true:=by simp[Region.wanted,hg]
      rw[if_pos hw];refine⟨iY P o a' w1 rd,?_⟩;rw[semAt_eq (by simp[hop])];have hev:a'.eval (.tmp d)=cv:=by simp[Act.eval,r4]
      have hex2:(execOp a'.eval o).run P w1=.ok .skip w1:=by simp only[execOp,hop,Sem.run_bind,heval s (hads' o2 hmem2 ty s d hl2).1,hev,q3,Result.andThen_ok,Sem.run_pure]
      rw[hex2];show wpAnyIn (WF rd) 0 P .any ops Q fuel (listed.setIfInBounds i true) (a'.put o.dst undef) w1;rw[hd];refine ih _ _ hsz' ⟨g1,g2,λt htd=>?_,λj o' ty' s' d' r1 r2 r3=>?_⟩ hc';.exact g3 t λ⟨j,q,ty',s',r1,r2,r3⟩=>htd ⟨j,q,ty',s',r1,r2,(dv hil).2 (YD r3)⟩
      .rcases(dv hil).1 r3 with rfl|r3;.rw[ho]at r1;cases r1;rw[hlo]at r2;cases r2
       .exact g4 j o' ty' s' d' r1 r2 r3
     .cases he3
    .cases hbk
 refine walk ops.size _ a (by simp) ⟨rfl,hsize,λ_ _=>rfl,λj o ty s d _ _ hb=>?_⟩ (by simp[List.count_replicate]);unfold dV at hb;rw[Yo,YC4]at hb;split at hb<;>cases hb
end
inductive Out where|normal|jump(n:Nat)
def Out.ex:Out->Exit|.normal=>.normal|.jump 0=>.ret|.jump (n+1)=>.exit n
def Marks(H:Heap)(rho':Nat->Option Nat)(H':Heap)(w':World)(ms:List Deferred):Prop:=∃bs:List (Nat×Nat),(bs.map (·.1)).Nodup/\ms=bs.map (λp=>{target:=.collected p.2,args:=#[]})/\∀p∈bs,H.n<=p.1/\p.1<H'.n/\rho' p.1=some p.2/\H'.get p.1=.mark/\w'.heap[p.2]?=some (.deferred (some []))
theorem Marks.nil{H H':Heap}{rho':Nat->Option Nat}{w':World}:Marks H rho' H' w' []:=⟨[],by simp,rfl,λp h=>by cases h⟩
theorem Marks.trans{H H1 H2:Heap}{w1 w2:World}{r1 r2:Nat->Option Nat}{ms1 ms2:List Deferred}(h:Marks H r1 H1 w1 ms1)(k:Marks H1 r2 H2 w2 ms2)(x:Ext r1 H1 w1 r2 H2 w2)(hn:H.n<=H1.n):Marks H r2 H2 w2 (ms2++ms1):=by
 obtain⟨b1,n1,rfl,h1⟩:=h;obtain⟨b2,n2,rfl,h2⟩:=k;refine⟨b2++b1,?_,by simp,λp hp=>?_⟩;.rw[List.map_append,List.nodup_append];refine⟨n2,n1,λa ha b hb e=>?_⟩;obtain⟨p,hp,rfl⟩:=YW.1 ha;obtain⟨q,hq,rfl⟩:=YW.1 hb;have:=(h2 p hp).1;have:=(h1 q hq).2.1;omega
 .rcases List.mem_append.1 hp with hp|hp;.obtain⟨g1,g2,g3⟩:=h2 p hp;exact⟨Yr hn g1,g2,g3⟩
  .obtain⟨g1,g2,g3,g4,g5⟩:=h1 p hp;obtain⟨m1,m2,m3⟩:=x.marks p.1 g4;exact⟨g1,YE g2 x.n,m2.trans g3,m1,(m3 p.2 g3).trans g5⟩
def InL(rd:Option Nat)(w:World):Prop:=∀l,rd=some l->∃r,w.heap[l]?=some (.loop r)
theorem InL.ext{rd:Option Nat}{w w':World}{rho rho':Nat->Option Nat}{H H':Heap}(h:InL rd w)(x:Ext rho H w rho' H' w'):InL rd w':=λl e=>let⟨r,h1⟩:=h l e;x.loops l r h1
def CS(P:Program)(nt:Nat)(inl:Bool)(c:Code)(e:Env)(H:Heap)(out:Out)(e':Env)(H':Heap):Prop:=∀(rd:Option Nat)(hrd:rd.isSome=inl)(base:Nat)(w0:World)(rho:Nat->Option Nat)(w:World)(a:Act),PR P base w0 rho H w->TR (mu rho H w) nt e a.tmps->InL rd w->∀(Q:Exit->Act->World->Prop),(∀a' w' rho' ms,a'.defers=ms++a.defers->Marks H rho' H' w' ms->PR P base w0 rho' H' w'->TR (mu rho' H' w') nt e' a'.tmps->Ext rho H w rho' H' w'->Q out.ex a' w')->c.wpIn (WF rd) 0 P Q a w
theorem NS.cs{P:Program}{nt:Nat}{inl:Bool}{c:Code}{e e':Env}{H H':Heap}(h:NS P nt c e H e' H'):CS P nt inl c e H .normal e' H':=λrd hrd base w0 rho w a hp ht hL Q hQ=>h rd base w0 rho w a hp ht Q λa' w' rho' g1 g2 g3 g4=>hQ a' w' rho' [] g1 Marks.nil g2 g3 g4
theorem CS.here{P:Program}{nt:Nat}{inl:Bool}{c:Code}{e:Env}{H:Heap}{out:Out}(h:∀{rd Q a w},Q out.ex a w->c.wpIn (WF rd) 0 P Q a w):CS P nt inl c e H out e H:=λrd hrd base w0 rho w a hp ht hL Q hQ=>h (hQ a w rho [] rfl Marks.nil hp ht (Ext.refl hp.lt))
theorem qv{K}{Q}{a}{w}(h:K a w):Exit.then K Q .normal a w:=h
theorem Ce{K}{Q}{a}{w}{n}(h:Q (Out.jump n).ex a w):Exit.then K Q (Out.jump n).ex a w:=by cases n<;>exact h
theorem CS.seq{P:Program}{nt:Nat}{inl:Bool}{x y:Code}{e e1 e2:Env}{H H1 H2:Heap}{out:Out}(h:CS P nt inl x e H .normal e1 H1)(k:CS P nt inl y e1 H1 out e2 H2):CS P nt inl (.seq x y) e H out e2 H2:=λrd hrd base w0 rho w a hp ht hL Q hQ=>wpIn_seq (h rd hrd base w0 rho w a hp ht hL _ λa1 w1 rho1 ms1 d1 m1 p1 t1 x1=>qv (k rd hrd base w0 rho1 w1 a1 p1 t1 (hL.ext x1) Q λa2 w2 rho2 ms2 d2 m2 p2 t2 x2=>hQ a2 w2 rho2 (ms2++ms1) (by rw[d2,d1,List.append_assoc]) (m1.trans m2 x2 x1.n) p2 t2 (Ext.trans hp.lt x1 x2)))
theorem CS.Vn{P:Program}{nt:Nat}{inl:Bool}{x y:Code}{e e1:Env}{H H1:Heap}{n:Nat}(h:CS P nt inl x e H (.jump n) e1 H1):CS P nt inl (.seq x y) e H (.jump n) e1 H1:=λrd hrd base w0 rho w a hp ht hL Q hQ=>wpIn_seq (h rd hrd base w0 rho w a hp ht hL _ λa1 w1 rho1 ms1 d1 m1 p1 t1 x1=>Ce (hQ a1 w1 rho1 ms1 d1 m1 p1 t1 x1))
def LS(P:Program)(nt:Nat)(inl:Bool)(c:Code)(m:Nat)(e:Env)(H:Heap)(n:Nat)(e':Env)(H':Heap):Prop:=∀(rd:Option Nat)(hrd:rd.isSome=inl)(base:Nat)(w0:World)(rho:Nat->Option Nat)(w:World)(a:Act),PR P base w0 rho H w->TR (mu rho H w) nt e a.tmps->InL rd w->∀(Q:Exit->Act->World->Prop),(∀a' w' rho' ms,a'.defers=ms++a.defers->Marks H rho' H' w' ms->PR P base w0 rho' H' w'->TR (mu rho' H' w') nt e' a'.tmps->Ext rho H w rho' H' w'->Q (Out.jump n).ex a' w')->Code.roundsIn (WF rd) 0 P c Q m a w
def kk(kn:KE)(kx:Nat->KE):Out->KE|.normal=>kn|.jump n=>kx n
section
variable{P:Program}{nt fid:Nat}{inl:Bool}{ph:dz}
theorem Mt{c}{f:Env->Heap->KE->(Nat->KE)->R}(hc:∀e H kn kx,f e H kn kx=1->∃out e' H',CS P nt inl c e H out e' H'/\kk kn kx out e' H'=1)(kx):∀(m)(e)(H),(Nat.rec (motive:=λ_=>Env->Heap->R) (λ_ _=>no 3) (λ_ ih e H=>f e H ih kx) m:Env->Heap->R) e H=1->∃n e' H',LS P nt inl c m e H n e' H'/\kx n e' H'=1|0,e,H,h=>(aw h).elim|m+1,e,H,h=>by obtain⟨out,e1,H1,h1,h2⟩:=hc e H _ kx h;cases out with|jump n=>exact⟨n,e1,H1,λrd hrd base w0 rho w a hp ht hL Q hQ=>by exact h1 rd hrd base w0 rho w a hp ht hL _ λa' w' rho' ms d1 m1 p1 t1 x1=>Ce (hQ a' w' rho' ms d1 m1 p1 t1 x1),h2⟩|normal=>obtain⟨n,e2,H2,h3,h4⟩:=Mt hc kx m e1 H1 h2;exact⟨n,e2,H2,λrd hrd base w0 rho w a hp ht hL Q hQ=>by exact h1 rd hrd base w0 rho w a hp ht hL _ λa1 w1 rho1 ms1 d1 m1 p1 t1 x1=>qv (h3 rd hrd base w0 rho1 w1 a1 p1 t1 (hL.ext x1) Q λa2 w2 rho2 ms2 d2 m2 p2 t2 x2=>hQ a2 w2 rho2 (ms2++ms1) (by simp_all) (m1.trans m2 x2 x1.n) p2 t2 (Ext.trans hp.lt x1 x2)),h4⟩
def abm:Nat->Out|0=>.normal|m+1=>.jump m
theorem Pv(hph:jC P ph){g:Operand}{ps:Array Tmp}{asL bo:Code}{x:Arg}{l:List Slot}(hx:aN nt g=some x)(hl:iD nt ps.toList=some l){fuel:Nat}{e:Env}{H:Heap}{kn:KE}{kx:Nat->KE}(h:gH (.iJ x l (.mk nt fid asL) (.mk nt fid bo)) fuel ph e H kn kx=1):∃out e' H',CS P nt false (.rangeFunc g ps asL bo) e H out e' H'/\kk kn kx out e' H'=1:=by
 have h':aJ x e (λg=>Ab 0 g λf caps=>Nat.rec (motive:=λ_=>R) (cN H .mark λ_ H=>cN H (.loop 0 0 e l (.mk nt fid asL) (.mk nt fid bo)) λb H=>ph (.func f caps) [.rH b] H λ_ H=>cR H b λbl=>eA bl λst j e' ps' as' bo'=>Nat.rec (motive:=λ_=>R) (cJ 0 H b (.loop 3 j e' ps' as' bo') λH=>Nat.rec (motive:=λ_=>R) (kn e H) (λm _=>kx m e H) j) (λs _=>Nat.rec (motive:=λ_=>R) (no 10) (λ_ _=>cJ 0 H b (.loop 3 j e' ps' as' bo') λH=>Nat.rec (motive:=λ_=>R) (kn e H) (λm _=>kx m e H) j) s) st) (λ_ _=>no 14) (Yx f 2))=1:=h;rw[aq]at h';obtain⟨f0,caps,hf,h0⟩:=IB h';have hf0:∃f,f0=2*f/\cN H .mark (λ_ H=>cN H (.loop 0 0 e l (.mk nt fid asL) (.mk nt fid bo)) λb H=>ph (.func f0 caps) [.rH b] H λ_ H=>cR H b λbl=>eA bl λst j e' ps' as' bo'=>Nat.rec (motive:=λ_=>R) (cJ 0 H b (.loop 3 j e' ps' as' bo') λH=>Nat.rec (motive:=λ_=>R) (kn e H) (λm _=>kx m e H) j) (λs _=>Nat.rec (motive:=λ_=>R) (no 10) (λ_ _=>cJ 0 H b (.loop 3 j e' ps' as' bo') λH=>Nat.rec (motive:=λ_=>R) (kn e H) (λm _=>kx m e H) j) s) st)=1:=by
  rcases(by omega:f0%2=0\/f0%2=1)with hm|hm;.rw[show Yx f0 2=0from hm]at h0;exact⟨f0/2,by omega,h0⟩
  .rw[show Yx f0 2=1from hm]at h0;exact(aw h0).elim
 obtain⟨f,rfl,h1⟩:=hf0;obtain⟨H1,h2,n1⟩:=dP h1;obtain⟨H2,h3,n2⟩:=dP h2;obtain⟨v,H3,⟨_,h4⟩,h5⟩:=hph _ _ _ _ h3;rw[aU]at h5;obtain⟨st,j,e',ps',as',bo',hb,h6⟩:=mP h5;have h7:st≠1/\cJ 0 H3 H1.n (.loop 3 j e' ps' as' bo') (λH=>Nat.rec (motive:=λ_=>R) (kn e H) (λm _=>kx m e H) j)=1:=by match st,h6 with|0,h6=>exact⟨by decide,h6⟩|1,h6=>exact(aw h6).elim|s+2,h6=>exact⟨by omega,h6⟩
 obtain⟨H4,h8,s4⟩:=gW h7.2;have hcall:=h4 f caps rfl;refine⟨abm j,e,H4,λrd hrd base w0 rho w a hp ht hL Q hQ=>?_,by cases j<;>exact h8⟩;obtain rfl:rd=none:=by simp_all
 refine wpIn_rangeFunc λfn _=>?_;let oq:Loop:={state:=.ready,pending:=none,fn,tmps:=a.tmps,params:=ps,assign:=asL,body:=bo,defers:=w.heap.size};obtain⟨p1,x1⟩:=hp.alloc (w':=w.alloc (.deferred (some []))) (o:=.deferred (some [])) n1.n n1.bD n1.get n1.xf trivial ⟨rfl,rfl,rfl⟩ (by simp) (World.alloc_heap_new w _) (λj hj=>Below.heap_alloc _ _ _ hj) ⟨_,rfl⟩;have hsz1:(w.alloc (.deferred (some []))).heap.size=w.heap.size+1:=by simp
 generalize hr1:(λb=>if b=H.n then some w.heap.size else rho b)=rho1 at p1 x1;have hr1b:rho1 H.n=some w.heap.size:=by rw[<-hr1];simp
 obtain⟨p2,x2⟩:=p1.alloc (w':=(w.alloc (.deferred (some []))).alloc (.loop oq)) (o:=.loop oq) n2.n n2.bD n2.get n2.xf trivial ⟨rfl,rfl,rfl⟩ (by simp) (World.alloc_heap_new _ _) (λj hj=>Below.heap_alloc _ _ _ hj) ⟨oq,nt,fid,rfl,rfl,rfl,ht.mono x1.mu,hl,rfl,rfl⟩;generalize hr2:(λb=>if b=H1.n then some (w.alloc (.deferred (some []))).heap.size else rho1 b)=rho2 at p2 x2;have hr2b:rho2 H1.n=some (w.heap.size+1):=by rw[<-hr2];simp
 have hr2a:rho2 H.n=some w.heap.size:=by
  rw[<-hr2];have:H.n≠H1.n:=by have:=n1.n;omega
  simp[this,hr1b]
 have hev:=lf (mu:=mu rho H w) ht hx;rw[hf]at hev;simp only[VR]at hev;obtain⟨cs,hg,hcs⟩:=hev;have hg:a.eval g=.func (.func f) #[] cs:=by simpa using hg
 have hyl:VR (mu rho2 H2 ((w.alloc (.deferred (some []))).alloc (.loop oq))) (.rH H1.n) (.func (.yield (w.heap.size+1)) #[] #[]):=by simp only[VR];exact⟨_,rfl,by rw[n2.n];omega,λ_=>hr2b⟩
 have hx12:=Ext.trans hp.lt x1 x2;obtain⟨hrun,hin⟩:=hcall base w0 rho2 _ (#[.func (.yield (w.heap.size+1)) #[] #[]]++cs) p2 (by rw[YO0];exact cA.append (by simp only[cA];exact⟨_,_,rfl,hyl,rfl⟩) (cA.mono hx12.mu _ _ hcs));refine⟨w.heap.size+1,[{target:=.collected w.heap.size,args:=#[]}],(w.alloc (.deferred (some []))).alloc (.loop oq),{target:=.fn (.func f) cs,args:=#[.func (.yield (w.heap.size+1)) #[] #[]]},(w.alloc (.deferred (some []))).alloc (.loop oq),f,#[.func (.yield (w.heap.size+1)) #[] #[]]++cs,(w.alloc (.deferred (some []))).alloc (.loop oq),run_enterLoop_outer fn a.tmps ps asL bo,?_,λ_ _=>trivial,?_,λh=>absurd h (by simp),?_⟩;.simp[resolve,Act.eval]at hg⊢;simp[hg,Deferred.ofValue]
 .simp only[invoke];exact hrun
 .refine(CallsIn.mono hin ?_:CallsIn (WF none) 0 P f _ _ _);rintro en w3⟨cv,rfl,rho3,v3,p3,x3⟩;have hr3b:rho3 H1.n=some (w.heap.size+1):=x3.live _ _ hr2b (by rw[hb];trivial);obtain⟨o3,g1,g2⟩:=p3.cQ _ _ hr3b;rw[hb]at g2;obtain⟨r,nt',fid',rfl,g3,g4,g5,g6,g7,g8⟩:=g2;have hnb:r.state≠.busy:=λe=>h7.1 (by rw[<-g3,e];rfl);obtain⟨p4,x4⟩:=p3.write (H':=H4) (w':=w3.putObj (w.heap.size+1) (.loop {r with state:=.exhausted})) hr3b (by rw[hb];intro e;cases e) s4.n s4.bD s4.wb s4.get s4.xf trivial ⟨rfl,rfl,rfl⟩ (by simp) (World.putObj_heap_same (YO.1 g1).1) (λj hj=>World.putObj_heap_other hj) ⟨{r with state:=.exhausted},nt',fid',rfl,rfl,g4,g5,g6,g7,g8⟩ (λcs2 e2 fr2 h=>by rw[g1]at h;cases h) (λ_ _=>⟨_,rfl⟩);have hxx:=Ext.trans hp.lt hx12 (Ext.trans p2.lt x3 x4);have hmk:H2.get H.n=.mark:=by rw[n2.xf _ (by have:=n1.n;omega)];exact n1.get
  obtain⟨m1,m2,m3⟩:=(Ext.trans p2.lt x3 x4).marks H.n hmk;have hmw:((w.alloc (.deferred (some []))).alloc (.loop oq)).heap[w.heap.size]?=some (.deferred (some [])):=by rw[Below.heap_alloc _ _ _ (by simp)];exact World.alloc_heap_new w _
  have hmarks:Marks H rho3 H4 (w3.putObj (w.heap.size+1) (.loop {r with state:=.exhausted})) [{target:=.collected w.heap.size,args:=#[]}]:=⟨[(H.n,w.heap.size)],by simp,rfl,λp hpm=>by
    obtain rfl:p=(H.n,w.heap.size):=by simpa using hpm
    refine⟨YC _,?_,m2.trans hr2a,m1,(m3 _ hr2a).trans hmw⟩;have e1:=n1.n;have e2:=n2.n;have e3:=x3.n;have e4:=x4.n;show H.n<H4.n;omega⟩;have hq:=hQ {a with defers:=[{target:=.collected w.heap.size,args:=#[]}]++a.defers} _ rho3 _ rfl hmarks p4 (TR.mono hxx.mu ht) hxx;refine⟨r.pending,_,run_endLoop g1 hnb,?_⟩;rw[g4]at hq⊢;clear h5 h6 h7 h8 s4 hb p4 x4 hxx hmarks hnb h' h h1 h2 h3 hQ m1 m2 m3;rcases j with _|_|m;.exact hq
  .exact wpIn_ret hq
  .exact wpIn_exit hq
theorem Pw(hph:jC P ph){g:Operand}{ps:Array Tmp}{asL bo:Code}{x:Arg}{l:List Slot}(hx:aN nt g=some x)(hl:iD nt ps.toList=some l){fuel:Nat}{e:Env}{H:Heap}{kn:KE}{kx:Nat->KE}(h:gH (.DJ x l (.mk nt fid asL) (.mk nt fid bo)) fuel ph e H kn kx=1):∃out e' H',CS P nt true (.rangeFunc g ps asL bo) e H out e' H'/\kk kn kx out e' H'=1:=by
 have h':aJ x e (λg=>Ab 0 g λf caps=>Nat.rec (motive:=λ_=>R) (cN H (.loop 0 0 e l (.mk nt fid asL) (.mk nt fid bo)) λb H=>ph (.func f caps) [.rH b] H λ_ H=>cR H b λbl=>eA bl λst j e' ps' as' bo'=>Nat.rec (motive:=λ_=>R) (cJ 0 H b (.loop 3 j e' ps' as' bo') λH=>Nat.rec (motive:=λ_=>R) (kn e H) (λm _=>kx m e H) j) (λs _=>Nat.rec (motive:=λ_=>R) (no 10) (λ_ _=>cJ 0 H b (.loop 3 j e' ps' as' bo') λH=>Nat.rec (motive:=λ_=>R) (kn e H) (λm _=>kx m e H) j) s) st) (λ_ _=>no 14) (Yx f 2))=1:=h;rw[aq]at h';obtain⟨f0,caps,hf,h0⟩:=IB h';have hf0:∃f,f0=2*f/\cN H (.loop 0 0 e l (.mk nt fid asL) (.mk nt fid bo)) (λb H=>ph (.func f0 caps) [.rH b] H λ_ H=>cR H b λbl=>eA bl λst j e' ps' as' bo'=>Nat.rec (motive:=λ_=>R) (cJ 0 H b (.loop 3 j e' ps' as' bo') λH=>Nat.rec (motive:=λ_=>R) (kn e H) (λm _=>kx m e H) j) (λs _=>Nat.rec (motive:=λ_=>R) (no 10) (λ_ _=>cJ 0 H b (.loop 3 j e' ps' as' bo') λH=>Nat.rec (motive:=λ_=>R) (kn e H) (λm _=>kx m e H) j) s) st)=1:=by
  rcases(by omega:f0%2=0\/f0%2=1)with hm|hm;.rw[show Yx f0 2=0from hm]at h0;exact⟨f0/2,by omega,h0⟩
  .rw[show Yx f0 2=1from hm]at h0;exact(aw h0).elim
 obtain⟨f,rfl,h1⟩:=hf0;obtain⟨H2,h3,n2⟩:=dP h1;obtain⟨v,H3,⟨_,h4⟩,h5⟩:=hph _ _ _ _ h3;rw[aU]at h5;obtain⟨st,j,e',ps',as',bo',hb,h6⟩:=mP h5;have h7:st≠1/\cJ 0 H3 H.n (.loop 3 j e' ps' as' bo') (λH=>Nat.rec (motive:=λ_=>R) (kn e H) (λm _=>kx m e H) j)=1:=by match st,h6 with|0,h6=>exact⟨by decide,h6⟩|1,h6=>exact(aw h6).elim|s+2,h6=>simp_all
 obtain⟨H4,h8,s4⟩:=gW h7.2;have hcall:=h4 f caps rfl;refine⟨abm j,e,H4,λrd hrd base w0 rho w a hp ht hL Q hQ=>?_,by cases j<;>exact h8⟩;obtain⟨l₀,rfl⟩:∃l₀,rd=some l₀:=by cases rd with|none=>cases hrd|some l₀=>simp
 obtain⟨r₀,hl₀⟩:=hL l₀ rfl;refine wpIn_rangeFunc λfn _=>?_;let oq:Loop:={state:=.ready,pending:=none,fn,tmps:=a.tmps,params:=ps,assign:=asL,body:=bo,defers:=r₀.defers};obtain⟨p2,x2⟩:=hp.alloc (w':=w.alloc (.loop oq)) (o:=.loop oq) n2.n n2.bD n2.get n2.xf trivial ⟨rfl,rfl,rfl⟩ (by simp) (World.alloc_heap_new _ _) (λj hj=>Below.heap_alloc _ _ _ hj) ⟨oq,nt,fid,rfl,rfl,rfl,ht,hl,rfl,rfl⟩;generalize hr2:(λb=>if b=H.n then some w.heap.size else rho b)=rho2 at p2 x2;have hr2b:rho2 H.n=some w.heap.size:=by rw[<-hr2];simp
 have hev:=lf (mu:=mu rho H w) ht hx;rw[hf]at hev;simp only[VR]at hev;obtain⟨cs,hg,hcs⟩:=hev;have hg:a.eval g=.func (.func f) #[] cs:=by simp_all
 have hyl:VR (mu rho2 H2 (w.alloc (.loop oq))) (.rH H.n) (.func (.yield w.heap.size) #[] #[]):=by simp only[VR];exact⟨_,rfl,by rw[n2.n];omega,λ_=>hr2b⟩
 obtain⟨hrun,hin⟩:=hcall base w0 rho2 _ (#[.func (.yield w.heap.size) #[] #[]]++cs) p2 (by rw[YO0];exact cA.append (by simp only[cA];simp_all) (cA.mono x2.mu _ _ hcs));refine⟨w.heap.size,[],w.alloc (.loop oq),{target:=.fn (.func f) cs,args:=#[.func (.yield w.heap.size) #[] #[]]},w.alloc (.loop oq),f,#[.func (.yield w.heap.size) #[] #[]]++cs,w.alloc (.loop oq),run_enterLoop_inner hl₀ fn a.tmps ps asL bo,?_,λ_ _=>trivial,?_,λh=>absurd h (by simp),?_⟩;.simp[resolve,Act.eval]at hg⊢;simp[hg,Deferred.ofValue]
 .simp only[invoke];exact hrun
 .refine(CallsIn.mono hin ?_:CallsIn (WF none) 0 P f _ _ _);rintro en w3⟨cv,rfl,rho3,v3,p3,x3⟩;have hr3b:rho3 H.n=some w.heap.size:=x3.live _ _ hr2b (by rw[hb];trivial);obtain⟨o3,g1,g2⟩:=p3.cQ _ _ hr3b;rw[hb]at g2;obtain⟨r,nt',fid',rfl,g3,g4,g5,g6,g7,g8⟩:=g2;have hnb:r.state≠.busy:=λe=>h7.1 (by rw[<-g3,e];rfl);obtain⟨p4,x4⟩:=p3.write (H':=H4) (w':=w3.putObj w.heap.size (.loop {r with state:=.exhausted})) hr3b (by simp_all) s4.n s4.bD s4.wb s4.get s4.xf trivial ⟨rfl,rfl,rfl⟩ (by simp) (World.putObj_heap_same (YO.1 g1).1) (λj hj=>World.putObj_heap_other hj) ⟨{r with state:=.exhausted},nt',fid',rfl,rfl,g4,g5,g6,g7,g8⟩ (λcs2 e2 fr2 h=>by simp_all) (λ_ _=>⟨_,rfl⟩);have hxx:=Ext.trans hp.lt x2 (Ext.trans p2.lt x3 x4);have hq:=hQ a _ rho3 [] rfl Marks.nil p4 (TR.mono hxx.mu ht) hxx;refine⟨r.pending,_,run_endLoop g1 hnb,?_⟩;rw[g4]at hq⊢;clear h5 h6 h7 h8 s4 hb p4 x4 hxx hnb h' h h1 h3 hQ;rcases j with _|_|m;.exact hq
  .exact wpIn_ret hq
  .exact wpIn_exit hq
theorem JL(hm:P.follows .mixedOrders=true)(hph:jC P ph)(fuel:Nat):∀(c:Code)(e:Env)(H:Heap)(kn:KE)(kx:Nat->KE),gH (iU P nt fid inl c) fuel ph e H kn kx=1->∃out e' H',CS P nt inl c e H out e' H'/\kk kn kx out e' H'=1:=by intro c;induction c with
 |skip=>intro e H kn kx h;exact⟨.normal,e,H,CS.here λh=>wpIn_skip h,h⟩|exit id=>intro e H kn kx h;exact⟨.jump (id+1),e,H,CS.here λh=>wpIn_exit h,h⟩|ret=>intro e H kn kx h;exact⟨.jump 0,e,H,CS.here λh=>wpIn_ret h,h⟩|seq x y ihx ihy=>intro e H kn kx h;obtain⟨out,e1,H1,h1,h2⟩:=ihx e H (λe H=>gH (iU P nt fid inl y) fuel ph e H kn kx) kx h;cases out with|jump n=>exact⟨.jump n,e1,H1,h1.Vn,h2⟩|normal=>obtain⟨out,e2,H2,h3,h4⟩:=ihy e1 H1 kn kx h2;exact⟨out,e2,H2,h1.seq h3,h4⟩
 |cond x a b iha ihb=>
  intro e H kn kx h;unfold iU at h;split at h
  .rename_i ar har;have h':aJ ar e (λv=>fm 0 v λb'=>aH b' (gH (iU P nt fid inl a) fuel ph e H kn kx) (gH (iU P nt fid inl b) fuel ph e H kn kx))=1:=h;rw[aq]at h';obtain⟨t,ht,h1⟩:=nH h';have hev:∀{m:M}{ac:Act},TR m nt e ac.tmps->ac.eval x=.bool t:=λhtr=>by have:=lf htr har;rw[ht]at this;simpa only[VR]using this
   cases t with|true=>obtain⟨out,e1,H1,h2,h3⟩:=iha e H kn kx h1;exact⟨out,e1,H1,λrd hrd base w0 rho w ac hp htr hL Q hQ=>wpIn_cond_true (hev htr) (h2 rd hrd base w0 rho w ac hp htr hL Q hQ),h3⟩|false=>obtain⟨out,e1,H1,h2,h3⟩:=ihb e H kn kx h1;exact⟨out,e1,H1,λrd hrd base w0 rho w ac hp htr hL Q hQ=>wpIn_cond_false (hev htr) (h2 rd hrd base w0 rho w ac hp htr hL Q hQ),h3⟩
  .exact(aw h).elim|block id a iha=>intro e H kn kx h;obtain⟨out,e1,H1,h1,h2⟩:=iha e H kn (λn e H=>aH (YR n (WQ id)) (kn e H) (kx n e H)) h;cases out with|normal=>exact⟨.normal,e1,H1,λrd hrd base w0 rho w ac hp htr hL Q hQ=>wpIn_block (h1 rd hrd base w0 rho w ac hp htr hL _ hQ),h2⟩|jump n=>
   rcases bS h2 with⟨h3,h4⟩|⟨h3,h4⟩;.have:=cU h3;subst this;refine⟨.normal,e1,H1,λrd hrd base w0 rho w ac hp htr hL Q hQ=>wpIn_block (h1 rd hrd base w0 rho w ac hp htr hL _ λa' w' rho' ms d1 m1 p1 t1 x1=>?_),h4⟩;show Exit.inBlock id Q (.exit id) a' w';simp only[Exit.inBlock,if_true];exact hQ a' w' rho' ms d1 m1 p1 t1 x1
   .refine⟨.jump n,e1,H1,λrd hrd base w0 rho w ac hp htr hL Q hQ=>wpIn_block (h1 rd hrd base w0 rho w ac hp htr hL _ λa' w' rho' ms d1 m1 p1 t1 x1=>?_),h4⟩;have hq:=hQ a' w' rho' ms d1 m1 p1 t1 x1;cases n with|zero=>exact hq|succ n=>
     show Exit.inBlock id Q (.exit n) a' w';have hne:n≠id:=λh=>by subst h;simp at h3
     simp only[Exit.inBlock,hne,if_false];exact hq
 |loop a iha=>intro e H kn kx h;obtain⟨n,e1,H1,h1,h2⟩:=Mt (f:=λe H kn kx=>gH (iU P nt fid inl a) fuel ph e H kn kx) iha kx fuel e H h;exact⟨.jump n,e1,H1,λrd hrd base w0 rho w ac hp htr hL Q hQ=>wpIn_loop_rounds fuel (h1 rd hrd base w0 rho w ac hp htr hL Q hQ),h2⟩|region id ops draw=>
  intro e H kn kx h
  cases draw with|false=>
   have h':gH (match dG P nt (fid*100000+id*100) ops [] [] #[] ops.toList 0with|some l=>.wg l|none=>.bad) fuel ph e H kn kx=1:=h;split at h';.rename_i l hl;obtain⟨e1,H1,h1,h2⟩:=yj hph ops.toList 0 l e H kn hl h';exact⟨.normal,e1,H1,NS.cs λrd base w0 rho w a hp ht Q hQ=>wpIn_region_list (h1 rd base w0 rho w a hp ht Q hQ),h2⟩
   .exact(aw h').elim|true=>
   have h0:gH (if Cs P ops=true then(match dG P nt (fid*100000+id*100) ops [] [] #[] (ops.toList.filter mn) 0with|some l=>au.wg l|none=>.bad)else if(kA ops (Region.before ops)&&lY ops)=true then(if(xrs.contains (fid*100000+id*100)&&xOK (ops.toList.map (ai P nt)) (Region.before ops))=true then(match jf P nt (fid*100000+id*100) ops ops.toList 0with|some l=>au.adI l|none=>.bad)else if abi (ops.toList.map (ai P nt)) (Region.before ops)=true then(match je P nt (fid*100000+id*100) ops (ops.toList.map (ai P nt)) (Region.before ops) ops.toList 0with|some l=>au.X1 l|none=>.bad)else match dG P nt (fid*100000+id*100) ops (ops.toList.map λo=>bQ (ai P nt o)) (ops.toList.map λo=>lP (ai P nt o)) (Region.before ops) ops.toList 0with|some l=>au.rT l|none=>.bad)else .bad) fuel ph e H kn kx=1:=h;split at h0
   .rename_i hbk;split at h0;.rename_i l hl;obtain⟨e1,h1,h2⟩:=Xu (bid:=id) hm hbk hl (show jM ph l e H kn=1from h0);exact⟨.normal,e1,H,h1.cs,h2⟩
    .exact(aw h0).elim
   have h':=h0;split at h'
   .rename_i hcd;rw[Yu]at hcd;split at h'
    .rename_i hxx;rw[Yu]at hxx;split at h';.rename_i l hl;cases H with|mk n bD t=>obtain⟨e1,H1,h1,h2⟩:=aal (id:=id) (H:=.mk n bD t) hm hph hcd.1 hcd.2 hxx.2 hl (show dD ph n l e (.mk n bD t) [] [] kn=1from h');exact⟨.normal,e1,H1,h1.cs,h2⟩
     .exact(aw h').elim
    split at h'
    .split at h';.rename_i l hl;cases H with|mk n bD t=>obtain⟨e1,H1,h1,h2⟩:=X2 (id:=id) (H:=.mk n bD t) hm hph hcd.1 hcd.2 hl (show bI ph n l e (.mk n bD t) [] [] kn=1from h');exact⟨.normal,e1,H1,h1.cs,h2⟩
     .exact(aw h').elim
    split at h';.rename_i l hl;obtain⟨e1,H1,h1,h2⟩:=XN (id:=id) hm hph hcd.1 hcd.2 hl (show da ph l e H kn=1from h');exact⟨.normal,e1,H1,h1.cs,h2⟩
    .exact(aw h').elim
   .exact(aw h').elim
 |rangeFunc g ps asL bo iha ihb=>
  intro e H kn kx h
  cases inl with|true=>
   have h0:gH (match aN nt g,iD nt ps.toList with|some x,some l=>.DJ x l (.mk nt fid asL) (.mk nt fid bo)|_,_=>.bad) fuel ph e H kn kx=1:=h;split at h0;.rename_i x l hx hl;exact Pw hph hx hl h0
   .exact(aw h0).elim|false=>
   have h0:gH (match aN nt g,iD nt ps.toList with|some x,some l=>.iJ x l (.mk nt fid asL) (.mk nt fid bo)|_,_=>.bad) fuel ph e H kn kx=1:=h;split at h0;.rename_i x l hx hl;exact Pv hph hx hl h0
   .exact(aw h0).elim
 |_=>intro e H kn kx h;exact(aw h).elim
end
theorem iR.fs{P:Program}{f:Nat}{args caps:List V}{H H':Heap}{v:V}(h:iR P f (args++caps) H v H'):FSq P (.func (2*f) caps) args H v H':=by
 refine⟨λrd base w0 rho w cx cargs hp hx ha o a=>?_,λf' caps' e=>by
  injection e with e1 e2;have e1:2*f=2*(f':Nat):=e1;obtain rfl:f=(f':Nat):=by omega
  obtain rfl:=e2;exact h⟩;simp only[VR]at hx;obtain⟨cs,rfl,hc⟩:=hx;obtain⟨h1,h2⟩:=h base w0 rho w (cargs++cs) hp (by simpa using ha.append hc);have he:(do let d<-Deferred.ofValue (.func (.func (2*f/2)) (if 2*f%2=0then#[]else cs) (if 2*f%2=0then cs else#[])) cargs;invoke d.target d.args:Sem Next).run P w=(callFunc f (cargs++cs)).run P w:=by simp[Deferred.ofValue,invoke]
 rw[he,h1];refine⟨λh=>absurd h (by simp),?_⟩;refine(CallsIn.mono h2 ?_:CallsIn (WF none) 0 P f (cargs++cs) w _);rintro en w'⟨cv,rfl,hl⟩;exact⟨cv,rfl,hl⟩
theorem iR.fsb{P:Program}{f:Nat}{args caps:List V}{H H':Heap}{v:V}(h:iR P f (caps++args) H v H'):FSq P (.func (2*f+1) caps) args H v H':=by
 refine⟨λrd base w0 rho w cx cargs hp hx ha o a=>?_,λf' caps' e=>by injection e with e1 e2;have e1:2*f+1=2*(f':Nat):=e1;omega⟩;simp only[VR]at hx;obtain⟨cs,rfl,hc⟩:=hx;obtain⟨h1,h2⟩:=h base w0 rho w (cs++cargs) hp (by simpa using hc.append ha);have h3:(2*f+1)%2=1:=by omega
 have h4:(2*f+1)/2=f:=by omega
 have he:(do let d<-Deferred.ofValue (.func (.func ((2*f+1)/2)) (if(2*f+1)%2=0then#[]else cs) (if(2*f+1)%2=0then cs else#[])) cargs;invoke d.target d.args:Sem Next).run P w=(callFunc f (cs++cargs)).run P w:=by rw[h3,h4];simp[Deferred.ofValue,invoke]
 rw[he,h1];refine⟨λh=>absurd h (by simp),?_⟩;refine(CallsIn.mono h2 ?_:CallsIn (WF none) 0 P f (cs++cargs) w _);rintro en w'⟨cv,rfl,hl⟩;exact⟨cv,rfl,hl⟩
theorem DF{α}(i)(x:α):p8 i (.mk x x x x x x x x)=x:=by cases i<;>rfl
theorem B3(s):af s FU=.cG []:=by cases s with|mk a b c=>show p8 c (p8 b (p8 a (.mk u2 u2 u2 u2 u2 u2 u2 u2)))=_;rw[DF];show p8 c (p8 b (.mk u1 u1 u1 u1 u1 u1 u1 u1))=_;rw[DF];show p8 c (.mk u0 u0 u0 u0 u0 u0 u0 u0)=_;rw[DF];rfl
theorem Im:∀(n i)(args)(e)(k),i+n<=512->fX ((List.range' i n).map bj) args e k=1->∃e',k e'=1/\args.length=n/\(∀t,t<512->af (bj t) e'=if i<=t then(args[t-i]?).getD (af (bj t) e)else af (bj t) e)
 |0,i,[],e,k,_,h=>⟨e,h,rfl,λt _=>by simp⟩|0,i,_::_,e,k,_,h=>(aw h).elim|n+1,i,[],e,k,_,h=>(aw h).elim|n+1,i,v::args,e,k,hi,h=>by
  have h':KU (bj i) v e (λe'=>fX ((List.range' (i+1) n).map bj) args e' k)=1:=h;rw[tT]at h';obtain⟨e',h1,h2,h3⟩:=Im n (i+1) args _ k (by omega) h';refine⟨e',h1,by simp_all,λt ht=>?_⟩;rcases Nat.lt_trichotomy t i with hlt|heq|hgt
  .have hne:bj t≠bj i:=λe=>by have:=fY (by omega) (by omega) e;omega
   have e1:af (bj t) (jl (bj i) v e)=af (bj t) e:=by rw[fH,if_neg hne]
   rw[h3 t ht,e1,if_neg (show¬i+1<=t by omega),if_neg (show¬i<=t by omega)]
  .subst heq;rw[h3 t ht,if_neg (show¬t+1<=t by omega),if_pos (YC t),fH,if_pos rfl];simp
  .have hne:bj t≠bj i:=λe=>by have:=fY (by omega) (by omega) e;omega
   have e1:af (bj t) (jl (bj i) v e)=af (bj t) e:=by rw[fH,if_neg hne]
   rw[h3 t ht,e1,if_pos (show i+1<=t by omega),if_pos (show i<=t by omega),show t-i=(t-(i+1))+1by omega,List.getElem?_cons_succ]
section
variable{P:Program}{nt:Nat}
def uR(tmps:Array Value):ResultVar->Sem Value|.tmp t=>pure (tmps.getD t undef)|.cell a t=>do loadVar t (<-asAddr (tmps.getD a undef))
theorem KM(fn)(tmps):results fn tmps=(do let vs<-fn.results.mapM (uR tmps);pure (if h:vs.size=1then vs[0]else .tuple vs)):=by rfl
def adZ(P:Program)(nt:Nat)(e:Env)(H:Heap)(r:ResultVar)(v:V):Prop:=∀{base:Nat}{w0 w:World}{rho:Nat->Option Nat}{tmps:Array Value},PR P base w0 rho H w->TR (mu rho H w) nt e tmps->∃c,(uR tmps r).run P w=.ok c w/\VR (mu rho H w) v c
theorem VJ{m}{e}{tmps}(h:TR m nt e tmps){t}(ht:t<nt):VR m (af (bj t) e) (tmps.getD t undef):=by have hs:=h.size;have hex:tmps[t]?=some tmps[t]:=Yf (by omega);rw[Yo,hex];exact h.get t _ hex
theorem Gx:∀(l)(rs)(e)(H)(k),lX P nt l=some rs->yw rs e H k=1->∃vs,k vs=1/\vs.length=l.length/\∀{base}{w0 w}{rho}{tmps},PR P base w0 rho H w->TR (mu rho H w) nt e tmps->∃cs,(l.mapM (uR tmps)).run P w=.ok cs w/\cA (mu rho H w) vs cs
 |[],rs,e,H,k,hc,h=>by simp only[lX,Option.some.injEq]at hc;subst hc;exact⟨[],h,rfl,λhp ht=>⟨[],rfl,by simp only[cA]⟩⟩|r::l,rs,e,H,k,hc,h=>by
  have key:∀(q)(qs),rs=q::qs->lX P nt l=some qs->(∀f,afa q e H f=1->∃v,f v=1/\adZ P nt e H r v)->∃vs,k vs=1/\vs.length=(r::l).length/\∀{base}{w0 w}{rho}{tmps},PR P base w0 rho H w->TR (mu rho H w) nt e tmps->∃cs,((r::l).mapM (uR tmps)).run P w=.ok cs w/\cA (mu rho H w) vs cs:=λq qs hrs hqs hq=>by subst hrs;have h':=h;obtain⟨v,h1,h2⟩:=hq _ h';obtain⟨vs,h3,h4,h5⟩:=Gx l qs e H _ hqs h1;refine⟨v::vs,h3,by simp[h4],λhp ht=>?_⟩;obtain⟨c,g1,g2⟩:=h2 hp ht;obtain⟨cs,g3,g4⟩:=h5 hp ht;exact⟨c::cs,by simp[List.mapM_cons,g1,g3],by exact⟨c,cs,rfl,g2,g4⟩⟩
  cases r with
  |tmp t=>
   simp only[lX]at hc;split at hc
   .rename_i qs hqs;split at hc;.rename_i hlt;cases hc;refine key _ _ rfl hqs λf hf=>?_;have hf':kE (bj t) e f=1:=hf;rw[eC]at hf';exact⟨_,hf',λhp ht=>⟨_,rfl,VJ ht hlt⟩⟩
    .cases hc
   .cases hc|cell a t=>
   simp only[lX]at hc;split at hc
   .rename_i qs hqs hag;split at hc;.rename_i hlt;cases hc;refine key _ _ rfl hqs λf hf=>?_;have hf':kE (bj a) e (λv=>eH 0 v λb o=>oQ 0 H b o f)=1:=hf;rw[eC]at hf';obtain⟨b,off,hb,h1⟩:=gu hf';obtain⟨row,v,h2,h3,h4⟩:=yP h1;refine⟨v,h4,λ{base w0 w rho tmps}hp ht=>?_⟩;have vx:=VJ ht hlt;rw[hb]at vx;obtain⟨c,hc,hm⟩:=vx;obtain⟨cv,g1,g2,_⟩:=hp.cell (hp.mE hm h2) h2 h3;exact⟨cv,by simp[uR,hc,asAddr,loadVar,kQ hag,g1],g2⟩
    .cases hc
   .rename_i qs n hqs hag hsz;split at hc;.rename_i hlt;cases hc;refine key _ _ rfl hqs λf hf=>?_;have hf':kE (bj a) e (λv=>eH 0 v λb o=>fi 0 H b o n λl=>f (.agg l))=1:=hf;rw[eC]at hf';obtain⟨b,off,hb,h1⟩:=gu hf';obtain⟨row,h2,h3,h4⟩:=qb h1;refine⟨_,h4,λ{base w0 w rho tmps}hp ht=>?_⟩;have vx:=VJ ht hlt;rw[hb]at vx;obtain⟨c,hc,hm⟩:=vx;obtain⟨cs,g1,g2,g3⟩:=hp.cells (hp.mE hm h2) h2 h3;exact⟨.agg cs.toArray,by simp[uR,hc,asAddr,loadVar,kQ hag,cY hsz,g1],by exact⟨_,rfl,g2⟩⟩
    .cases hc
   .cases hc
end
theorem ZS{l}{k}(h:KO l k=1):∃v,k v=1/\∀(m)(cs),cA m l cs->VR m v (if h:cs.toArray.size=1then cs.toArray[0]else .tuple cs.toArray):=by cases l with|nil=>refine⟨_,h,λm cs hv=>?_⟩;subst hv;exact⟨#[],rfl,by rfl⟩|cons v l=>cases l with|nil=>refine⟨v,h,λm cs hv=>?_⟩;obtain⟨c,r,rfl,h1,rfl⟩:=hv;exact h1|cons u l=>refine⟨_,h,λm cs hv=>?_⟩;have:=hv.length;rw[dif_neg (by simp_all)];simp only[VR];simp_all
section
variable{P:Program}
theorem iL{f}{fn}{c}(hf:P.funcs[f]?=some fn)(hb:fn.body=some c)(hn:(fn.name== "runtime.NumGoroutine")=false)(args)(w):(callFunc f args).run P w=.ok (.enter f args) w:=by
 have hn':fn.name≠ "runtime.NumGoroutine":=by simp_all
 simp[callFunc,hf,hb,hn']
theorem GS{fn}{tmps}{R}{base}{w0 w}{rho rho'}{H H'}{nt}{e}(h0:∀b c,rho b=some c->b<H.n):∀{w'},PR P base w0 rho' H' w'->TR (mu rho' H' w') nt e tmps->Ext rho H w rho' H' w'->∀(bs:List (Nat×Nat)),(∀p∈bs,H.n<=p.1)->(bs.map (·.1)).Nodup->(∀p∈bs,rho' p.1=some p.2/\H'.get p.1=.mark/\w'.heap[p.2]?=some (.deferred (some [])))->(∀w2,PR P base w0 rho' H' w2->TR (mu rho' H' w2) nt e tmps->Ext rho H w rho' H' w2->∃v,(results fn tmps).run P w2=.ok v w2/\R (.returned v) w2)->LeavesInM (WF none) 0 P fn tmps R (bs.map λp=>{target:=.collected p.2,args:=#[]}) .returning w'
 |w',hp,ht,hx,[],_,_,_,hR=>hR w' hp ht hx|w',hp,ht,hx,p::bs,hn,hnd,hb,hR=>by
  obtain⟨h1,h2,h3⟩:=hb p (YM ..);have hlt:=(hp.j8 _ _ h1).2.2.1;have hnn:=hn p (YM ..);have hot:∀k,k≠p.2->(w'.putObj p.2 (.deferred none)).heap[k]?=w'.heap[k]?:=λk hk=>World.putObj_heap_other hk;have hm:(mu rho' H' w').le (mu rho' H' (w'.putObj p.2 (.deferred none))):=⟨λ_ _ h=>h,λc z⟨cs,e,fr,g1,g2⟩=>⟨cs,e,fr,(hot c λe=>by simp_all).trans g1,g2⟩⟩;have hp2:PR P base w0 rho' H' (w'.putObj p.2 (.deferred none)):=by
   refine⟨pH hp.below rfl rfl rfl (by simp) λk hk=>hot k (by have:=(hp.j8 _ _ h1).2.1;omega),by simp;exact hp.de,hp.wn,λb c hr=>by simp;exact hp.j8 b c hr,hp.inj,λb c hr=>?_,hp.out,wQ hp.gl.1 λc hc=>hot c λe=>hp.gl.2.2 _ _ h1 (e▸hc),λc hc=>by simp;exact hp.gl.2.1 c hc,hp.gl.2.2⟩;by_cases hc:c=p.2;.subst hc;obtain rfl:=hp.inj _ _ _ hr h1;exact⟨_,World.putObj_heap_same hlt,by rw[h2];exact⟨_,rfl⟩⟩
   .obtain⟨o,g1,g2⟩:=hp.cQ b c hr;exact⟨o,(hot c hc).trans g1,g2.mono hm⟩
  have hx2:Ext rho H w rho' H' (w'.putObj p.2 (.deferred none)):=by
   refine⟨hx.n,hx.bD,by simp;exact hx.size,hx.bU,hx.old,hx.live,hx.rC,hx.new,λc hc hb=>?_,λb hm=>?_,λc cs e fr hc=>?_,λc r hc=>?_⟩
   .refine(hot c λe=>?_).trans (hx.fr c hc hb);subst e;rcases hx.new _ _ hnn h1 with h|⟨b0,g1,g2⟩;.omega
    .have:=hb b0 g1;omega
   .obtain⟨a1,a2,a3⟩:=hx.marks b hm;refine⟨a1,a2,λc hc=>(hot c λe=>?_).trans (a3 c hc)⟩;subst e;have:=hp.inj _ _ _ (a2.trans hc) h1;have:=h0 _ _ hc;omega
   .obtain⟨cs',e',fr',g1,g2⟩:=hx.rows c cs e fr hc;exact⟨cs',e',fr',(hot c λe=>by simp_all).trans g1,g2⟩
   .obtain⟨r',g1⟩:=hx.loops c r hc;exact⟨r',(hot c λe=>by simp_all).trans g1⟩
  refine⟨by simp,YF ⟨p.2,_,rfl,run_takeDeferred h3,?_⟩⟩;rw[YP,WI]at hnd;refine GS h0 hp2 (ht.mono hm) hx2 bs (λq hq=>hn q (YI _ hq)) hnd.2 (λq hq=>?_) hR;obtain⟨g1,g2,g3⟩:=hb q (YI _ hq);refine⟨g1,g2,(hot q.2 λe=>?_).trans g3⟩;have:=hp.inj _ _ _ (e▸g1) h1;exact hnd.1 (YW.2 ⟨q,hq,this⟩)
theorem ae9{f:FuncId}{fn:Func}{fe:du}{fuel:Nat}{ph:dz}{args:List V}{H:Heap}{k:K}(hm:P.follows .mixedOrders=true)(hph:jC P ph)(hf:P.funcs[f]?=some fn)(hn:(fn.name== "runtime.NumGoroutine")=false)(hfe:jc P f fn=some fe)(h:XX fe fuel ph args H k=1):∃v H',iR P f args H v H'/\k v H'=1:=by
 unfold jc at hfe;split at hfe
 .rename_i c hb;split at hfe
  .rename_i hcd;rw[Yu,decide_eq_true_eq,decide_eq_true_eq]at hcd;split at hfe
   .rename_i r hr;cases hfe;have h':fX ((List.range (fn.params.size+fn.nfree)).map bj) args FU (λe=>gH (iU P fn.ntmps f false c) fuel ph e H (λe H=>yw r e H λl=>KO l λv=>k v H) λn e H=>Nat.rec (motive:=λ_=>R) (yw r e H λl=>KO l λv=>k v H) (λ_ _=>no 6) n)=1:=h;rw[List.range_eq_range']at h';obtain⟨e,h1,h2,h3⟩:=Im _ 0 args FU _ (by omega) h';obtain⟨out,e1,H1,h4,h5⟩:=JL hm hph fuel c e H _ _ h1;have h6:yw r e1 H1 (λl=>KO l λv=>k v H1)=1/\(out.ex=.normal\/out.ex=.ret):=by cases out with|normal=>exact⟨h5,YF rfl⟩|jump n=>cases n with|zero=>exact⟨h5,YD rfl⟩|succ n=>exact(aw h5).elim
    obtain⟨vs,h7,h8,h9⟩:=Gx (nt:=fn.ntmps) _ _ _ _ _ hr h6.1;obtain⟨v,h10,h11⟩:=ZS h7;refine⟨v,H1,λbase w0 rho w cargs hp ha=>⟨iL hf hb hn _ _,?_⟩,h10⟩;have hlen:=ha.length;have hsz:cargs.size=fn.params.size+fn.nfree:=by simp_all
    have htr:TR (mu rho H w) fn.ntmps e (cargs++Ql (fn.ntmps-cargs.size) undef):=by
     refine⟨by simp;omega,hcd.1,λt u hu=>?_,λt g1 g2=>?_⟩
     .have ht:t<fn.ntmps:=by have:=(YO.1 hu).1;simp_all
      rw[h3 t (by omega),if_pos (Ya _),Wx];by_cases htc:t<cargs.size
      .rw[Array.getElem?_append_left htc]at hu;have hta:t<args.length:=by omega
       have hex:args[t]?=some args[t]:=YA hta;obtain⟨c',g3,g4⟩:=ha.get hex;simp_all
      .rw[Array.getElem?_append_right (by omega),YC4]at hu;split at hu;.cases hu;rw[WT (by omega),Wv,B3];exact qz
       .cases hu
     .rw[h3 t g2,if_pos (Ya _),Wx,WT (by omega),Wv,B3]
    refine callsIn_of_wp_marks (F:=WF none) (n:=0) hf hb trivial ?_;refine h4 none rfl base w0 rho w _ hp htr (λ_ e=>by cases e) _ λa' w' rho' ms d1 m1 p1 t1 x1=>?_;obtain⟨bs,nd,hms,hbs⟩:=m1;have hd:a'.defers=bs.map (λp=>{target:=.collected p.2,args:=#[]}):=by rw[d1,hms];simp
    have key:=GS (fn:=fn) (tmps:=a'.tmps) (R:=λen w'=>∃cv,en=.returned cv/\Left P base w0 rho H w v H1 cv w') hp.lt p1 t1 x1 bs (λp hp=>(hbs p hp).1) nd (λp hp=>⟨(hbs p hp).2.2.1,(hbs p hp).2.2.2.1,(hbs p hp).2.2.2.2⟩) λw2 p2 t2 x2=>by
     obtain⟨cs,g1,g2⟩:=h9 p2 t2;have hres:(results fn a'.tmps).run P w2=.ok (if h:cs.toArray.size=1then cs.toArray[0]else .tuple cs.toArray) w2:=by rw[KM,Array.mapM_eq_mapM_toList];simp[g1]
     exact⟨_,hres,_,rfl,rho',h11 _ _ g2,p2,x2⟩
    have hpost:bodyPostM (WF none) 0 P fn (λen w'=>∃cv,en=.returned cv/\Left P base w0 rho H w v H1 cv w') .normal a' w':=by show LeavesInM (WF none) 0 P fn a'.tmps _ a'.defers .returning w';simp_all
    rcases h6.2with h|h<;>rw[h]<;>exact hpost
   .cases hfe
  .cases hfe
 .cases hfe
def vq(P:Program)(f:FuncId)(g:List V->Heap->K->R):Prop:=∀args H k,g args H k=1->∃v H',iR P f args H v H'/\k v H'=1
def iT(P:Program)(t:Nat->Option du):Prop:=∀f fe,t f=some fe->(∃fn,P.funcs[f]?=some fn/\(fn.name== "runtime.NumGoroutine")=false/\jc P f fn=some fe)\/∃g,fe=.nat g/\vq P f g
theorem Io:∀(sl)(args)(e)(k),fX sl args e k=1->args.length=sl.length/\∃e',k e'=1/\∀(m)(nt)(ps)(cargs)(tmps),iD nt ps=some sl->TR m nt e tmps->cA m args cargs->TR m nt e' ((ps.zip cargs).foldl (λtmps(q:Tmp×Value)=>tmps.setIfInBounds q.1 q.2) tmps)
 |[],args,e,k,h=>by cases args with|nil=>exact⟨rfl,e,h,λm nt ps cargs tmps hc ht hv=>by simp only[cA]at hv;simp_all⟩|cons=>exact(aw h).elim
 |s::sl,args,e,k,h=>by cases args with|nil=>exact(aw h).elim|cons v args=>have h':KU s v e (λe'=>fX sl args e' k)=1:=h;rw[tT]at h';obtain⟨h1,e',h2,h3⟩:=Io sl args _ k h';refine⟨by simp_all,e',h2,λm nt ps cargs tmps hc ht hv=>?_⟩;cases ps with|nil=>simp[iD]at hc|cons p ps=>
    simp only[iD]at hc;split at hc
    .rename_i r hr;split at hc;.rename_i hp;cases hc;obtain⟨c,cr,rfl,hv1,hv2⟩:=hv;simpa using h3 m nt ps cr _ hr (ht.put hp hv1) hv2
     simp_all
    simp_all
def lq:Out->Option Code|.normal=>none|.jump 0=>some .ret|.jump (n+1)=>some (.exit n)
theorem ry{nt}:∀{l}{r},iD nt l=some r->r.length=l.length
 |[],r,h=>by simp only[iD,Option.some.injEq]at h;simp_all|t::l,r,h=>by
  simp only[iD]at h;split at h
  .rename_i q hq;split at h;.cases h;simp[ry hq]
   simp_all
  simp_all
theorem acr{ph:dz}(hm:P.follows .mixedOrders=true)(hph:jC P ph){fuel b:Nat}{args:List V}{H:Heap}{k:K}(h:W8 (aO P) fuel ph b args H k=1):∃v H',FSq P (.rH b) args H v H'/\k v H'=1:=by unfold W8 at h;rw[aU]at h;obtain⟨st,j,e,ps,asL,bo,hb,h1⟩:=mP h;match st,hb,h1 with|s+1,hb,h1=>exact(aw h1).elim|0,hb,h1=>obtain⟨nt,fid,c1⟩:=asL;obtain⟨nt2,fid2,c2⟩:=bo;have h2:fX ps args e (λe1=>gH (iU P nt fid true c1) fuel ph e1 H (λe2 H=>cR H b λbl=>eA bl λst1 j1 e1 ps1 as1 bo1=>Nat.rec (motive:=λ_=>R) (cJ 0 H b (.loop 1 j1 e1 ps1 as1 bo1) λH=>gH (iU P nt2 fid2 true c2) fuel ph e2 H (λ_ H=>cR H b λbl=>eA bl λ_ _ e' ps' as' bo'=>cJ 0 H b (.loop 0 0 e' ps' as' bo') λH=>k (.bool true) H) λn _ H=>cR H b λbl=>eA bl λ_ _ e' ps' as' bo'=>cJ 0 H b (.loop 2 (WQ n) e' ps' as' bo') λH=>k (.bool false) H) (λ_ _=>no 13) st1) (λ_ _ _=>no 11))=1:=h1;obtain⟨hlen,e1,h3,hT⟩:=Io _ _ _ _ h2;obtain⟨out,e2,H1,cs1,h4⟩:=JL hm hph fuel c1 e1 H _ _ h3;cases out with|jump n=>exact(aw h4).elim|normal=>have h4':cR H1 b (λbl=>eA bl λst1 j1 e1 ps1 as1 bo1=>Nat.rec (motive:=λ_=>R) (cJ 0 H1 b (.loop 1 j1 e1 ps1 as1 bo1) λH=>gH (iU P nt2 fid2 true c2) fuel ph e2 H (λ_ H=>cR H b λbl=>eA bl λ_ _ e' ps' as' bo'=>cJ 0 H b (.loop 0 0 e' ps' as' bo') λH=>k (.bool true) H) λn _ H=>cR H b λbl=>eA bl λ_ _ e' ps' as' bo'=>cJ 0 H b (.loop 2 (WQ n) e' ps' as' bo') λH=>k (.bool false) H) (λ_ _=>no 13) st1)=1:=h4;rw[aU]at h4';obtain⟨st1,j1,ea,psa,asa,boa,hb1,h5⟩:=mP h4';match st1,hb1,h5 with
   |s+1,hb1,h5=>exact(aw h5).elim|0,hb1,h5=>
    obtain⟨H2,h6,s2⟩:=gW (show cJ 0 H1 b (.loop 1 j1 ea psa asa boa) _=1from h5);obtain⟨out3,e3,H3,cs2,h7⟩:=JL hm hph fuel c2 e2 H2 _ _ h6;have fin:∃(bv:Bool)(st4 jmp:Nat)(H4:Heap)(st3 j3:Nat)(eb:Env)(psb:List Slot)(asb bob:RC),H3.get b=.loop st3 j3 eb psb asb bob/\Lp H3 b (.loop st4 jmp eb psb asb bob) H4/\k (.bool bv) H4=1/\KC jmp=lq out3/\bv=(lq out3).isNone/\st4=Z7 (if(lq out3).isNone then .ready else .done):=by cases out3 with|normal=>have h8:cR H3 b (λbl=>eA bl λ_ _ e' ps' as' bo'=>cJ 0 H3 b (.loop 0 0 e' ps' as' bo') λH=>k (.bool true) H)=1:=h7;rw[aU]at h8;obtain⟨st3,j3,eb,psb,asb,bob,hb3,h9⟩:=mP h8;obtain⟨H4,h10,s4⟩:=gW h9;exact⟨true,0,0,H4,st3,j3,eb,psb,asb,bob,hb3,s4,h10,rfl,rfl,rfl⟩|jump n=>have h8:cR H3 b (λbl=>eA bl λ_ _ e' ps' as' bo'=>cJ 0 H3 b (.loop 2 (WQ n) e' ps' as' bo') λH=>k (.bool false) H)=1:=h7;rw[aU]at h8;obtain⟨st3,j3,eb,psb,asb,bob,hb3,h9⟩:=mP h8;obtain⟨H4,h10,s4⟩:=gW h9;exact⟨false,2,n+1,H4,st3,j3,eb,psb,asb,bob,hb3,s4,h10,by cases n<;>rfl,by cases n<;>rfl,by cases n<;>rfl⟩
    obtain⟨bv,st4,jmp,H4,st3,j3,eb,psb,asb,bob,hb3,s4,hk,hpend,hbv,hst4⟩:=fin;refine⟨.bool bv,H4,⟨λrd base w0 rho w cx cargs hp hx ha o a=>?_,λf caps e=>by cases e⟩,hk⟩;simp only[VR]at hx;obtain⟨c,rfl,hmu⟩:=hx;have hr:rho b=some c:=hmu.2 (by rw[hb];trivial);obtain⟨o1,g1,g2⟩:=hp.cQ _ _ hr;rw[hb]at g2;obtain⟨r,nt',fid',rfl,g3,g4,g5,g6,g7,g8⟩:=g2;have hready:∀{x:LoopState},Z7 x=0->x=.ready:=λ{x}hx=>by cases x<;>simp[Z7]at hx;rfl
    simp only[RC.mk.injEq]at g7 g8;obtain⟨rfl,rfl,g7⟩:=g7;obtain⟨rfl,rfl,g8⟩:=g8;have hsz:cargs.size=r.params.size:=by rw[<-YO1,ha.length,hlen,ry g6,YO1]
    have he:(do let d<-Deferred.ofValue (.func (.yield c) #[] #[]) cargs;invoke d.target d.args:Sem Next).run P w=.ok (.round c r.fn ((r.params.zip cargs).foldl (λtmps(t,a)=>tmps.setIfInBounds t a) r.tmps) r.assign r.body) w:=by have:=run_yield (P:=P) g1 hsz;simp[Deferred.ofValue,invoke,this]
    rw[he,g7,g8];have htr:TR (mu rho H w) nt' e1 ((r.params.zip cargs).foldl (λtmps(t,a)=>tmps.setIfInBounds t a) r.tmps):=by have:=hT (mu rho H w) nt' r.params.toList cargs.toList r.tmps g6 g5 ha;rw[<-Array.foldl_toList,Array.toList_zip];exact this
    refine⟨λh=>absurd h (by simp),?_⟩;refine(roundIn_of_wpIn (F:=WF rd) (n:=0) trivial ?_:RoundIn (WF rd) 0 P _ _ _ _ _ _ _);refine(cs1 (some c) rfl base w0 rho w {tmps:=_,defers:=[]} hp htr (λl e=>by cases e;exact⟨r,g1⟩) _ λa1 w1 rho1 ms1 d1 m1 p1 t1 x1=>?_:Code.wpIn (WF (some c)) 0 P _ _ _ _);refine qv ?_;have hr1:rho1 b=some c:=x1.live b c hr (by rw[hb1];trivial);obtain⟨o2,q1,q2⟩:=p1.cQ _ _ hr1;rw[hb1]at q2;obtain⟨r1,nt1,fid1,rfl,q3,q4,q5,q6,q7,q8⟩:=q2;refine⟨_,run_beginRound q1 (hready q3),?_⟩;obtain⟨p2,x2⟩:=p1.write (H':=H2) (w':=w1.putObj c (.loop {r1 with state:=.busy})) hr1 (by rw[hb1];intro e;cases e) s2.n s2.bD s2.wb s2.get s2.xf trivial ⟨rfl,rfl,rfl⟩ (by simp) (World.putObj_heap_same (YO.1 q1).1) (λj hj=>World.putObj_heap_other hj) ⟨{r1 with state:=.busy},nt1,fid1,rfl,rfl,q4,q5,q6,q7,q8⟩ (λcs2 e2 fr2 h=>by rw[q1]at h;cases h) (λ_ _=>⟨_,rfl⟩);refine(cs2 (some c) rfl base w0 rho1 _ a1 p2 (t1.mono x2.mu) (λl e=>by cases e;exact⟨_,World.putObj_heap_same (YO.1 q1).1⟩) _ λa3 w3 rho3 ms3 d3 m3 p3 t3 x3=>?_:Code.wpIn (WF (some c)) 0 P _ _ _ _);have hr3:rho3 b=some c:=x3.live b c hr1 (by rw[hb3];trivial);obtain⟨o3,u1,u2⟩:=p3.cQ _ _ hr3;rw[hb3]at u2;obtain⟨r3,nt3,fid3,rfl,u3,u4,u5,u6,u7,u8⟩:=u2;obtain⟨p4,x4⟩:=p3.write (H':=H4) (w':=w3.putObj c (.loop {r3 with state:=if(lq out3).isNone then .ready else .done,pending:=lq out3})) hr3 (by rw[hb3];intro e;cases e) s4.n s4.bD s4.wb s4.get s4.xf trivial ⟨rfl,rfl,rfl⟩ (by simp) (World.putObj_heap_same (YO.1 u1).1) (λj hj=>World.putObj_heap_other hj) ⟨{r3 with state:=if(lq out3).isNone then .ready else .done,pending:=lq out3},nt3,fid3,rfl,hst4.symm,hpend.symm,u5,u6,u7,u8⟩ (λcs2 e2 fr2 h=>by rw[u1]at h;cases h) (λ_ _=>⟨_,rfl⟩);have hR:∃cv,a.put o.dst (.bool (lq out3).isNone)=a.put o.dst cv/\Left P base w0 rho H w (.bool bv) H4 cv (w3.putObj c (.loop {r3 with state:=if(lq out3).isNone then .ready else .done,pending:=lq out3})):=⟨_,rfl,rho3,by simp only[VR];rw[hbv],p4,Ext.trans hp.lt x1 (Ext.trans p1.lt x2 (Ext.trans p2.lt x3 x4))⟩;have hend:=run_endRound (P:=P) (lq out3) u1;cases out3 with|normal=>exact⟨_,_,hend,hR⟩|jump n=>cases n<;>exact⟨_,_,hend,hR⟩
theorem JN(hm:P.follows .mixedOrders=true){t}(ht:iT P t)(fuel):∀depth,jC P (aS (aO P) t fuel depth)
 |0=>λx args H k h=>(aw h).elim|d+1=>λx args H k h=>by
  have ih:=JN hm ht fuel d;cases x<;>first|exact(aw h).elim|skip
  rotate_left;.exact acr hm ih h
  rename_i f caps;have key:∀g l,JQ t fuel (aS (aO P) t fuel d) g l H k=1->∃v H',iR P g l H v H'/\k v H'=1:=λg l h=>by unfold JQ at h;rw[ay]at h;cases htf:t g with|none=>rw[htf]at h;exact(aw h).elim|some fe=>
    rw[htf]at h;have h2:=h;rcases ht g fe htf with⟨fn,h3,h4,h5⟩|⟨q,rfl,h3⟩;.exact ae9 hm ih h3 h4 h5 h2
    .exact h3 _ _ _ (show q l H k=1from h2)
  have h':Nat.rec (kB args caps λargs=>JQ t fuel (aS (aO P) t fuel d) (Wo f 2) args H k) (λ_ _=>kB caps args λargs=>JQ t fuel (aS (aO P) t fuel d) (Wo f 2) args H k) (Yx f 2)=1:=h;rcases(by omega:f%2=0\/f%2=1)with hf|hf
  .rw[show Yx f 2=0from hf]at h';have h'':=h';rw[fK]at h'';obtain⟨v,H',h1,h2⟩:=key _ _ h'';have hq:f=2*(f/2):=by omega
   refine⟨v,H',?_,h2⟩;rw[hq];exact iR.fs h1
  .rw[show Yx f 2=1from hf]at h';have h'':kB caps args (λargs=>JQ t fuel (aS (aO P) t fuel d) (Wo f 2) args H k)=1:=h';rw[fK]at h'';obtain⟨v,H',h1,h2⟩:=key _ _ h'';have hq:f=2*(f/2)+1:=by omega
   refine⟨v,H',?_,h2⟩;rw[hq];exact iR.fsb h1
theorem PR.empty(w:World)(hg:GQ w/\∀c,GB c->c<w.heap.size):PR P w.heap.size w (λ_=>none) H0 w where
 below:=Below.refl _ _;de:=YC _;wn:=YC _;j8 b c h:=by cases h
 inj b b' c h:=by cases h
 cQ b c h:=by cases h
 out b _:=rfl;gl:=⟨hg.1,hg.2,λb c h=>by cases h⟩
noncomputable def isTrue(v:V)(_:Heap):R:=fm 0 v λb=>aH b 1 (no 0)
theorem OP{v}{H}(h:isTrue v H=1):v=.bool true:=by obtain⟨b,rfl,h1⟩:=nH h;obtain⟨h2,_⟩:=aX h1;rw[h2]
theorem known(hm:P.follows .mixedOrders=true){t}(ht:iT P t){fuel depth}{f:FuncId}{fn}{c}(hf:P.funcs[f]?=some fn)(hb:fn.body=some c)(hn:(fn.name== "runtime.NumGoroutine")=false)(h:aS (aO P) t fuel depth (.func (2*f) []) [] H0 isTrue=1)(w)(hg:GQ w/\∀c,GB c->c<w.heap.size:=by exact Gno):Calls P f #[] w λe w'=>e=.returned (.bool true)/\Below w.heap.size w w':=by
 obtain⟨v,H',h1,h2⟩:=JN hm ht fuel depth _ _ _ _ h;have:=OP h2;subst this;have h3:=h1.1 none w.heap.size w (λ_=>none) w (.func (.func f) #[] #[]) #[] (PR.empty w hg) (by exact⟨#[],by simp,by rfl⟩) (by rfl) {(default:Oper)with dst:=some 0} {tmps:=#[undef],defers:=[]};have he:(do let d<-Deferred.ofValue (.func (.func f) #[] #[]) #[];invoke d.target d.args:Sem Next).run P w=.ok (.enter f #[]) w:=by have:=iL hf hb hn #[] w;simp[Deferred.ofValue,invoke,this]
 rw[he]at h3;obtain⟨_,h4⟩:=h3;refine CallsIn.calls (h4.mono λe w' he=>?_) λk=>by simp[Fence.room]
 cases e with|returned u=>
  obtain⟨cv,h5,rho',h6,h7,_⟩:=he;have h8:=by simpa[Act.put]using h5
  subst h8;exact⟨by rw[h6],h7.below⟩|panicked ch=>simp_all|outgrown=>obtain⟨_,_,h⟩:=he;simp_all
end
section
variable{P:Program}{base:Nat}{w0 w w':World}{rho:Nat->Option Nat}{H:Heap}
theorem PR.called(h:PR P base w0 rho H w)(hb:Below w.heap.size w w'):PR P base w0 rho H w'/\Ext rho H w rho H w':=by
 have hE:Ext rho H w rho H w':=⟨YC _,YC _,hb.size,λ_ _ _=>⟨rfl,rfl⟩,λ_ _ _ h=>h,λ_ _ h _=>h,λ_ _ h=>h,λb c hb h1=>absurd (h.lt b c h1) (by omega),λc hc _=>hb.block c hc,λb h1=>⟨h1,rfl,λc hc=>hb.block c (h.j8 b c hc).2.2.1⟩,λc cs e fr h1=>⟨cs,e,fr,(hb.block c (YO.1 h1).1).trans h1,rfl⟩,λc r h1=>⟨r,(hb.block c (YO.1 h1).1).trans h1⟩⟩;refine⟨⟨h.below.trans (hb.mono h.de),Yr h.de hb.size,h.wn,λb c hr=>?_,h.inj,λb c hr=>?_,h.out,h.gl.step hE⟩,hE⟩;.obtain⟨h1,h2,h3,h4⟩:=h.j8 b c hr;exact⟨h1,h2,YE h3 hb.size,h4⟩
 .obtain⟨o,h1,h2⟩:=h.cQ b c hr;exact⟨o,(hb.block c (h.j8 b c hr).2.2.1).trans h1,h2.mono hE.mu⟩
theorem iR.qg{f:FuncId}{fn:Func}{c:Code}{args:List V}{v:V}(hf:P.funcs[f]?=some fn)(hb:fn.body=some c)(hn:(fn.name== "runtime.NumGoroutine")=false)(h:∀(base:Nat)(w0:World)(rho:Nat->Option Nat)(w:World)(cargs:Array Value),PR P base w0 rho H w->cA (mu rho H w) args cargs.toList->∃cv,VR (mu rho H w) v cv/\Calls P f cargs w λe w'=>e=.returned cv/\Below w.heap.size w w'):iR P f args H v H:=λbase w0 rho w cargs hp ha=>by obtain⟨cv,h1,h2⟩:=h base w0 rho w cargs hp ha;refine⟨iL hf hb hn _ _,?_⟩;have h3:CallsIn (WF none) 0 P f cargs w λe w'=>e=.returned cv/\Below w.heap.size w w':=callsIn_wide.2 h2;refine h3.mono ?_;rintro e w'⟨rfl,h4⟩;obtain⟨h5,h6⟩:=hp.called h4;exact⟨cv,rfl,rho,VR.mono h6.mu v cv h1,h5,h6⟩
theorem wy{m}{l n}{cargs}(h:cA m [.str l n] cargs.toList):cargs=#[.string ⟨(aF l n).toArray⟩]/\n<256^l:=by obtain⟨c,r,h1,⟨rfl,h2⟩,rfl⟩:=h;exact⟨by apply YL2;omega,h2⟩
end
theorem toI_nat{k}{n}(hk:k.signed=false)(h:n<fJ k):toI k n=n:=by unfold toI IntKind.wrap fJ at*;have:(n:Int)%(2^k.bits:Nat)=n:=Int.emod_eq_of_lt (by omega) (by omega);simp_all
noncomputable def Uv(args:List V)(H:Heap)(k:K):R:=List.rec (motive:=λ_=>R) (no 0) (λx r _=>List.rec (motive:=λ_=>R) (er 0 x λl n=>aH (Yd l 16777216) (wV l n 4294967295 λc=>av (Nat.sub 4294967295 c) λr=>k (.int 6 r) H) (no 0)) (λ_ _ _=>no 0) r) args
theorem Uw{args}{H}{k}(h:Uv args H k=1):∃l n,args=[.str l n]/\l<=16777216/\wV l n 4294967295 (λc=>av (Nat.sub 4294967295 c) λr=>k (.int 6 r) H)=1:=by match args,h with|[],h=>exact(aw h).elim|[x],h=>obtain⟨l,n,rfl,h1⟩:=eJ (id:=0) h;obtain⟨h2,h3⟩:=aX h1;exact⟨l,n,rfl,cH h2,h3⟩|x::y::r,h=>exact(aw h).elim
def vP(sep:List UInt8):List (List UInt8)->List UInt8|[]=>[]|[x]=>x|x::y::r=>x++(sep++vP sep (y::r))
theorem Vq(n l:Nat):Yt n (Yn 8 l)=n*256^l:=by show n<<<(8*l)=_;rw[Nat.shiftLeft_eq,Nat.pow_mul]
theorem MN{a b n m}(hn:n<256^a)(hm:m<256^b):aF (a+b) (n+m*256^a)=aF a n++aF b m/\n+m*256^a<256^(a+b):=by refine⟨by rw[Ww];exact fI a b n m hn,?_⟩;have h1:(m+1)*256^a<=256^b*256^a:=Nat.mul_le_mul_right _ hm;rw[Nat.pow_add,Ww (256^a)];rw[Nat.add_mul,Nat.one_mul]at h1;omega
theorem GL{sl sn}(hs:sn<256^sl):∀{l}{k},Mn sl sn l k=1->∃xs:List (Nat×Nat),l=xs.map (λp=>V.str p.1 p.2)/\∃tl tn,k tl tn=1/\((∀p∈xs,p.2<256^p.1)->aF tl tn=vP (aF sl sn) (xs.map λp=>aF p.1 p.2)/\tn<256^tl)|[],k,h=>⟨[],rfl,0,0,h,λ_=>⟨rfl,by simp⟩⟩|[v],k,h=>by have h':er 0 v (λl n=>k l n)=1:=h;obtain⟨l,n,rfl,h1⟩:=eJ h';exact⟨[(l,n)],rfl,l,n,h1,λhx=>⟨rfl,hx (l,n) (by simp)⟩⟩|v::u::r,k,h=>by have h':er 0 v (λl n=>Mn sl sn (u::r) λrl rn=>av (Yi l (Yi sl rl)) λtl=>av (Yi n (Yt (Yi sn (Yt rn (Yn 8 sl))) (Yn 8 l))) λtn=>k tl tn)=1:=h;obtain⟨l,n,rfl,h1⟩:=eJ h';obtain⟨xs,h2,rl,rn,h3,h4⟩:=GL hs h1;rw[ay,ay,Vq,Vq]at h3;refine⟨(l,n)::xs,by simp_all,_,_,h3,λhx=>?_⟩;obtain⟨h5,h6⟩:=h4 λp hp=>hx p (YI _ hp);have hn:=hx (l,n) (YM ..);obtain⟨c1,c2⟩:=MN hs h6;obtain⟨c3,c4⟩:=MN hn c2;refine⟨?_,c4⟩;refine c3.trans ?_;rw[c1,h5];cases xs with|nil=>cases h2|cons p xs=>rfl
noncomputable def Kg(args:List V)(H:Heap)(k:K):R:=List.rec (motive:=λ_=>R) (no 0) (λx r _=>List.rec (motive:=λ_=>R) (no 0) (λs r2 _=>List.rec (motive:=λ_=>R) (er 0 s λsl sn=>aH (WC sn (Nat.pow 256 sl)) (bC 0 x (λb o n _ _=>aH (Yd n 16777216) (aH (YR n 0) (k (.str 0 0) H) (fi 0 H b o n λl=>Mn sl sn l λtl tn=>aH (Yd tl 16777216) (k (.str tl tn) H) (no 0))) (no 0)) (k (.str 0 0) H)) (no 0)) (λ_ _ _=>no 0) r2) r) args
theorem O0{args}{H}{k}(h:Kg args H k=1):∃x sl sn,args=[x,.str sl sn]/\sn<256^sl/\bC 0 x (λb o n _ _=>aH (Yd n 16777216) (aH (YR n 0) (k (.str 0 0) H) (fi 0 H b o n λl=>Mn sl sn l λtl tn=>aH (Yd tl 16777216) (k (.str tl tn) H) (no 0))) (no 0)) (k (.str 0 0) H)=1:=by match args,h with|[],h=>exact(aw h).elim|[x],h=>exact(aw h).elim|[x,s],h=>obtain⟨sl,sn,rfl,h1⟩:=eJ (id:=0) h;obtain⟨h2,h3⟩:=aX h1;exact⟨x,sl,sn,rfl,fu h2,h3⟩|x::y::z::r,h=>exact(aw h).elim
structure IU(P:Program)(f:FuncId):Prop where
 Mk:∃fn c,P.funcs[f]?=some fn/\fn.body=some c/\(fn.name== "runtime.NumGoroutine")=false
 BJ:∀(a:Option Addr)(c:Nat)(sep:ByteArray)(w:World),Calls P f #[.slice a 0 c,.string sep] w λe w'=>e=.returned (.string ⟨#[]⟩)/\w'=w
 abb:∀(bk o c:Nat)(xs:List ByteArray)(sep:ByteArray)(w:World),(∀(j:Nat)x,xs[j]?=some x->w.cell? ⟨bk,o+j,none⟩=some (.string x))->bk<w.heap.size->xs.length<=140737488355328->xs.length<=c->(vP sep.data.toList (xs.map (·.data.toList))).length<=140737488355328->Calls P f #[.slice (some ⟨bk,o,none⟩) xs.length c,.string sep] w λe w'=>e=.returned (.string ⟨(vP sep.data.toList (xs.map (·.data.toList))).toArray⟩)/\Below w.heap.size w w'
theorem IU.nat{P:Program}{f:FuncId}(hj:IU P f):vq P f Kg:=λargs H k h=>by
 obtain⟨x,sl,sn,rfl,hs,h1⟩:=O0 h;obtain⟨fn,c,hf,hb,hn⟩:=hj.Mk;have empty:∀(x:V),(∀m cv,VR m x cv->∃a c,cv=.slice a 0 c)->iR P f [x,.str sl sn] H (.str 0 0) H:=λx hx=>iR.qg hf hb hn λbase w0 rho w cargs hp hv=>by
   simp only[cA]at hv;obtain⟨c1,r1,e1,v1,c2,r2,rfl,v2,rfl⟩:=hv;obtain⟨a,cp,rfl⟩:=hx _ _ v1;simp only[VR]at v2;obtain⟨rfl,_⟩:=v2;have hc:cargs=#[.slice a 0 cp,.string ⟨(aF sl sn).toArray⟩]:=by apply YL2;exact e1
   subst hc;refine⟨.string ⟨#[]⟩,by simp only[VR];exact⟨rfl,by decide⟩,(hj.BJ a cp _ w).mono ?_⟩;rintro e w'⟨rfl,rfl⟩;exact⟨rfl,Below.refl _ _⟩
 rcases fZ h1 with⟨b,o,n,cp,sz,rfl,h2⟩|⟨rfl,h2⟩
 .obtain⟨h3,h4⟩:=aX h2;rcases bS h4 with⟨h5,h6⟩|⟨h5,h6⟩;.have:=cU h5;subst this;exact⟨_,H,empty _ (λm cv hv=>by simp only[VR]at hv;obtain⟨c,cap,o',sp,rfl,_⟩:=hv;exact⟨_,_,rfl⟩),h6⟩
  .obtain⟨row,h7,h8,h9⟩:=qb h6;have hn0:n≠0:=by rintro rfl;cases h5
   obtain⟨xs,h10,tl,tn,h11,h12⟩:=GL hs h9;obtain⟨h13,h14⟩:=aX h11;have htl:=cH h13;have hlen:xs.length=n:=by have:=congrArg List.length h10;simp at this;omega
   refine⟨_,H,iR.qg hf hb hn λbase w0 rho w cargs hp hv=>?_,h14⟩;simp only[cA]at hv;obtain⟨c1,r1,e1,v1,c2,r2,rfl,v2,rfl⟩:=hv;simp only[VR]at v1 v2;obtain⟨c,cap,o',sp,rfl,hm,hcap,hcp,ho⟩:=v1;obtain⟨rfl,_⟩:=v2;obtain⟨rfl,rfl⟩:o'=o/\sp=none:=by
    rcases ho with h|h;.exact h
    .omega
   have hc:cargs=#[.slice (some ⟨c,o',none⟩) n cap,.string ⟨(aF sl sn).toArray⟩]:=by apply YL2;exact e1
   subst hc;have hrho:=hp.mE hm h7;have hcell:∀j p,xs[j]?=some p->∃cv,w.cell? ⟨c,o'+j,none⟩=some cv/\VR (mu rho H w) (.str p.1 p.2) cv:=λj p hj=>by
    have hrow:row[o'+j]?=some (.str p.1 p.2):=by
     have h15:((row.drop o').take n)[j]?=some (.str p.1 p.2):=by rw[h10,Yq,hj];rfl
     rw[List.getElem?_take]at h15;split at h15;.simpa using h15
     .cases h15
    obtain⟨cv,g1,g2,_⟩:=hp.cell hrho h7 hrow;exact⟨cv,g1,g2⟩
   have hok:∀p∈xs,p.2<256^p.1:=λp hp'=>by obtain⟨j,hj,rfl⟩:=List.mem_iff_getElem.1 hp';obtain⟨cv,_,g2⟩:=hcell j _ (YA hj);simp only[VR]at g2;exact g2.2
   obtain⟨h16,h17⟩:=h12 hok;have hmap:((xs.map λp=>(⟨(aF p.1 p.2).toArray⟩:ByteArray)).map (·.data.toList))=xs.map λp=>aF p.1 p.2:=by rw[List.map_map];exact List.map_congr_left λp _=>rfl
   have hcall:=hj.abb c o' cap (xs.map λp=>(⟨(aF p.1 p.2).toArray⟩:ByteArray)) ⟨(aF sl sn).toArray⟩ w (λj x hx=>by rw[Yq]at hx;obtain⟨p,hp',rfl⟩:=Option.map_eq_some_iff.1 hx;obtain⟨cv,g1,g2⟩:=hcell j p hp';simp only[VR]at g2;rw[g1,g2.1]) (hp.j8 _ _ hrho).2.2.1 (by rw[Yg,hlen];have:=cH h3;omega) (by rw[Yg,hlen];exact hcap) (by rw[hmap,<-h16,aL];omega);rw[hmap,<-h16,Yg,hlen]at hcall;exact⟨_,by simp only[VR];exact⟨trivial,h17⟩,hcall⟩
 .exact⟨_,H,empty _ (λm cv hv=>by simp only[VR]at hv;exact⟨_,_,hv⟩),h2⟩
theorem iT.base{P:Program}(h:(P.funcs.toList.all λfn=>!(fn.name== "runtime.NumGoroutine"))=true):iT P (λf=>(P.funcs[f]?).bind (jc P f)):=λf fe hf=>by
 obtain⟨fn,h1,h2⟩:=Option.bind_eq_some_iff.1 hf;refine YF ⟨fn,h1,?_,h2⟩;have hm:fn∈P.funcs.toList:=by rw[<-Ys]at h1;exact Yb h1
 have:=WR.1 h fn hm;simpa using this
theorem iT.nat{P:Program}{t:Nat->Option du}{n:Nat}{g:List V->Heap->K->R}(hg:vq P n g)(ht:iT P t):iT P (λf=>Bool.rec (motive:=λ_=>Option du) (t f) (some (.nat g)) (YR f n)):=λf fe hf=>by replace hf:Bool.rec (motive:=λ_=>Option du) (t f) (some (.nat g)) (YR f n)=some fe:=hf;cases hb:YR f n with|false=>rw[hb]at hf;exact ht f fe hf|true=>rw[hb]at hf;obtain rfl:=cU hb;cases hf;exact YD ⟨g,rfl,hg⟩
noncomputable def th(l:List (V×V)):List (V×V)->(List (V×V)->R)->R:=List.rec (motive:=λ_=>List (V×V)->(List (V×V)->R)->R) (λacc k=>k acc) (λp _ ih acc k=>Prod.rec (motive:=λ_=>R) (λx y=>cI 0 x λ_ _=>zN 0 false acc x y λacc'=>ih acc' k) p) l
noncomputable def uL(args:List V)(H:Heap)(k:K):R:=List.rec (motive:=λ_=>R) (no 0) (λx r _=>List.rec (motive:=λ_=>R) (no 0) (λs r2 _=>List.rec (motive:=λ_=>R) (ve 0 x λa=>ve 0 s λb=>aH (YR a b) (no 0) (cR H a λba=>kX 0 ba λea=>cR H b λbb=>kX 0 bb λeb=>th eb ea λres=>cJ 0 H a (.map res) λH'=>k (.cG []) H')) (λ_ _ _=>no 0) r2) r) args
def Rp(l acc r:List (V×V)):Prop:=∀p,p∈r↔p∈l\/(p.1∉l.map (·.1)/\p∈acc)
theorem zf{x y}{acc r:List (V×V)}(ha:cT (acc.map (·.1)))(h:(∃v rest,acc.Perm ((x,v)::rest)/\r.Perm ((x,y)::rest))\/((∀p∈acc,p.1≠x)/\r.Perm ((x,y)::acc))):∀p,p∈r↔p=(x,y)\/(p.1≠x/\p∈acc):=λp=>by
 rcases h with⟨v,rest,h1,h2⟩|⟨h1,h2⟩
 .have h3:(acc.map (·.1)).Perm (x::rest.map (·.1)):=h1.map _;have hn:=h3.nodup_iff.1 ha.1;have hx:∀q∈rest,q.1≠x:=λq hq e=>(WI.1 hn).1 (by rw[<-e];exact YW.2 ⟨q,hq,rfl⟩);rw[h2.mem_iff,h1.mem_iff,YN,YN];constructor
  .rintro(rfl|hp);.simp
   .exact YD ⟨hx p hp,YD hp⟩
  .rintro(rfl|⟨hne,rfl|hp⟩);.simp
   .simp_all
   simp_all
 .rw[h2.mem_iff,YN];constructor
  .rintro(rfl|hp);.simp
   .exact YD ⟨h1 p hp,hp⟩
  .rintro(rfl|⟨_,hp⟩);.simp
   simp_all
theorem Pk{x y}{l acc a1 r}(hx:x∉l.map (·.1))(h1:∀p,p∈a1↔p=(x,y)\/(p.1≠x/\p∈acc))(h2:Rp l a1 r):Rp ((x,y)::l) acc r:=λp=>by
 rw[h2 p,h1 p,YN,YP,YN];constructor
 .rintro(hp|⟨hn,rfl|⟨hne,hp⟩⟩);.simp_all
  .simp
  simp_all
 .rintro((rfl|hp)|⟨hn,hp⟩);.simp_all
  .simp_all
  simp_all
theorem FD:∀{l acc}{k},th l acc k=1->∃r,k r=1/\(∀p∈l,∃q n,p.1=.int q n)/\(cT (acc.map (·.1))->cT (l.map (·.1))->cT (r.map (·.1))/\Rp l acc r/\∀p∈l,∀q∈acc,AX false p.1 q.1)
 |[],acc,k,h=>⟨acc,h,λp hp=>(by cases hp),λh1 _=>⟨h1,λp=>by simp,λp hp=>by cases hp⟩⟩|(x,y)::l,acc,k,h=>by
  have h':cI 0 x (λ_ _=>zN 0 false acc x y λacc'=>th l acc' k)=1:=h;obtain⟨q,n,rfl,h1⟩:=dL h';obtain⟨a1,h2,hkd,h3⟩:=D6 h1;obtain⟨r,h4,h5,h6⟩:=FD h2;refine⟨r,h4,λp hp=>?_,λha hl=>?_⟩
  .rcases YN.1 hp with rfl|hp;.simp
   .exact h5 p hp
  .have hka:=yH hkd ha;have ha1:cT (a1.map (·.1)):=by
    rcases h3 with⟨v,rest,g1,g2⟩|⟨g1,g2⟩;.exact uH g1 g2 ha
    .exact yJ g1 g2 (YF ⟨_,_,_,rfl,rfl⟩) hka ha
   have hl':=cT.tail hl;obtain⟨g1,g2,g3⟩:=h6 ha1 hl';have hone:=zf ha h3;have hxn:=(WI.1 hl.1).1;refine⟨g1,Pk hxn hone g2,λp hp c hc=>?_⟩;rcases YN.1 hp with rfl|hp;.exact hka c hc
   .by_cases hcx:c.1=.int q n;.have:=g3 p hp (.int q n,y) ((hone _).2 (YF rfl));simp_all
    .exact g3 p hp c ((hone _).2 (YD ⟨hcx,hc⟩))
structure Cq(P:Program)(f:FuncId):Prop where
 Mk:∃fn c,P.funcs[f]?=some fn/\fn.body=some c/\(fn.name== "runtime.NumGoroutine")=false
 BG:∀(m:M)(w:World)(bd bs cD cS:Nat)(D S:Array MapEntry)(esd ess:List (V×V)),bd≠bs->w.heap[bd]?=some (.map D cD)->w.heap[bs]?=some (.map S cS)->ec m esd D.toList->ec m ess S.toList->ft D cD->ft S cS->cT (esd.map (·.1))->cT (ess.map (·.1))->(∀p∈ess,∃q n,p.1=.int q n)->(∀p∈ess,∀q∈esd,AX false p.1 q.1)->Calls P f #[.map (some bd),.map (some bs)] w λe w'=>e=.returned (.tuple #[])/\∃D' cD' esd',w'.heap[bd]?=some (.map D' cD')/\ec m esd' D'.toList/\ft D' cD'/\cT (esd'.map (·.1))/\Rp ess esd esd'/\(∀j,j<w.heap.size->j≠bd->w'.heap[j]?=w.heap[j]?)/\w.heap.size<=w'.heap.size/\xq w w'
theorem rB{es:List (V×V)}(h:cT (es.map (·.1))):es.Nodup:=(List.pairwise_map.1 h.1).imp λh e=>h (by rw[e])
theorem PR.OX{P:Program}{base:Nat}{w0 w w':World}{rho:Nat->Option Nat}{H H':Heap}(hp:PR P base w0 rho H w){b c:Nat}{es es2 es':List (V×V)}{ents0 ents:Array MapEntry}{clock0 clock:Nat}(hb:H.get b=.map es)(hr:rho b=some c)(hw:w.heap[c]?=some (.map ents0 clock0))(hS:Lp H b (.map es2) H')(hperm:es'.Perm es2)(hok:cT (es2.map (·.1)))(hst:ft ents clock)(he:ec (mu rho H w) es' ents.toList)(hn:w'.heap[c]?=some (.map ents clock))(ho:∀j,j<w.heap.size->j≠c->w'.heap[j]?=w.heap[j]?)(hsz:w.heap.size<=w'.heap.size)(hs:xq w w'):PR P base w0 rho H' w'/\Ext rho H w rho H' w':=by
 obtain⟨p1,x1⟩:=hp.nw (ents:=ents) (clock:=clock) hb hr hw hS hperm hok hst he;have hlt:c<w.heap.size:=(hp.j8 b c hr).2.2.1;have hbel:Below w.heap.size {w with heap:=w.heap.setIfInBounds c (.map ents clock)} w':=⟨hs.os,hs.tape,hs.output,by simpa using hsz,λj hj=>by
  by_cases hjc:j=c;.subst hjc;rw[hn];simp[hlt]
  .rw[ho j hj hjc];simp[WV (Ne.symm hjc)]⟩;obtain⟨p2,x2⟩:=p1.called (by simpa using hbel);exact⟨p2,Ext.trans hp.lt x1 x2⟩
theorem Cq.nat{P:Program}{f:FuncId}(hj:Cq P f):vq P f uL:=λargs H k h=>by match args,h with
 |[],h=>exact(aw h).elim|[x],h=>exact(aw h).elim|x::y::z::r,h=>exact(aw h).elim|[x,s],h=>
  obtain⟨a,rfl,h1⟩:=xm (id:=0) (x:=x) (k:=λa=>ve 0 s λb=>aH (YR a b) (no 0) (cR H a λba=>kX 0 ba λea=>cR H b λbb=>kX 0 bb λeb=>th eb ea λres=>cJ 0 H a (.map res) λH'=>k (.cG []) H')) h;obtain⟨b,rfl,h2⟩:=xm h1;rcases bS h2 with⟨_,h3⟩|⟨hab,h3⟩;.exact(aw h3).elim
  rw[aU]at h3;obtain⟨ea,hea,h4⟩:=qC h3;rw[aU]at h4;obtain⟨eb,heb,h5⟩:=qC h4;obtain⟨res,h6,hint,hres⟩:=FD h5;obtain⟨H',h7,hS⟩:=gW h6;obtain⟨fn,c,hf,hbd,hn⟩:=hj.Mk;have hne:a≠b:=λe=>by subst e;rw[fL]at hab;simp at hab
  refine⟨_,H',λbase w0 rho w cargs hp hv=>?_,h7⟩;simp only[cA]at hv;obtain⟨c1,r1,e1,v1,c2,r2,rfl,v2,rfl⟩:=hv;simp only[VR]at v1 v2;obtain⟨bd,rfl,hm1⟩:=v1;obtain⟨bs,rfl,hm2⟩:=v2;have hc:cargs=#[.map (some bd),.map (some bs)]:=by apply YL2;exact e1
  subst hc;obtain⟨hr1,D,cD,esd,g1,gp1,go1,ge1,gs1⟩:=hp.sd hea hm1;obtain⟨hr2,S,cS,ess,g2,gp2,go2,ge2,gs2⟩:=hp.sd heb hm2;have hbne:bd≠bs:=λe=>hne (hp.inj a b bd hr1 (e▸hr2));obtain⟨q1,q2,q3⟩:=hres go1 go2;refine⟨iL hf hbd hn _ _,?_⟩;have hcall:=hj.BG (mu rho H w) w bd bs cD cS D S esd ess hbne g1 g2 ge1 ge2 gs1 gs2 (keys_perm gp1 go1) (keys_perm gp2 go2) (λp hp'=>hint p (gp2.mem_iff.1 hp')) (λp hp' q hq=>q3 p (gp2.mem_iff.1 hp') q (gp1.mem_iff.1 hq));refine CallsIn.mono (callsIn_wide.2 hcall) ?_;rintro e w'⟨rfl,D',cD',esd',t1,t2,t3,t4,t5,t6,t7,t8⟩;have hperm:esd'.Perm res:=by refine(List.perm_ext_iff_of_nodup (rB t4) (rB q1)).2 λp=>?_;rw[t5 p,q2 p,gp2.mem_iff,gp1.mem_iff,(gp2.map (·.1)).mem_iff]
  obtain⟨p1,x1⟩:=hp.OX hea hr1 g1 hS hperm q1 t3 t2 t1 t6 t7 t8;exact⟨.tuple #[],rfl,rho,by simp only[VR];exact⟨#[],rfl,by simp only[cA]⟩,p1,x1⟩
end Go.Ev
end
