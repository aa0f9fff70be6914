/- EvD: a part of the evaluator,of its logic,or of the laws' walk in it. -/
import Derived.Test.YtnndgkcpacpleaaGreatDoorEvC
import Derived.LoopNIn
import Derived.RangeFuncIn
import Derived.RangeFuncRecord
import Derived.RangeFuncNested
import Derived.Laws.Sem
import Derived.RangeFuncLeaves
open List renaming getElem?_eq_getElem → YA,mem_cons_of_mem → YI,mem_cons_self → YJ,mem_of_getElem? → YS,getElem?_map → Yg,mem_map → Yi,length_map → Ys,all_eq_true → WR,mem_zipIdx_iff_getElem? → WT,getElem?_eq_none → WY,nodup_cons → Wg,mem_filter → Wl,mem_filterMap → YE2,filterMap_cons → YK3
open Nat renaming le_refl → YB,lt_of_lt_of_le → YD,beq → YM,ble → YX,add → Yd,zero_le → Yf,lt_or_ge → Yh,mul → Yj,mod → Yq,le_trans → Yr,shiftLeft → Yt,blt → Yx,zero_add → WJ,succ → WN,div → Wf,sub_zero → QQ
open Or renaming inr → YE,inl → YG
open Array renaming getElem?_eq_some_iff → YN,getElem?_eq_getElem → Ya,getD_eq_getD_getElem? → Yk,getElem?_toList → Yw,getElem?_setIfInBounds_ne → QL,replicate → Qb,getElem?_replicate → Qw,toList_append → YK4,length_toList → YL0
open Option renaming getD_some → Yl,getD_none → Wq
open Bool renaming and_eq_true → Yz,false_or → YL4
set_option linter.unusedVariables false
set_option linter.unusedSimpArgs false
set_option linter.unusedSectionVars false
section
namespace Go.Ev
open Go.RowKit
theorem zI {l} {bf} {i j} (h:ic l bf i=true) (hj:l[j]? = some false) (hne:i≠j):(bf.getD i 0).testBit j=true\/(bf.getD j 0).testBit i=true:=by
 unfold ic at h
 rw [WR]at h
 have:=h (false,j) (WT.2 hj)
 grind
def NS (P:Program) (nt:Nat) (c:Code) (e:Env) (H:Heap) (e':Env) (H':Heap):Prop:=
 ∀ (rd:Option Nat) (base:Nat) (w0:World) (rho:Nat->Option Nat) (w:World) (a:Act),PR P base w0 rho H w->TR (mu rho H w) nt e a.tmps->
  ∀ (Q:Exit->Act->World->Prop),(∀ a' w' rho',a'.defers=a.defers->PR P base w0 rho' H' w'->TR (mu rho' H' w') nt e' a'.tmps->Ext rho H w rho' H' w'->Q .normal a' w')->c.wpIn (WF rd) 0 P Q a w
theorem Jb {P:Program} {nt:Nat} {ops:Array Oper} {id:Nat} {iso pur al:Nat->Bool} {E:Nat->Env} {Hh:Nat->Heap} {Vv:Nat->V} {B:Nat->Option Nat} (hm:P.follows .mixedOrders=true) (hap:jN ops (Region.before ops)=true) (hE:Dx ops)
 (hst:∀ j o,ops[j]? = some o->gW P nt ops (iso j) (pur j) (B j) o (E j) (Hh j) (Vv j) (E (j+1)) (Hh (j+1)))
 (hiso:∀ i j,jt iso pur i->i≠j->pur j=false->j<ops.size->((Region.before ops).getD i 0).testBit j=true\/((Region.before ops).getD j 0).testBit i=true\/al j=true)
 (hhal:∀ i,jt iso pur i->al i=false)
 (hal:∀ i o,ops[i]? = some o->al i=true->(GW nt (E i) ops o false/\Vv i = .cH []/\Hh (i+1)=Hh i)\/(qV P nt (E i) o (Hh i) (Vv i) (Hh (i+1))/\∀ k,k<ops.size->jt iso pur k->i<k->jG (Region.before ops) i k=false->(Hh i).n<(Hh k).n->(Hh (k+1)).get (Hh i).n=(Hh k).get (Hh i).n))
 (hB:∀ i b,i<ops.size->B i=some b->b<(Hh 0).n)
 (hkp:∀ i k b,i<ops.size->k<ops.size->B i=some b->jt iso pur k->jG (Region.before ops) i k=false->b<(Hh k).n->(Hh (k+1)).get b=(Hh k).get b):
 NS P nt (.region id ops true) (E 0) (Hh 0) (E ops.size) (Hh ops.size):=λrd b0 w0 rho w a hp ht Q hQ=>by
 have hp1:PR P b0 w0 rho (Hh 0) {w with drawn:=w.drawn+1 }:=hp.drawn _
 have ht1:TR (mu rho (Hh 0) {w with drawn:=w.drawn+1 }) nt (E 0) a.tmps:=ht
 have hrun:=TT (iso:=iso) (pur:=pur) hst hp1 ht1
 have hhp:Lw ops.size iso pur Hh:=⟨λi hi=>by obtain ⟨⟨_,_,_,p,_⟩,_⟩:=hrun i hi;exact p.wn,λi hi=>by obtain ⟨⟨_,_,_,p,_⟩,_⟩:=hrun i hi;exact p.out,
  λi hi=>by grind,λi hi=>by grind⟩
 have hke:∀ i,i<ops.size->∀ t,t<nt->∃ m c,VR m (ae (bg t) (E i)) c/\∀ b c',m.b b c'->b<(Hh i).n:=λi hi t hlt=>by
  obtain ⟨⟨rho',w',a',p,tr⟩,_⟩:=hrun i (by omega)
  have hs:=tr.size
  have hlt':t<a'.tmps.size:=by omega
  exact ⟨_,_,tr.get t _ (Ya hlt'),λb c' hm=>hm.1⟩
 refine wpIn_region_any hm ?_
 obtain ⟨T,t1,t2,t3,t4⟩:=AP iso pur ops.size _ 0 rfl (Yf _)
 obtain ⟨b1,b2⟩:=UO hhp T t2 0 t1 t4
 obtain ⟨p2,m2⟩:=hp1.grow b1 (hhp.wn T t2) (hhp.out T t2)
 have hnb:∀ k,(Qb ops.size false).getD k false=false:=λk=>by
  rw [Yk,Qw]
  split<;>rfl
 have x2:Ext rho (Hh 0) w rho (Hh T) {w with drawn:=w.drawn+1 }:=⟨b1.n,by omega,YB _,λb hb _=>⟨b1.get b hb,rfl⟩,λ_ _ _ h=>h,λ_ _ h _=>h,λb hb ha=>by rw [<- b1.get b hb];exact ha,λb c hb hr=>absurd (hp.lt b c hr) (by omega),λ_ _ _=>rfl,λb hb=>⟨by
  have hbn:b<(Hh 0).n:=by
   rcases Yh b (Hh 0).n with h|h
   .exact h
   .rw [b1.out b h]at hb;cases hb
  rw [b1.get b hbn];exact hb,rfl,λ_ _=>rfl⟩,λc cs e fr hc=>⟨cs,e,fr,hc,rfl⟩,λc r hc=>⟨r,hc⟩⟩
 obtain ⟨Hy,y1,y2,y3,y4⟩:=Cf (λb=>if b<(Hh T).n then (Hh T).get b else .cells []) (Hh ops.size).n (Hh T).bz
 have hTN:=(de hhp ops.size (YB _) T t2).1
 have hylo:∀ b,b<(Hh T).n->Hy.get b=(Hh T).get b:=λb hb=>by grind
 have bY:Part (Hh T) Hy:=⟨by grind,hylo,hhp.out T t2⟩
 obtain ⟨p3,m3⟩:=p2.grow bY (by rw [y1,y2];have:=hhp.wn T t2;omega) (λb hb=>y4 b (by grind))
 have h0T:=(de hhp T t2 0 (Yf _)).1
 have x3:Ext rho (Hh 0) w rho Hy {w with drawn:=w.drawn+1 }:=x2.re hp.lt (λb c h=>(hp.jP b c h).2.2.1) hp.out (by grind) y2 (λb hb=>hylo b (by omega)) (λ_ _=>rfl) (λb c _ h=>YG h) (λ_ _=>rfl) (YB _)
 refine walk (al:=al) (rho0:=rho) (w00:=w) (ds:=a.defers) hst hE hap hiso hhal hal hhp ht.le hp.lt (λb c h=>(hp.jP b c h).2.2.1) hB hkp hke (λa' w' rho' g1 g2 g3 g4=>hQ a' w' rho' g1 g2 g3 g4) hp.out ops.size _ _ _ T rho Hy
  ⟨by simp,(λj hj=>by unfold dN at hj;simp_all),t2,t3,(λhb=>by unfold dN at hb;simp_all),λi hi hh=>absurd hh (t4 i (Yf _) hi),y1,y2,hylo,λb hb hb'=>?_,p3,x3,?_,rfl,λb c hr k hk _=>?_,λb c hr k hk hkj hb=>?_,λb c hr hb=>?_⟩ (by simp)
 .rw [y3 b (by omega),if_neg (by omega)]
  trivial
 .have:(λk=>(Qb ops.size false).getD k false)=λ_=>false:=funext hnb
  rw [this,Aq λ_=>rfl]
  exact ht1.mono (M.le_trans m2 m3)
 .have:=hp.lt b c hr
  have:=(de hhp k (by omega) 0 (Yf _)).1
  omega
 .exact (hp1.kn hr).part (UO hhp k (by omega) 0 (Yf _) λj h5 h6=>t4 j h5 (by omega)).1 (hp.lt b c hr)
 .have:=hp.lt b c hr
  omega
theorem pB {l al} {bf} {i j} (h:dy l al bf i=true) (hj:l[j]? = some false) (hne:i≠j):(bf.getD i 0).testBit j=true\/(bf.getD j 0).testBit i=true\/(al.getD j false=true/\i<j):=by
 unfold dy at h
 rw [Yz]at h
 have h:=h.2
 rw [WR]at h
 have:=h (false,j) (WT.2 hj)
 simp only [YL4,Bool.or_eq_true,beq_iff_eq,Yz]at this
 rcases this with ((h1|h1)|h1)|h1
 .omega
 .simp_all
 .simp_all
 simp_all
theorem U9 {P:Program} {nt:Nat} {ph:cU} {ops:Array Oper} {base id:Nat} {r:List rQ} {e:Env} {H:Heap} {k:Env->Heap->R} (hm:P.follows .mixedOrders=true) (hph:iY P ph) (hap:jN ops (Region.before ops)=true) (hed:lE ops=true)
 (hc:dn P nt base ops (ops.toList.map λo=>bK (ai P nt o)) (ops.toList.map λo=>lh (ai P nt o)) (Region.before ops) ops.toList 0=some r) (h:bO ph r e H k=1):∃ e' H',NS P nt (.region id ops true) e H e' H'/\k e' H'=1:=by
 obtain ⟨E,Hh,Vv,h1,h2,h3,h5,h4⟩:=Ar hph ops.toList 0 r e H k hc h
 have hE:=su hed
 subst h1 h2
 have hpur:∀ (j:Nat) (o:Oper),ops[j]? = some o->(ops[j]?.map λo=>bK (ai P nt o)).getD true=bK (ai P nt o):=λj o hj=>by simp [hj]
 have halg:∀ (j:Nat),(ops.toList.map λo=>lh (ai P nt o)).getD j false=true->∃ o,ops[j]? = some o/\lh (ai P nt o)=true:=λj hj=>by
  grind
 have hni:∀ j,(ops.toList.map λo=>lh (ai P nt o)).getD j false=true->dy (ops.toList.map λo=>bK (ai P nt o)) (ops.toList.map λo=>lh (ai P nt o)) (Region.before ops) j=false:=λj hj=>by
  unfold dy
  simp_all
 refine ⟨_,_,Jb (iso:=λj=>dy (ops.toList.map λo=>bK (ai P nt o)) (ops.toList.map λo=>lh (ai P nt o)) (Region.before ops) j) (pur:=λj=>(ops[j]?.map λo=>bK (ai P nt o)).getD true) (al:=λj=>(ops.toList.map λo=>lh (ai P nt o)).getD j false) (Vv:=Vv) (B:=λ_=>none) hm hap hE (λj o hj=>?_) (λi j hi hne hpj hj=>?_) (λi hi=>?_) (λi o ho hi=>?_) (λi b _ hb=>by cases hb) (λi k b _ _ hb=>by cases hb),by omega⟩
 .simp_all
 .refine (pB hi.1 ?_ hne).imp (λh=>h) (Or.imp (λh=>h) And.left)
  simp_all
 .cases hx:(ops.toList.map λo=>lh (ai P nt o)).getD i false with
  | false=>rfl
  | true=>exact absurd (hi.1.symm.trans (hni i hx)) (by simp)
 .obtain ⟨o',g1,g2⟩:=halg i hi
  rw [ho]at g1
  cases g1
  have:=h5 i o (by grind) g2
  rw [WJ]at this
  refine (this (hni i hi)).imp (λh=>h) λhA=>⟨hA,λk hk hh hik hord hlt=>?_⟩
  exfalso
  have hpf:(ops.toList.map λo=>bK (ai P nt o))[i]? = some false:=by
   rw [Yg,Yw,ho]
   cases hcc:ai P nt o<;>rw [hcc]at g2<;>first|(cases g2;done)|simp [hcc,bK]
  unfold jG at hord
  rw [Bool.or_eq_false_iff]at hord
  rcases pB hh.1 hpf (by omega) with h8|h8|h8
  .simp_all
  .simp_all
  .omega
theorem Tu {x y} {k} (h:Tt x y k=1):x=y/\k=1:=by
 obtain ⟨k1,a,hx,h3⟩:=dK (show cC 0 x (λk1 a=>cC 0 y λk2 b=>aF (YM k1 k2) (aF (YM a b) k (no 0)) (no 0))=1 from h)
 obtain ⟨k2,b,hy,h4⟩:=dK (show cC 0 y (λk2 b=>aF (YM k1 k2) (aF (YM a b) k (no 0)) (no 0))=1 from h3)
 obtain ⟨h1,h5⟩:=aQ (show aF (YM k1 k2) (aF (YM a b) k (no 0)) (no 0)=1 from h4)
 obtain ⟨h2,h6⟩:=aQ h5
 simp_all
theorem A6:∀ {l m} {k},rD l m k=1->l=m/\k=1
 | [],[],k,h=>⟨rfl,h⟩
 | [],_ :: _,k,h=>(av h).elim
 | _ :: _,[],k,h=>(av h).elim
 | a :: l,b :: m,k,h=>by
  obtain ⟨h1,h2⟩:=Tu (show Tt a b (rD l m k)=1 from h)
  obtain ⟨h3,h4⟩:=A6 h2
  simp_all
theorem HP {x y} {k} (h:yE x y k=1):x=y/\k=1:=by
 rcases mV (show uo 0 x (λl=>uo 0 y (λm=>rD l m k) λ_ _=>no 0) (λ_ _=>no 0)=1 from h) with ⟨l,hx,h3⟩|⟨a,b,hx,h3⟩
 .rcases mV (show uo 0 y (λm=>rD l m k) (λ_ _=>no 0)=1 from h3) with ⟨m,hy,h4⟩|⟨a,b,hy,h4⟩
  .obtain ⟨h1,h2⟩:=A6 h4
   simp_all
  .exact (av h4).elim
 .exact (av h3).elim
theorem HQ {b} {x}:∀ {hs} {k},uR b x hs k=1->(∀ G ∈ hs,G.get b=x)/\k=1
 | [],k,h=>⟨λG hG=>(by cases hG),h⟩
 | G :: hs,k,h=>by
  have h':dC G b (λy=>yE y x (uR b x hs k))=1:=h
  rw [aV]at h'
  obtain ⟨h1,h2⟩:=HP h'
  obtain ⟨h3,h4⟩:=HQ h2
  simp_all
theorem HV {H H'}:∀ {bs} {k},uS H H' bs k=1->(∀ b ∈ bs,H'.get b=H.get b)/\k=1
 | [],k,h=>⟨λb hb=>(by cases hb),h⟩
 | b :: bs,k,h=>by
  have h':dC H b (λx=>dC H' b λy=>yE y x (uS H H' bs k))=1:=h
  rw [aV,aV]at h'
  obtain ⟨h1,h2⟩:=HP h'
  obtain ⟨h3,h4⟩:=HV h2
  simp_all
def ab2 (P:Program) (nt:Nat) (ops:Array Oper) (n0:Nat) (l:List Oper) (e:Env) (H:Heap) (hs:List Heap) (bs:List Nat) (k:Env->Heap->R):Prop:=
 ∃ (E:Nat->Env) (Hh:Nat->Heap) (Vv:Nat->V) (B:Nat->Option Nat),E 0=e/\Hh 0=H/\(∀ j o,l[j]? = some o->gW P nt ops true (vv (ai P nt o)) (B j) o (E j) (Hh j) (Vv j) (E (j+1)) (Hh (j+1)))/\k (E l.length) (Hh l.length)=1/\
 (∀ j b,j<l.length->B j=some b->b<n0/\(∀ G ∈ hs,G.get b=H.get b)/\∀ m,m<=l.length->(Hh m).get b=H.get b)/\
 ∀ b ∈ bs,∀ m,m<=l.length->(Hh m).get b=H.get b
theorem At {P:Program} {nt:Nat} {ph:cU} {ops:Array Oper} {base n0:Nat} (hph:iY P ph):∀ (l:List Oper) (i:Nat) (r:List uY) (e:Env) (H:Heap) (hs:List Heap) (bs:List Nat) (k:Env->Heap->R),iH P nt base ops l i=some r->fK ph n0 r e H hs bs k=1->ab2 P nt ops n0 l e H hs bs k
 | [],i,r,e,H,hs,bs,k,hc,h=>by
  simp only [iH,Option.some.injEq]at hc
  subst hc
  exact ⟨λ_=>e,λ_=>H,λ_=>.pK,λ_=>none,rfl,rfl,λj o hj=>by simp at hj,h,λj b hj=>by simp at hj,λb _ m _=>rfl⟩
 | o :: l,i,r,e,H,hs,bs,k,hc,h=>by
  simp only [iH]at hc
  split at hc
  .rename_i d g r' hd hg hr
   cases hc
   have fin:∀ (v:V) (H1:Heap) (B0:Option Nat) (hs':List Heap) (bs':List Nat),gW P nt ops true (vv (ai P nt o)) B0 o e H v (dJ d v e) H1->
    (∀ b,B0=some b->b<n0/\(∀ G ∈ hs,G.get b=H.get b)/\b ∈ bs'/\H1=H)->(∀ b ∈ bs,b ∈ bs'/\H1.get b=H.get b)->(∀ G ∈ hs,G ∈ hs')->(H ∈ hs'\/H1=H)->fK ph n0 r' (dJ d v e) H1 hs' bs' k=1->ab2 P nt ops n0 (o :: l) e H hs bs k:=λv H1 B0 hs' bs' hst hB hbs hhs hH hev=>by
    obtain ⟨E,Hh,Vv,B,h1,h2,h3,h4,h5,h6⟩:=At hph l (i+1) r' _ _ hs' bs' k hr hev
    refine ⟨pI e E,pI H Hh,pI v Vv,pI B0 B,rfl,rfl,λj o' hj=>?_,h4,λj b hj hb=>?_,λb hb m hm=>?_⟩
    .cases j with
     | zero=>
      simp only [List.getElem?_cons_zero,Option.some.injEq]at hj
      subst hj
      show gW P nt ops true _ B0 o e H v (E 0) (Hh 0)
      grind
     | succ j=>exact h3 j o' (by grind)
    .cases j with
     | zero=>
      obtain ⟨q1,q2,q3,q4⟩:=hB b hb
      refine ⟨q1,q2,λm hm=>?_⟩
      cases m with
      | zero=>rfl
      | succ m=>
       show (Hh m).get b=H.get b
       simp_all
     | succ j=>
      obtain ⟨q1,q2,q3⟩:=h5 j b (by grind) hb
      have hHb:H1.get b=H.get b:=hH.elim (λh=>(q2 H h).symm) λh=>by rw [h]
      refine ⟨q1,λG hG=>(q2 G (hhs G hG)).trans hHb,λm hm=>?_⟩
      cases m with
      | zero=>rfl
      | succ m=>exact (q3 m (by grind)).trans hHb
    .cases m with
     | zero=>rfl
     | succ m=>exact (h6 b (hbs b hb).1 m (by grind)).trans (hbs b hb).2
   have h':ta g e (aF (YM (Dt (ai P nt o)) 5)
    (aG (qY (ai P nt o)) e λa=>nR 0 a λob=>Option.rec (motive:=λ_=>R) (no 0) (λb=>aF (Yx b n0) (dC H b λx=>uR b x hs (aL (ai P nt o) 0 ph e H λv _=>bV d v e λe'=>fK ph n0 r' e' H hs (b :: bs) k)) (no 0)) ob)
    (aF (YM (Dt (ai P nt o)) 6)
     (aL (ai P nt o) 0 ph e H λv H'=>uS H H' bs (bV d v e λe'=>fK ph n0 r' e' H' (H :: hs) bs k))
     (aL (ai P nt o) 0 ph e H λv H'=>bV d v e λe'=>fK ph n0 r' e' H' hs bs k)))
    (bV d (.cH []) e λe'=>fK ph n0 r' e' H hs bs k)=1:=h
   rcases tb hg h' with ⟨h1,h2⟩|⟨h1,h2⟩
   rotate_left
   .rw [cq]at h1
    exact fin _ H none hs bs ⟨d,hd,rfl,YG ⟨h2,rfl,rfl⟩⟩ (λb hb=>by cases hb) (λb hb=>⟨hb,rfl⟩) (λ_ h=>h) (YE rfl) h1
   by_cases hpu:bK (ai P nt o)=true
   .rw [show Dt (ai P nt o)=0 by unfold Dt;grind]at h1
    obtain ⟨v,h3,h4⟩:=yr hph hpu (show aL (ai P nt o) 0 ph e H (λv H'=>bV d v e λe'=>fK ph n0 r' e' H' hs bs k)=1 from h1)
    have h4':bV d v e (λe'=>fK ph n0 r' e' H hs bs k)=1:=h4
    rw [cq]at h4'
    exact fin v H none hs bs ⟨d,hd,rfl,YE (YG ⟨h2,by unfold vv;rw [hpu];rfl,rfl,λH2 _=>h3 H2⟩)⟩ (λb hb=>by cases hb) (λb hb=>⟨hb,rfl⟩) (λ_ h=>h) (YE rfl) h4'
   by_cases hld:Gu (ai P nt o)=true
   .rw [show Dt (ai P nt o)=5 by unfold Dt;grind]at h1
    have h3:aG (qY (ai P nt o)) e (λa=>nR 0 a λob=>Option.rec (motive:=λ_=>R) (no 0) (λb=>aF (Yx b n0) (dC H b λx=>uR b x hs (aL (ai P nt o) 0 ph e H λv _=>bV d v e λe'=>fK ph n0 r' e' H hs (b :: bs) k)) (no 0)) ob)=1:=h1
    rw [aq]at h3
    have h4:=rW h3
    cases hob:qG (ay (qY (ai P nt o)) e) with
    | none=>rw [hob]at h4;exact (av h4).elim
    | some b=>
     rw [hob]at h4
     obtain ⟨h5,h6⟩:=aQ (show aF (Yx b n0) (dC H b λx=>uR b x hs (aL (ai P nt o) 0 ph e H λv _=>bV d v e λe'=>fK ph n0 r' e' H hs (b :: bs) k)) (no 0)=1 from h4)
     rw [aV]at h6
     obtain ⟨h7,h8⟩:=HQ h6
     obtain ⟨v,h9,h10⟩:=Sk hld hob h8
     have h9':bV d v e (λe'=>fK ph n0 r' e' H hs (b :: bs) k)=1:=h9
     rw [cq]at h9'
     refine fin v H (some b) hs (b :: bs) ⟨d,hd,rfl,YE (YG ⟨h2,by unfold vv;grind,rfl,λH2 hH2=>?_⟩)⟩ (λb' hb'=>?_) (λb' hb'=>⟨YI _ hb',rfl⟩) (λ_ h=>h) (YE rfl) h9'
     .have hev:=h10 H2 (hH2 b rfl) (λv' H'=>open Classical in if v'=v/\H'=H2 then 1 else 0)
      obtain ⟨v',H',q1,q2⟩:=eH hph (P:=P) (nt:=nt) (o:=o) (id:=0) (e:=e) (H:=H2) (by rw [hev];simp)
      simp_all
     simp_all
   .rw [show Dt (ai P nt o)=6 by unfold Dt;grind]at h1
    obtain ⟨v,H1,h3,h4⟩:=eH hph (show aL (ai P nt o) 0 ph e H (λv H'=>uS H H' bs (bV d v e λe'=>fK ph n0 r' e' H' (H :: hs) bs k))=1 from h1)
    obtain ⟨h5,h6⟩:=HV (show uS H H1 bs (bV d v e λe'=>fK ph n0 r' e' H1 (H :: hs) bs k)=1 from h4)
    rw [cq]at h6
    have hpf:vv (ai P nt o)=false:=by unfold vv;grind
    exact fin v H1 none (H :: hs) bs ⟨d,hd,rfl,YE (YE (YG ⟨h2,hpf,rfl,h3⟩))⟩ (λb hb=>by cases hb) (λb hb=>⟨hb,h5 b hb⟩) (λG hG=>YI _ hG) (YG (YJ ..)) h6
  .cases hc
theorem Xw {P} {nt} {ph} {ops} {base id} {r} {e} {H} {k} (hm:P.follows .mixedOrders=true) (hph:iY P ph) (hap:jN ops (Region.before ops)=true) (hed:lE ops=true) (hx:xOK (ops.toList.map (ai P nt)) (Region.before ops)=true)
 (hc:iH P nt base ops ops.toList 0=some r) (h:fK ph H.n r e H [] [] k=1):∃ e' H',NS P nt (.region id ops true) e H e' H'/\k e' H'=1:=by
 have hE:=su hed
 obtain ⟨E,Hh,Vv,B,h1,h2,h3,h4,h5,h6⟩:=At hph ops.toList 0 r e H [] [] k hc h
 subst h1 h2
 have hlen:ops.toList.length=ops.size:=by simp
 have hpur:∀ (j:Nat) (o),ops[j]? = some o->(ops[j]?.map λo=>vv (ai P nt o)).getD true=vv (ai P nt o):=λj o hj=>by simp_all
 have hcs:∀ (j:Nat) (o),ops[j]? = some o->(ops.toList.map (ai P nt))[j]? = some (ai P nt o):=λj o hj=>by simp_all
 refine ⟨_,_,Jb (iso:=λ_=>true) (pur:=λj=>(ops[j]?.map λo=>vv (ai P nt o)).getD true) (Vv:=Vv) hm hap hE (λj o hj=>?_) (λi j hi hne hpj hj=>?_) (λi hi=>rfl) (λi o ho hi=>by cases hi) (λi b hi hb=>(h5 i b hi hb).1) (λi k b hi hk hb _ _ _=>?_),h4⟩
 .simp_all
 .have hji:=Ya hj
  have hip:(ops[i]?.map λo=>vv (ai P nt o)).getD true=false:=hi.2
  rcases Yh i ops.size with hisz|hisz
  .have hii:=Ya hisz
   rw [hpur i _ hii]at hip
   unfold xOK at hx
   rw [WR]at hx
   have hz:(ai P nt ops[i],i) ∈ (ops.toList.map (ai P nt)).zipIdx:=WT.2 (hcs i _ hii)
   have:=hx _ hz
   simp only [hip,YL4]at this
   refine (zI this ?_ hne).imp (λh=>h) YG
   simp_all
  simp_all
 grind
theorem xQ {l la} {bf} {i j} (h:tU l la bf i=true) (hj:l[j]? = some false) (hne:i≠j):(bf.getD i 0).testBit j=true\/(bf.getD j 0).testBit i=true\/la.getD j false=true:=by
 unfold tU at h
 rw [WR]at h
 have:=h (false,j) (WT.2 hj)
 grind
theorem Vk {P} {nt} {ph} {ops} {base id} {r} {e} {H:Heap} {k:Env->Heap->R} (hm:P.follows .mixedOrders=true) (hph:iY P ph) (hap:jN ops (Region.before ops)=true) (hed:lE ops=true)
 (hc:iG P nt base ops (ops.toList.map (ai P nt)) (Region.before ops) ops.toList 0=some r) (h:bD ph H.n r e H [] [] k=1):∃ e' H',NS P nt (.region id ops true) e H e' H'/\k e' H'=1:=by
 have hE:=su hed
 obtain ⟨E,Hh,Vv,B,h1,h2,h3,h4,h5,h6,h7,h8⟩:=As hph (λx y=>gz hE x y) ops.toList 0 r e H [] [] k hc (λj o hj=>by simp_all) (λp hp=>by cases hp) h
 subst h1 h2
 have hlen:ops.toList.length=ops.size:=by simp
 simp only [WJ]at h3 h5 h6 h7 h8
 have hpur:∀ (j) (o),ops[j]? = some o->(ops.toList.map (ai P nt)).getD j .bad=ai P nt o:=λj o hj=>by
  simp_all
 refine ⟨_,_,Jb (al:=λj=>kL (ops.toList.map (ai P nt)) (Region.before ops) j) hm hap hE (λj o hj=>h3 j o (by simp_all)) (λi j hi hne hpj hj=>?_) (λi hi=>?_) (λi o ho hi=>?_) (λi b hi hb=>(h5 i b (by omega) hb).1) (λi k b hi hk hb hh hord hlt=>h7 i k b (by omega) (by omega) hb hh.1 hh.2 hord hlt),by omega⟩
 rotate_left
 .cases hx:kL (ops.toList.map (ai P nt)) (Region.before ops) i with
  | false=>rfl
  | true=>exact absurd (hi.1.symm.trans (GG hx)) (by simp)
 .refine (h8 i o (by simp_all) hi).imp (λh=>h) λhA=>⟨hA.1,λk hk hh hik hord hlt=>hA.2 k hik (by omega) hh.1 hh.2 hord hlt⟩
 have hi1:=hi.1
 unfold oh at hi1
 rw [Yz]at hi1
 have hlast:∀ {x},(Sj (ops.toList.map (ai P nt)) (Region.before ops)).getD j false=x->kL (ops.toList.map (ai P nt)) (Region.before ops) j=x:=λ{x} hx=>by
  rw [<- hx]
  unfold Sj
  simp_all
 refine (xQ hi1.1 ?_ hne).imp (λh=>h) (Or.imp (λh=>h) hlast)
 unfold aeN
 rw [Yg]
 have hex:ops[j]? = some ops[j]:=Ya hj
 have hz:(ops.toList.map (ai P nt)).zipIdx[j]? = some (ai P nt ops[j],j):=by
  simp_all
 rw [hz]
 unfold kS at hpj
 simp_all
end Go.Ev
end
section
namespace Go.Ev
open Go.RowKit
theorem Da {w:World} {a} {v} (h:w.cell? a=some v):w.setCell a v=w:=by
 unfold World.cell? at h
 unfold World.setCell
 cases ha:w.heap[a.block]? with
 | none=>simp_all
 | some o=>
  cases w with
  | mk heap tape drawn os output=>
   congr 1
   apply Array.ext_getElem?
   intro i
   rw [Array.getElem?_modify]
   by_cases hi:a.block=i
   .subst hi
    rw [if_pos rfl,ha]
    cases o<;>simp at h ⊢
    grind
   simp_all
section
variable {P:Program} {nt:Nat} {id:Nat} {ph:cU} {e:Env} {H:Heap} {k:K}
theorem rI {w} {g o}:∀ (vs) (i),(∀ (j) v,vs[j]? = some v->w.cell? ⟨g,o+i+j,none⟩=some v/\v.oneCell'=true/\w.frozen? ⟨g,o+i+j,none⟩=false)->(storeCells ⟨g,o,none⟩ vs i).run P w = .ok () w
 | [],i,_=>rfl
 | v :: vs,i,h=>by
  obtain ⟨h1,h2,h3⟩:=h 0 v rfl
  rw [Nat.add_zero]at h1 h3
  have ih:=rI vs (i+1) λj u hu=>by
   have:=h (j+1) u (by simp_all)
   rw [show o+i+(j+1)=o+(i+1)+j by omega]at this
   omega
  simp only [storeCells,Sem.run_bind,Addr.add_lit,run_store P w _ v .plain h2,h1,h3,Da h1]
  simp_all
def Zs (P:Program) (H:Heap) (x:V) (t:TypeId) (v:V):Prop:=∀ {base:Nat} {w0 w:World} {rho:Nat->Option Nat} {cx:Value},PR P base w0 rho H w->VR (mu rho H w) x cx->∃ cv,(Instr.loadAt t cx).run P w = .ok cv w/\VR (mu rho H w) v cv/\(Instr.storeAt t cx cv).run P w = .ok () w
theorem Vy {o} {t} {s} (hop:o.op = .load t (.tmp s)) (h1:SP P t=true) (h:aL (ai P nt o) id ph e H k=1):∃ v,k v H=1/\Zs P H (ae (bg s) e) t v:=by
 simp only [ai,hop]at h
 split at h
 .rename_i x' n hx hag hsz
  have hx':x' = .s (bg s):=by
   unfold aH at hx
   simp_all
  subst hx'
  have h':ri n (.s (bg s)) id ph e H k=1:=h
  unfold ri at h'
  rw [aq]at h'
  obtain ⟨b,off,hb,h1⟩:=fU h'
  obtain ⟨row,h2,h3,h30,h4⟩:=KI h1
  refine ⟨_,h4,λ{base w0 w rho cx} hp vx=>?_⟩
  replace hb:ae (bg s) e = .ptr b off:=hb
  rw [hb]at vx
  obtain ⟨c,rfl,hm⟩:=vx
  obtain ⟨cs,g1,g2,g3,g4⟩:=hp.KH (hp.yC hm h2) h2 h3 h30
  refine ⟨.agg cs.toArray,by simp [Instr.loadAt,Instr.sureAddr,loadVar,kg hag,cK hsz,g1],by simp only [VR];simp_all,?_⟩
  have hst:(storeCells ⟨c,off,none⟩ cs 0).run P w = .ok () w:=rI cs 0 λj v hv=>by
   grind
  have hcl:cs.toArray.size=n:=by omega
  simp [Instr.storeAt,Instr.sureAddr,storeVar,Value.cells,cK hsz,hcl,hst]
 .rename_i _ x' hx hag
  have hx':x' = .s (bg s):=by
   unfold aH at hx
   simp_all
  subst hx'
  have h':rh (.s (bg s)) id ph e H k=1:=h
  unfold rh at h'
  rw [aq]at h'
  obtain ⟨b,off,hb,h1'⟩:=fU h'
  obtain ⟨row,v,h2,h3,h30,h4⟩:=Th h1'
  refine ⟨_,h4,λ{base w0 w rho cx} hp vx=>?_⟩
  replace hb:ae (bg s) e = .ptr b off:=hb
  rw [hb]at vx
  obtain ⟨c,rfl,hm⟩:=vx
  obtain ⟨cv,g1,g2,g3,g4⟩:=hp.Tg (hp.yC hm h2) h2 h3 h30
  have hsz:qI P t=some 1:=by
   unfold SP at h1
   simp_all
  refine ⟨cv,by simp [Instr.loadAt,Instr.sureAddr,loadVar,kg hag,g1],g2,?_⟩
  have ho:=tW g2 g3
  have hcv:cv.cells = #[cv]:=by
   obtain ⟨n1,n2⟩:=g2.one g3
   cases cv<;>first|rfl|simp_all|rfl
  have hst:(storeCells ⟨c,off,none⟩ [cv] 0).run P w = .ok () w:=by
   refine rI [cv] 0 λj v hv=>?_
   grind
  simp [Instr.storeAt,Instr.sureAddr,storeVar,hcv,cK hsz,hst]
 .exact (av h).elim
theorem uI {o} {t} {s d} (h:dj o=some (t,s,d)):o.op = .load t (.tmp s)/\o.dst=some d/\o.guard=none:=by
 unfold dj at h
 grind
def gk (P:Program) (nt:Nat) (H:Heap):List Oper->Env->Env->Prop
 | [],e,e'=>e'=e
 | o :: l,e,e'=>∃ (t:TypeId) (s d:Nat) (v:V),dj o=some (t,s,d)/\s<nt/\d<nt/\Zs P H (ae (bg s) e) t v/\gk P nt H l (lk (bg d) v e) e'
theorem uz {s:Nat} {x} (h:aH nt (.tmp s)=some x):s<nt:=by
 unfold aH at h
 simp_all
theorem GL {base} {ops}:∀ (l) (i) (r) (e) (k),(∀ o ∈ l,lS o=true)->(∀ o ∈ l,∀ (t) (s d),dj o=some (t,s,d)->SP P t=true)->dn P nt base ops [] [] #[] l i=some r->fJ ph r e H k=1->∃ e',k e' H=1/\gk P nt H l e e'
 | [],i,r,e,k,_,_,hc,h=>by
  simp only [dn,Option.some.injEq]at hc
  subst hc
  exact ⟨e,h,rfl⟩
 | o :: l,i,r,e,k,hl,h1,hc,h=>by
  obtain ⟨⟨t,s,d⟩,hld⟩:=Option.isSome_iff_exists.1 (hl o (YJ ..))
  obtain ⟨hop,hd,hg⟩:=uI hld
  simp only [dn,hd,hg,guardOf]at hc
  split at hc
  .rename_i dd gg r' hdd hgg hr
   cases hgg
   cases hc
   simp only [sq]at hdd
   split at hdd
   .rename_i hdn
    cases hdd
    have h':aL (ai P nt o) 0 ph e H (λv H'=>KZ (bg d) v e λe'=>fJ ph r' e' H' k)=1:=h
    obtain ⟨v,h2,h3⟩:=Vy hop (h1 o (YJ ..) t s d hld) h'
    rw [sW]at h2
    have hs:=by
     have h4:=h'
     simp only [ai,hop]at h4
     split at h4
     .rename_i hx _ _;exact uz hx
     .rename_i hx _;exact uz hx
     .exact (av h4).elim
    obtain ⟨e',h5,h6⟩:=GL l (i+1) r' _ k (λq hq=>hl q (YI _ hq)) (λq hq=>h1 q (YI _ hq)) hr h2
    exact ⟨e',h5,t,s,d,v,hld,hs,hdn,h3,h6⟩
   simp_all
  simp_all
theorem gk.other (hnt:nt<=512):∀ {l:List Oper} {e e':Env},gk P nt H l e e'->∀ x,x<512->(∀ o ∈ l,∀ (t:TypeId) (s d:Nat),dj o=some (t,s,d)->d≠x)->ae (bg x) e'=ae (bg x) e
 | [],e,e',h,x,_,_=>by rw [show e'=e from h]
 | o :: l,e,e',h,x,hx,hd=>by
  obtain ⟨t,s,d,v,h1,h2,h3,h4,h5⟩:=h
  rw [gk.other hnt h5 x hx λq hq=>hd q (YI _ hq),fv,if_neg]
  intro e
  exact hd o (YJ ..) t s d h1 (fO hx (by omega) e).symm
theorem gk.spec (hnt:nt<=512):∀ {l:List Oper} {e e':Env},gk P nt H l e e'->(l.filterMap λo=>(dj o).map (·.2.2)).Nodup->(∀ o ∈ l,∀ o' ∈ l,∀ (t:TypeId) (s d:Nat) (t':TypeId) (s' d':Nat),dj o=some (t,s,d)->dj o'=some (t',s',d')->s≠d')->
 ∀ o ∈ l,∀ (t:TypeId) (s d:Nat),dj o=some (t,s,d)->s<nt/\d<nt/\Zs P H (ae (bg s) e) t (ae (bg d) e')
 | [],_,_,_,_,_,o,ho,_,_,_,_=>by cases ho
 | q :: l,e,e',h,hn,hs,o,ho,t,s,d,hld=>by
  obtain ⟨t0,s0,d0,v0,h1,h2,h3,h4,h5⟩:=h
  have hn':d0 ∉ (l.filterMap λo=>(dj o).map (·.2.2))/\(l.filterMap λo=>(dj o).map (·.2.2)).Nodup:=by
   rw [YK3,h1]at hn
   simpa using hn
  rcases List.mem_cons.1 ho with rfl|ho'
  .rw [h1]at hld
   cases hld
   refine ⟨h2,h3,?_⟩
   rw [gk.other hnt h5 d (by omega) λq hq t s d hq' e=>hn'.1 (YE2.2 ⟨q,hq,by rw [hq',e];rfl⟩),fv,if_pos rfl]
   exact h4
  .obtain ⟨g1,g2,g3⟩:=gk.spec hnt h5 hn'.2 (λa ha b hb=>hs a (YI _ ha) b (YI _ hb)) o ho' t s d hld
   refine ⟨g1,g2,?_⟩
   have hsd:=hs o ho q (YJ ..) t s d t0 s0 d0 hld h1
   rw [fv,if_neg]at g3
   .exact @g3
   .intro e
    exact hsd (fO (by omega) (by omega) e)
theorem UN {ops:Array Oper} {base bid:Nat} {r:List rQ} {k:Env->Heap->R} (hm:P.follows .mixedOrders=true) (hb:By P ops=true)
 (hc:dn P nt base ops [] [] #[] (ops.toList.filter lS) 0=some r) (h:fJ ph r e H k=1):∃ e',NS P nt (.region bid ops true) e H e' H/\k e' H=1:=by
 unfold By at hb
 simp only [Yz,decide_eq_true_eq,WR]at hb
 obtain ⟨⟨⟨hed,hall⟩,hnd⟩,hads⟩:=hb
 have hads':∀ o ∈ ops.toList,∀ (t:TypeId) (s d:Nat),dj o=some (t,s,d)->s ∉ kM ops/\SP P t=true:=λo ho t s d hl=>by
  have:=hads o ho
  rw [hl]at this
  simpa using this
 obtain ⟨e',h1,h2⟩:=GL (ops.toList.filter lS) 0 r e k (λo ho=>(Wl.1 ho).2) (λo ho t s d hl=>(hads' o (Wl.1 ho).1 t s d hl).2) hc h
 refine ⟨e',λrd b0 w0 rho w a hp ht Q hQ=>?_,h1⟩
 have hnt:=ht.le
 have hfm:(ops.toList.filter lS).filterMap (λo=>(dj o).map (·.2.2))=kM ops:=by
  unfold kM
  rw [List.filterMap_filter]
  congr 1
  funext o
  unfold lS
  cases dj o<;>rfl
 have hmemd:∀ o ∈ ops.toList,∀ (t:TypeId) (s d:Nat),dj o=some (t,s,d)->d ∈ kM ops:=λo ho t s d hl=>YE2.2 ⟨o,ho,by rw [hl];rfl⟩
 have hspec:=gk.spec hnt h2 (by rw [hfm];exact hnd) λo ho o' ho' t s d t' s' d' hl hl' e=>(hads' o (Wl.1 ho).1 t s d hl).1 (by rw [e];exact hmemd o' (Wl.1 ho').1 t' s' d' hl')
 have hE:=su hed
 refine wpIn_region_any hm ?_
 have hp1:PR P b0 w0 rho H {w with drawn:=w.drawn+1 }:=hp.drawn _
 have ht1:TR (mu rho H {w with drawn:=w.drawn+1 }) nt e a.tmps:=ht
 have x1:Ext rho H w rho H {w with drawn:=w.drawn+1 }:=⟨YB _,YB _,YB _,λ_ _ _=>⟨rfl,rfl⟩,λ_ _ _ h=>h,λ_ _ h _=>h,λ_ _ h=>h,λb c hb h=>absurd (hp.lt b c h) (by omega),λ_ _ _=>rfl,λb hb=>⟨hb,rfl,λ_ _=>rfl⟩,λc cs e fr hc=>⟨cs,e,fr,hc,rfl⟩,λc r hc=>⟨r,hc⟩⟩
 generalize hw1:({w with drawn:=w.drawn+1 }:World)=w1 at hp1 ht1 x1 ⊢
 have hQ':∀ a',a'.defers=a.defers->TR (mu rho H w1) nt e' a'.tmps->Q .normal a' w1:=λa' g1 g2=>hQ a' w1 rho g1 hp1 g2 x1
 clear hQ hp ht hw1
 have hsize:=ht1.size
 have hrd:∀ o ∈ ops.toList,∀ (t:TypeId) (s d:Nat),dj o=some (t,s,d)->s<nt/\d<nt/\∃ cv,(Instr.loadAt t (a.eval (.tmp s))).run P w1 = .ok cv w1/\VR (mu rho H w1) (ae (bg d) e') cv/\(Instr.storeAt t (a.eval (.tmp s)) cv).run P w1 = .ok () w1:=λo ho t s d hl=>by
  obtain ⟨g1,g2,g3⟩:=hspec o (Wl.2 ⟨ho,by unfold lS;rw [hl];rfl⟩) t s d hl
  have hlt:s<a.tmps.size:=by omega
  have hex:a.tmps[s]? = some a.tmps[s]:=Ya hlt
  have hev:a.eval (.tmp s)=a.tmps[s]:=by simp [Act.eval,hex]
  obtain ⟨cv,q1,q2,q3⟩:=g3 hp1 (ht1.get s _ hex)
  rw [<- hev]at q1 q3
  exact ⟨g1,g2,cv,q1,q2,q3⟩
 let Dn:Array Bool->Nat->Prop:=λlisted t=>∃ (j:Nat) (o:Oper) (ty:TypeId) (s:Nat),ops[j]? = some o/\dj o=some (ty,s,t)/\dN listed j
 let Inv:Array Bool->Act->Prop:=λlisted a'=>a'.defers=a.defers/\a'.tmps.size=nt/\(∀ t:Nat,¬ Dn listed t->a'.tmps[t]? = a.tmps[t]?)/\∀ (j:Nat) (o:Oper) (ty:TypeId) (s d:Nat),ops[j]? = some o->dj o=some (ty,s,d)->dN listed j->∃ cv,a'.tmps[d]? = some cv/\(Instr.loadAt ty (a.eval (.tmp s))).run P w1 = .ok cv w1
 have fin:∀ listed a',Inv listed a'->(∀ i,i<ops.size->dN listed i)->Q .normal a' w1:=λlisted a' ⟨g1,g2,g3,g4⟩ hb=>by
  refine hQ' a' g1 ⟨g2,hnt,λt v hv=>?_,λt q1 q2=>?_⟩
  .have htn:t<nt:=by rw [<- g2];exact (YN.1 hv).1
   by_cases hd:Dn listed t
   .grind
   .rw [g3 t hd]at hv
    rw [gk.other hnt h2 t (by omega) λo ho ty s d hl e=>hd ?_]
    .exact ht1.get t v hv
    .obtain ⟨j,hj⟩:=List.getElem?_of_mem (Wl.1 ho).1
     have hj':ops[j]? = some o:=by rw [<- Yw];exact hj
     exact ⟨j,o,ty,s,hj',by rw [hl,e],hb j (YN.1 hj').1⟩
  .rw [gk.other hnt h2 t q2 λo ho ty s d hl e=>?_]
   .exact ht1.rest t q1 q2
   .have:=(hrd o (Wl.1 ho).1 ty s d hl).2.1
    omega
 have walk:∀ (fuel:Nat) (listed:Array Bool) (a':Act),listed.size=ops.size->Inv listed a'->listed.toList.count false=fuel->wpAnyIn (WF rd) 0 P .any ops Q fuel listed a' w1:=by
  have hready:∀ (listed:Array Bool),Region.ready .any ops listed=[]->listed.size=ops.size->∀ i,i<ops.size->dN listed i:=λlisted hr hsz i=>by
   induction i using Nat.strongRecOn with
   | _ i ih=>
    intro hi
    by_cases hb:dN listed i
    .exact hb
    .have ho:ops[i]? = some ops[i]:=Ya hi
     have hmem:i ∈ Region.ready .any ops listed:=mem_ready.2 ⟨by
      have hex:listed[i]? = some listed[i]:=Ya (by omega)
      unfold dN at hb
      rw [Yk,hex]at hb ⊢
      simpa using hb,_,ho,λe he hbd=>ih e.on (hE i _ ho e (by simpa using he) hbd) (by have:=hE i _ ho e (by simpa using he) hbd;omega)⟩
     rw [hr]at hmem
     cases hmem
  intro fuel
  induction fuel with
  | zero=>
   intro listed a' hsz hI hc
   have hall':∀ i,i<ops.size->dN listed i:=λi hi=>by
    have hlt:i<listed.size:=by rw [hsz];exact hi
    have hex:listed[i]? = some listed[i]:=Ya hlt
    unfold dN
    rw [Yk,hex,Yl]
    cases hv:listed[i] with
    | true=>rfl
    | false=>
     have:false ∈ listed.toList:=by rw [<- hv];simp
     rw [List.count_eq_zero]at hc
     exact absurd this hc
   refine ⟨?_,fin listed a' hI hall'⟩
   refine List.eq_nil_iff_forall_not_mem.2 λi hi=>?_
   obtain ⟨h1,o,ho,_⟩:=mem_ready.1 hi
   have hb:=hall' i (YN.1 ho).1
   have hlt:i<listed.size:=by rw [hsz];exact (YN.1 ho).1
   have hex:listed[i]? = some listed[i]:=Ya hlt
   unfold dN at hb
   rw [Yk,hex,Yl]at hb h1
   rw [hb]at h1
   cases h1
  | succ fuel ih=>
   intro listed a' hsz hI hc
   refine ⟨λhr=>fin listed a' hI (hready listed hr hsz),λi hi=>?_⟩
   obtain ⟨h1,o,ho,hr0⟩:=mem_ready.1 hi
   have hin:i<ops.size:=(YN.1 ho).1
   have hil:i<listed.size:=by rw [hsz];exact hin
   have hex:listed[i]? = some listed[i]:=Ya hil
   have hv:listed[i]=false:=by rw [Yk,hex,Yl]at h1;exact h1
   have hnb:¬ dN listed i:=by unfold dN;rw [Yk,hex,Yl,hv];simp
   have hc':(listed.setIfInBounds i true).toList.count false=fuel:=by
    have:=count_set (l:=listed.toList) (i:=i) (by simpa [hv] using hex)
    rw [Array.toList_setIfInBounds]
    omega
   have hsz':(listed.setIfInBounds i true).size=ops.size:=by simpa using hsz
   have hmem:o ∈ ops.toList:=by rw [<- Yw]at ho;exact YS ho
   obtain ⟨g1,g2,g3,g4⟩:=hI
   have heval:∀ s:Nat,s ∉ kM ops->a'.eval (.tmp s)=a.eval (.tmp s):=λs hs=>by
    have:=g3 s λ⟨j,q,ty,s',q1,q2,_⟩=>hs (hmemd q (by rw [<- Yw]at q1;exact YS q1) ty s' s q2)
    simp [Act.eval,this]
   unfold wpOpIn
   simp only [ho]
   cases hlo:dj o with
   | some q=>
    obtain ⟨ty,s,d⟩:=q
    obtain ⟨hop,hd,hg⟩:=uI hlo
    obtain ⟨_,hdn,cv,q1,q2,_⟩:=hrd o hmem ty s d hlo
    have hw:Region.wanted o (yielded ops a'.tmps)=true:=by simp [Region.wanted,hg]
    rw [if_pos hw]
    refine ⟨iD P o a' w1 rd,?_⟩
    rw [semAt_eq (by simp [hop])]
    have hex2:(execOp a'.eval o).run P w1 = .ok (.value cv) w1:=by
     simp only [execOp,hop,Sem.run_bind,heval s (hads' o hmem ty s d hlo).1,q1,Result.andThen_ok,Sem.run_pure]
    rw [hex2]
    show wpAnyIn (WF rd) 0 P .any ops Q fuel (listed.setIfInBounds i true) (a'.put o.dst cv) w1
    rw [hd]
    refine ih _ _ hsz' ⟨g1,by simpa [Act.put] using g2,λt htd=>?_,λj o' ty' s' d' r1 r2 r3=>?_⟩ hc'
    .have hne:d≠t:=λe=>htd ⟨i,o,ty,s,ho,by rw [hlo,e],(dc hil).2 (YG rfl)⟩
     simp only [Act.put,QL hne]
     exact g3 t λ⟨j,q,ty',s',r1,r2,r3⟩=>htd ⟨j,q,ty',s',r1,r2,(dc hil).2 (YE r3)⟩
    .by_cases hdd:d=d'
     .subst hdd
      refine ⟨cv,by simp [Act.put,g2,hdn],?_⟩
      rcases (dc hil).1 r3 with rfl|r3
      .rw [ho]at r1;cases r1
       rw [hlo]at r2;cases r2
       exact q1
      .obtain ⟨cv',r4,r5⟩:=g4 j o' ty' s' d r1 r2 r3
       have hji:j=i:=by
        have hnd':∀ (l:List Oper) (x y:Nat) (ox oy:Oper),(l.filterMap λo=>(dj o).map (·.2.2)).Nodup->l[x]? = some ox->l[y]? = some oy->(dj ox).map (·.2.2)=some d->(dj oy).map (·.2.2)=some d->x=y:=by
         intro l
         induction l with
         | nil=>intro x y ox oy _ hx;simp at hx
         | cons z l ihl=>
          intro x y ox oy hnn hx hy hox hoy
          have htail:(l.filterMap λo=>(dj o).map (·.2.2)).Nodup:=by
           rw [YK3]at hnn
           split at hnn
           .exact hnn
           .exact (Wg.1 hnn).2
          cases x with
          | zero=>
           grind
          | succ x=>
           cases y with
           | zero=>
            grind
           | succ y=>
            simp at hx hy
            rw [ihl x y ox oy htail hx hy hox hoy]
        exact hnd' ops.toList j i o' o hnd (by simpa using r1) (by simpa using ho) (by rw [r2];rfl) (by rw [hlo];rfl)
       exact absurd (hji ▸ r3) hnb
     .rcases (dc hil).1 r3 with rfl|r3
      .rw [ho]at r1;cases r1
       rw [hlo]at r2;cases r2
       exact absurd rfl hdd
      .obtain ⟨cv',r4,r5⟩:=g4 j o' ty' s' d' r1 r2 r3
       exact ⟨cv',by simp only [Act.put,QL hdd];exact r4,r5⟩
   | none=>
    have hbk:Jd ops o=true:=by
     have:=hall o hmem
     unfold lS at this
     rw [hlo]at this
     simpa using this
    unfold Jd at hbk
    split at hbk
    .rename_i ty s d hop hd hg
     rw [List.any_eq_true]at hbk
     obtain ⟨ed,he1,he2⟩:=hbk
     rw [Yz]at he2
     obtain ⟨hbind,he3⟩:=he2
     split at he3
     .rename_i o2 ho2
      have hl2:dj o2=some (ty,s,d):=by simpa using he3
      have hbn:dN listed ed.on:=hr0 ed (by simpa using he1) hbind
      obtain ⟨cv,r4,r5⟩:=g4 _ o2 ty s d ho2 hl2 hbn
      have hmem2:o2 ∈ ops.toList:=by rw [<- Yw]at ho2;exact YS ho2
      obtain ⟨_,hdn,cv',q1,q2,q3⟩:=hrd o2 hmem2 ty s d hl2
      rw [r5]at q1
      cases q1
      have hw:Region.wanted o (yielded ops a'.tmps)=true:=by simp [Region.wanted,hg]
      rw [if_pos hw]
      refine ⟨iD P o a' w1 rd,?_⟩
      rw [semAt_eq (by simp [hop])]
      have hev:a'.eval (.tmp d)=cv:=by simp [Act.eval,r4]
      have hex2:(execOp a'.eval o).run P w1 = .ok .skip w1:=by
       simp only [execOp,hop,Sem.run_bind,heval s (hads' o2 hmem2 ty s d hl2).1,hev,q3,Result.andThen_ok,Sem.run_pure]
      rw [hex2]
      show wpAnyIn (WF rd) 0 P .any ops Q fuel (listed.setIfInBounds i true) (a'.put o.dst undef) w1
      rw [hd]
      refine ih _ _ hsz' ⟨g1,g2,λt htd=>?_,λj o' ty' s' d' r1 r2 r3=>?_⟩ hc'
      .exact g3 t λ⟨j,q,ty',s',r1,r2,r3⟩=>htd ⟨j,q,ty',s',r1,r2,(dc hil).2 (YE r3)⟩
      .rcases (dc hil).1 r3 with rfl|r3
       .rw [ho]at r1;cases r1
        rw [hlo]at r2;cases r2
       .exact g4 j o' ty' s' d' r1 r2 r3
     .cases he3
    .cases hbk
 refine walk ops.size _ a (by simp) ⟨rfl,hsize,λ_ _=>rfl,λj o ty s d _ _ hb=>?_⟩ (by simp [List.count_replicate])
 unfold dN at hb
 rw [Yk,Qw]at hb
 split at hb<;>cases hb
end
end Go.Ev
end
section
namespace Go.Ev
open Go.RowKit
inductive Out where
 | normal
 | jump (n:Nat)
def Out.ex:Out->Exit
 | .normal=>.normal
 | .jump 0=>.ret
 | .jump (n+1)=>.exit n
def Marks (H:Heap) (rho':Nat->Option Nat) (H':Heap) (w':World) (ms:List Deferred):Prop:=
 ∃ bs:List (Nat × Nat),(bs.map (·.1)).Nodup/\ms=bs.map (λp=>{target:=.collected p.2,args:=#[]})/\∀ p ∈ bs,H.n<=p.1/\p.1<H'.n/\rho' p.1=some p.2/\H'.get p.1 = .mark/\w'.heap[p.2]? = some (.deferred (some []))
theorem Marks.nil {H H':Heap} {rho':Nat->Option Nat} {w':World}:Marks H rho' H' w' []:=⟨[],by simp,rfl,λp h=>by cases h⟩
theorem Marks.trans {H H1 H2:Heap} {w1 w2:World} {r1 r2:Nat->Option Nat} {ms1 ms2:List Deferred} (h:Marks H r1 H1 w1 ms1) (k:Marks H1 r2 H2 w2 ms2) (x:Ext r1 H1 w1 r2 H2 w2) (hn:H.n<=H1.n):Marks H r2 H2 w2 (ms2 ++ ms1):=by
 obtain ⟨b1,n1,rfl,h1⟩:=h
 obtain ⟨b2,n2,rfl,h2⟩:=k
 refine ⟨b2 ++ b1,?_,by simp,λp hp=>?_⟩
 .rw [List.map_append,List.nodup_append]
  refine ⟨n2,n1,λa ha b hb e=>?_⟩
  obtain ⟨p,hp,rfl⟩:=Yi.1 ha
  obtain ⟨q,hq,rfl⟩:=Yi.1 hb
  have:=(h2 p hp).1
  have:=(h1 q hq).2.1
  omega
 .rcases List.mem_append.1 hp with hp|hp
  .obtain ⟨g1,g2,g3⟩:=h2 p hp
   exact ⟨Yr hn g1,g2,g3⟩
  .obtain ⟨g1,g2,g3,g4,g5⟩:=h1 p hp
   obtain ⟨m1,m2,m3⟩:=x.marks p.1 g4
   exact ⟨g1,YD g2 x.n,m2.trans g3,m1,(m3 p.2 g3).trans g5⟩
def InL (rd:Option Nat) (w:World):Prop:=∀ l,rd=some l->∃ r,w.heap[l]? = some (.loop r)
theorem InL.ext {rd:Option Nat} {w w':World} {rho rho':Nat->Option Nat} {H H':Heap} (h:InL rd w) (x:Ext rho H w rho' H' w'):InL rd w':=λl e=>let ⟨r,h1⟩:=h l e;x.loops l r h1
def CS (P:Program) (nt:Nat) (inl:Bool) (c:Code) (e:Env) (H:Heap) (out:Out) (e':Env) (H':Heap):Prop:=
 ∀ (rd:Option Nat) (hrd:rd.isSome=inl) (base:Nat) (w0:World) (rho:Nat->Option Nat) (w:World) (a:Act),PR P base w0 rho H w->TR (mu rho H w) nt e a.tmps->InL rd w->
  ∀ (Q:Exit->Act->World->Prop),(∀ a' w' rho' ms,a'.defers=ms ++ a.defers->Marks H rho' H' w' ms->PR P base w0 rho' H' w'->TR (mu rho' H' w') nt e' a'.tmps->Ext rho H w rho' H' w'->Q out.ex a' w')->c.wpIn (WF rd) 0 P Q a w
theorem NS.cs {P:Program} {nt:Nat} {inl:Bool} {c:Code} {e e':Env} {H H':Heap} (h:NS P nt c e H e' H'):CS P nt inl c e H .normal e' H':=λrd hrd base w0 rho w a hp ht hL Q hQ=>
 h rd base w0 rho w a hp ht Q λa' w' rho' g1 g2 g3 g4=>hQ a' w' rho' [] g1 Marks.nil g2 g3 g4
theorem CS.here {P:Program} {nt:Nat} {inl:Bool} {c:Code} {e:Env} {H:Heap} {out:Out} (h:∀ {rd Q a w},Q out.ex a w->c.wpIn (WF rd) 0 P Q a w):CS P nt inl c e H out e H:=λrd hrd base w0 rho w a hp ht hL Q hQ=>
 h (hQ a w rho [] rfl Marks.nil hp ht (Ext.refl hp.lt))
theorem uU {K} {Q} {a} {w} (h:K a w):Exit.then K Q .normal a w:=h
theorem Be {K} {Q} {a} {w} {n} (h:Q (Out.jump n).ex a w):Exit.then K Q (Out.jump n).ex a w:=by cases n<;>exact h
theorem CS.seq {P:Program} {nt:Nat} {inl:Bool} {x y:Code} {e e1 e2:Env} {H H1 H2:Heap} {out:Out} (h:CS P nt inl x e H .normal e1 H1) (k:CS P nt inl y e1 H1 out e2 H2):CS P nt inl (.seq x y) e H out e2 H2:=λrd hrd base w0 rho w a hp ht hL Q hQ=>
 wpIn_seq (h rd hrd base w0 rho w a hp ht hL _ λa1 w1 rho1 ms1 d1 m1 p1 t1 x1=>uU (k rd hrd base w0 rho1 w1 a1 p1 t1 (hL.ext x1) Q λa2 w2 rho2 ms2 d2 m2 p2 t2 x2=>
  hQ a2 w2 rho2 (ms2 ++ ms1) (by rw [d2,d1,List.append_assoc]) (m1.trans m2 x2 x1.n) p2 t2 (Ext.trans hp.lt x1 x2)))
theorem CS.TC {P:Program} {nt:Nat} {inl:Bool} {x y:Code} {e e1:Env} {H H1:Heap} {n:Nat} (h:CS P nt inl x e H (.jump n) e1 H1):CS P nt inl (.seq x y) e H (.jump n) e1 H1:=λrd hrd base w0 rho w a hp ht hL Q hQ=>
 wpIn_seq (h rd hrd base w0 rho w a hp ht hL _ λa1 w1 rho1 ms1 d1 m1 p1 t1 x1=>Be (hQ a1 w1 rho1 ms1 d1 m1 p1 t1 x1))
def LS (P:Program) (nt:Nat) (inl:Bool) (c:Code) (m:Nat) (e:Env) (H:Heap) (n:Nat) (e':Env) (H':Heap):Prop:=
 ∀ (rd:Option Nat) (hrd:rd.isSome=inl) (base:Nat) (w0:World) (rho:Nat->Option Nat) (w:World) (a:Act),PR P base w0 rho H w->TR (mu rho H w) nt e a.tmps->InL rd w->
  ∀ (Q:Exit->Act->World->Prop),(∀ a' w' rho' ms,a'.defers=ms ++ a.defers->Marks H rho' H' w' ms->PR P base w0 rho' H' w'->TR (mu rho' H' w') nt e' a'.tmps->Ext rho H w rho' H' w'->Q (Out.jump n).ex a' w')->Code.roundsIn (WF rd) 0 P c Q m a w
def kk (kn:KE) (kx:Nat->KE):Out->KE
 | .normal=>kn
 | .jump n=>kx n
section
variable {P:Program} {nt fid:Nat} {inl:Bool} {ph:cU}
theorem Mk {c} {f:Env->Heap->KE->(Nat->KE)->R} (hc:∀ e H kn kx,f e H kn kx=1->∃ out e' H',CS P nt inl c e H out e' H'/\kk kn kx out e' H'=1) (kx):∀ (m) (e) (H),
 (Nat.rec (motive:=λ_=>Env->Heap->R) (λ_ _=>no 3) (λ_ ih e H=>f e H ih kx) m:Env->Heap->R) e H=1->∃ n e' H',LS P nt inl c m e H n e' H'/\kx n e' H'=1
 | 0,e,H,h=>(av h).elim
 | m+1,e,H,h=>by
  obtain ⟨out,e1,H1,h1,h2⟩:=hc e H _ kx h
  cases out with
  | jump n=>
   exact ⟨n,e1,H1,λrd hrd base w0 rho w a hp ht hL Q hQ=>by
    exact h1 rd hrd base w0 rho w a hp ht hL _ λa' w' rho' ms d1 m1 p1 t1 x1=>Be (hQ a' w' rho' ms d1 m1 p1 t1 x1),h2⟩
  | normal=>
   obtain ⟨n,e2,H2,h3,h4⟩:=Mk hc kx m e1 H1 h2
   exact ⟨n,e2,H2,λrd hrd base w0 rho w a hp ht hL Q hQ=>by
    exact h1 rd hrd base w0 rho w a hp ht hL _ λa1 w1 rho1 ms1 d1 m1 p1 t1 x1=>uU (h3 rd hrd base w0 rho1 w1 a1 p1 t1 (hL.ext x1) Q λa2 w2 rho2 ms2 d2 m2 p2 t2 x2=>
     hQ a2 w2 rho2 (ms2 ++ ms1) (by simp_all) (m1.trans m2 x2 x1.n) p2 t2 (Ext.trans hp.lt x1 x2)),h4⟩
def Ze:Nat->Out
 | 0=>.normal
 | m+1=>.jump m
theorem Og (hph:iY P ph) {g:Operand} {ps:Array Tmp} {asL bo:Code} {x:Arg} {l:List Slot} (hx:aH nt g=some x) (hl:gY nt ps.toList=some l) {fuel:Nat} {e:Env} {H:Heap} {kn:KE} {kx:Nat->KE}
 (h:eR (.kT x l (.mk nt fid asL) (.mk nt fid bo)) fuel ph e H kn kx=1):∃ out e' H',CS P nt false (.rangeFunc g ps asL bo) e H out e' H'/\kk kn kx out e' H'=1:=by
 have h':aG x e (λg=>yQ 0 g λf caps=>Nat.rec (motive:=λ_=>R) (cB H .mark λ_ H=>cB H (.loop 0 0 e l (.mk nt fid asL) (.mk nt fid bo)) λb H=>ph (.func f caps) [.td b] H λ_ H=>
  dC H b λbl=>eZ bl λst j e' ps' as' bo'=>Nat.rec (motive:=λ_=>R) (da 0 H b (.loop 3 j e' ps' as' bo') λH=>Nat.rec (motive:=λ_=>R) (kn e H) (λm _=>kx m e H) j) (λs _=>Nat.rec (motive:=λ_=>R) (no 10) (λ_ _=>da 0 H b (.loop 3 j e' ps' as' bo') λH=>Nat.rec (motive:=λ_=>R) (kn e H) (λm _=>kx m e H) j) s) st) (λ_ _=>no 14) (Yq f 2))=1:=h
 rw [aq]at h'
 obtain ⟨f0,caps,hf,h0⟩:=Iy h'
 have hf0:∃ f,f0=2*f/\cB H .mark (λ_ H=>cB H (.loop 0 0 e l (.mk nt fid asL) (.mk nt fid bo)) λb H=>ph (.func f0 caps) [.td b] H λ_ H=>
  dC H b λbl=>eZ bl λst j e' ps' as' bo'=>Nat.rec (motive:=λ_=>R) (da 0 H b (.loop 3 j e' ps' as' bo') λH=>Nat.rec (motive:=λ_=>R) (kn e H) (λm _=>kx m e H) j) (λs _=>Nat.rec (motive:=λ_=>R) (no 10) (λ_ _=>da 0 H b (.loop 3 j e' ps' as' bo') λH=>Nat.rec (motive:=λ_=>R) (kn e H) (λm _=>kx m e H) j) s) st)=1:=by
  rcases (by omega:f0%2=0\/f0%2=1) with hm|hm
  .rw [show Yq f0 2=0 from hm]at h0
   exact ⟨f0/2,by omega,h0⟩
  .rw [show Yq f0 2=1 from hm]at h0
   exact (av h0).elim
 obtain ⟨f,rfl,h1⟩:=hf0
 obtain ⟨H1,h2,n1⟩:=dH h1
 obtain ⟨H2,h3,n2⟩:=dH h2
 obtain ⟨v,H3,⟨_,h4⟩,h5⟩:=hph _ _ _ _ h3
 rw [aV]at h5
 obtain ⟨st,j,e',ps',as',bo',hb,h6⟩:=mc h5
 have h7:st≠1/\da 0 H3 H1.n (.loop 3 j e' ps' as' bo') (λH=>Nat.rec (motive:=λ_=>R) (kn e H) (λm _=>kx m e H) j)=1:=by
  match st,h6 with
  | 0,h6=>exact ⟨by decide,h6⟩
  | 1,h6=>exact (av h6).elim
  | s+2,h6=>grind
 obtain ⟨H4,h8,s4⟩:=ib h7.2
 have hcall:=h4 f caps rfl
 refine ⟨Ze j,e,H4,λrd hrd base w0 rho w a hp ht hL Q hQ=>?_,by cases j<;>exact h8⟩
 obtain rfl:rd=none:=by simp_all
 refine wpIn_rangeFunc λfn _=>?_
 let nI:Loop:={state:=.ready,pending:=none,fn,tmps:=a.tmps,params:=ps,assign:=asL,body:=bo,defers:=w.heap.size }
 obtain ⟨p1,x1⟩:=hp.alloc (w':=w.alloc (.deferred (some []))) (o:=.deferred (some [])) n1.n n1.bz n1.get n1.vU trivial ⟨rfl,rfl,rfl⟩ (by simp) (World.alloc_heap_new w _) (λj hj=>Below.heap_alloc _ _ _ hj) ⟨_,rfl⟩
 have hsz1:(w.alloc (.deferred (some []))).heap.size=w.heap.size+1:=by simp
 generalize hr1:(λb=>if b=H.n then some w.heap.size else rho b)=rho1 at p1 x1
 have hr1b:rho1 H.n=some w.heap.size:=by grind
 obtain ⟨p2,x2⟩:=p1.alloc (w':=(w.alloc (.deferred (some []))).alloc (.loop nI)) (o:=.loop nI) n2.n n2.bz n2.get n2.vU trivial ⟨rfl,rfl,rfl⟩ (by simp) (World.alloc_heap_new _ _) (λj hj=>Below.heap_alloc _ _ _ hj) ⟨nI,nt,fid,rfl,rfl,rfl,ht.mono x1.mu,hl,rfl,rfl⟩
 generalize hr2:(λb=>if b=H1.n then some (w.alloc (.deferred (some []))).heap.size else rho1 b)=rho2 at p2 x2
 have hr2b:rho2 H1.n=some (w.heap.size+1):=by grind
 have hr2a:rho2 H.n=some w.heap.size:=by
  rw [<- hr2]
  have:H.n≠H1.n:=by have:=n1.n;omega
  grind
 have hev:=kD (mu:=mu rho H w) ht hx
 rw [hf]at hev
 simp only [VR]at hev
 obtain ⟨cs,hg,hcs⟩:=hev
 have hg:a.eval g = .func (.func f) #[] cs:=by grind
 have hyl:VR (mu rho2 H2 ((w.alloc (.deferred (some []))).alloc (.loop nI))) (.td H1.n) (.func (.yield (w.heap.size+1)) #[] #[]):=by
  simp only [VR]
  exact ⟨_,rfl,by rw [n2.n];omega,λ_=>hr2b⟩
 have hx12:=Ext.trans hp.lt x1 x2
 obtain ⟨hrun,hin⟩:=hcall base w0 rho2 _ (#[.func (.yield (w.heap.size+1)) #[] #[]] ++ cs) p2 (by
  rw [YK4]
  exact cm.append (by simp only [cm];grind) (cm.mono hx12.mu _ _ hcs))
 refine ⟨w.heap.size+1,[{target:=.collected w.heap.size,args:=#[]}],(w.alloc (.deferred (some []))).alloc (.loop nI),{target:=.fn (.func f) cs,args:=#[.func (.yield (w.heap.size+1)) #[] #[]]},(w.alloc (.deferred (some []))).alloc (.loop nI),f,#[.func (.yield (w.heap.size+1)) #[] #[]] ++ cs,(w.alloc (.deferred (some []))).alloc (.loop nI),run_enterLoop_outer fn a.tmps ps asL bo,?_,λ_ _=>trivial,?_,λh=>absurd h (by simp),?_⟩
 .simp [resolve,Act.eval]at hg ⊢
  simp [hg,Deferred.ofValue]
 .simp only [invoke]
  exact hrun
 .refine (CallsIn.mono hin ?_:CallsIn (WF none) 0 P f _ _ _)
  rintro en w3 ⟨cv,rfl,rho3,v3,p3,x3⟩
  have hr3b:rho3 H1.n=some (w.heap.size+1):=x3.live _ _ hr2b (by rw [hb];trivial)
  obtain ⟨o3,g1,g2⟩:=p3.db _ _ hr3b
  rw [hb]at g2
  obtain ⟨r,nt',fid',rfl,g3,g4,g5,g6,g7,g8⟩:=g2
  have hnb:r.state ≠ .busy:=λe=>h7.1 (by rw [<- g3,e];rfl)
  obtain ⟨p4,x4⟩:=p3.write (H':=H4) (w':=w3.putObj (w.heap.size+1) (.loop {r with state:=.exhausted })) hr3b (by grind) s4.n s4.bz s4.wb s4.get s4.vU trivial ⟨rfl,rfl,rfl⟩ (by simp) (World.putObj_heap_same (YN.1 g1).1) (λj hj=>World.putObj_heap_other hj)
   ⟨{r with state:=.exhausted },nt',fid',rfl,rfl,g4,g5,g6,g7,g8⟩ (λcs2 e2 fr2 h=>by grind) (λ_ _=>⟨_,rfl⟩)
  have hxx:=Ext.trans hp.lt hx12 (Ext.trans p2.lt x3 x4)
  have hmk:H2.get H.n = .mark:=by
   rw [n2.vU _ (by grind)]
   exact n1.get
  obtain ⟨m1,m2,m3⟩:=(Ext.trans p2.lt x3 x4).marks H.n hmk
  have hmw:((w.alloc (.deferred (some []))).alloc (.loop nI)).heap[w.heap.size]? = some (.deferred (some [])):=by
   rw [Below.heap_alloc _ _ _ (by simp)]
   exact World.alloc_heap_new w _
  have hmarks:Marks H rho3 H4 (w3.putObj (w.heap.size+1) (.loop {r with state:=.exhausted })) [{target:=.collected w.heap.size,args:=#[]}]:=
   ⟨[(H.n,w.heap.size)],by simp,rfl,λp hpm=>by
    obtain rfl:p=(H.n,w.heap.size):=by grind
    have e1:=n1.n
    have e2:=n2.n
    have e3:=x3.n
    have e4:=x4.n
    grind⟩
  have hq:=hQ {a with defers:=[{target:=.collected w.heap.size,args:=#[]}] ++ a.defers } _ rho3 _ rfl hmarks p4 (TR.mono hxx.mu ht) hxx
  refine ⟨r.pending,_,run_endLoop g1 hnb,?_⟩
  rw [g4]at hq ⊢
  rcases j with _|_|m
  .exact hq
  .exact wpIn_ret hq
  .exact wpIn_exit hq
theorem Oh (hph:iY P ph) {g:Operand} {ps:Array Tmp} {asL bo:Code} {x:Arg} {l:List Slot} (hx:aH nt g=some x) (hl:gY nt ps.toList=some l) {fuel:Nat} {e:Env} {H:Heap} {kn:KE} {kx:Nat->KE}
 (h:eR (.CM x l (.mk nt fid asL) (.mk nt fid bo)) fuel ph e H kn kx=1):∃ out e' H',CS P nt true (.rangeFunc g ps asL bo) e H out e' H'/\kk kn kx out e' H'=1:=by
 have h':aG x e (λg=>yQ 0 g λf caps=>Nat.rec (motive:=λ_=>R) (cB H (.loop 0 0 e l (.mk nt fid asL) (.mk nt fid bo)) λb H=>ph (.func f caps) [.td b] H λ_ H=>
  dC H b λbl=>eZ bl λst j e' ps' as' bo'=>Nat.rec (motive:=λ_=>R) (da 0 H b (.loop 3 j e' ps' as' bo') λH=>Nat.rec (motive:=λ_=>R) (kn e H) (λm _=>kx m e H) j) (λs _=>Nat.rec (motive:=λ_=>R) (no 10) (λ_ _=>da 0 H b (.loop 3 j e' ps' as' bo') λH=>Nat.rec (motive:=λ_=>R) (kn e H) (λm _=>kx m e H) j) s) st) (λ_ _=>no 14) (Yq f 2))=1:=h
 rw [aq]at h'
 obtain ⟨f0,caps,hf,h0⟩:=Iy h'
 have hf0:∃ f,f0=2*f/\cB H (.loop 0 0 e l (.mk nt fid asL) (.mk nt fid bo)) (λb H=>ph (.func f0 caps) [.td b] H λ_ H=>
  dC H b λbl=>eZ bl λst j e' ps' as' bo'=>Nat.rec (motive:=λ_=>R) (da 0 H b (.loop 3 j e' ps' as' bo') λH=>Nat.rec (motive:=λ_=>R) (kn e H) (λm _=>kx m e H) j) (λs _=>Nat.rec (motive:=λ_=>R) (no 10) (λ_ _=>da 0 H b (.loop 3 j e' ps' as' bo') λH=>Nat.rec (motive:=λ_=>R) (kn e H) (λm _=>kx m e H) j) s) st)=1:=by
  rcases (by omega:f0%2=0\/f0%2=1) with hm|hm
  .rw [show Yq f0 2=0 from hm]at h0
   exact ⟨f0/2,by omega,h0⟩
  .rw [show Yq f0 2=1 from hm]at h0
   exact (av h0).elim
 obtain ⟨f,rfl,h1⟩:=hf0
 obtain ⟨H2,h3,n2⟩:=dH h1
 obtain ⟨v,H3,⟨_,h4⟩,h5⟩:=hph _ _ _ _ h3
 rw [aV]at h5
 obtain ⟨st,j,e',ps',as',bo',hb,h6⟩:=mc h5
 have h7:st≠1/\da 0 H3 H.n (.loop 3 j e' ps' as' bo') (λH=>Nat.rec (motive:=λ_=>R) (kn e H) (λm _=>kx m e H) j)=1:=by
  match st,h6 with
  | 0,h6=>exact ⟨by decide,h6⟩
  | 1,h6=>exact (av h6).elim
  | s+2,h6=>simp_all
 obtain ⟨H4,h8,s4⟩:=ib h7.2
 have hcall:=h4 f caps rfl
 refine ⟨Ze j,e,H4,λrd hrd base w0 rho w a hp ht hL Q hQ=>?_,by cases j<;>exact h8⟩
 obtain ⟨l₀,rfl⟩:∃ l₀,rd=some l₀:=by cases rd with
  | none=>cases hrd
  | some l₀=>simp
 obtain ⟨r₀,hl₀⟩:=hL l₀ rfl
 refine wpIn_rangeFunc λfn _=>?_
 let nI:Loop:={state:=.ready,pending:=none,fn,tmps:=a.tmps,params:=ps,assign:=asL,body:=bo,defers:=r₀.defers }
 obtain ⟨p2,x2⟩:=hp.alloc (w':=w.alloc (.loop nI)) (o:=.loop nI) n2.n n2.bz n2.get n2.vU trivial ⟨rfl,rfl,rfl⟩ (by simp) (World.alloc_heap_new _ _) (λj hj=>Below.heap_alloc _ _ _ hj) ⟨nI,nt,fid,rfl,rfl,rfl,ht,hl,rfl,rfl⟩
 generalize hr2:(λb=>if b=H.n then some w.heap.size else rho b)=rho2 at p2 x2
 have hr2b:rho2 H.n=some w.heap.size:=by grind
 have hev:=kD (mu:=mu rho H w) ht hx
 rw [hf]at hev
 simp only [VR]at hev
 obtain ⟨cs,hg,hcs⟩:=hev
 have hg:a.eval g = .func (.func f) #[] cs:=by simp_all
 have hyl:VR (mu rho2 H2 (w.alloc (.loop nI))) (.td H.n) (.func (.yield w.heap.size) #[] #[]):=by
  exact ⟨_,rfl,by rw [n2.n];omega,λ_=>hr2b⟩
 obtain ⟨hrun,hin⟩:=hcall base w0 rho2 _ (#[.func (.yield w.heap.size) #[] #[]] ++ cs) p2 (by
  rw [YK4]
  exact cm.append (by simp only [cm];simp_all) (cm.mono x2.mu _ _ hcs))
 refine ⟨w.heap.size,[],w.alloc (.loop nI),{target:=.fn (.func f) cs,args:=#[.func (.yield w.heap.size) #[] #[]]},w.alloc (.loop nI),f,#[.func (.yield w.heap.size) #[] #[]] ++ cs,w.alloc (.loop nI),run_enterLoop_inner hl₀ fn a.tmps ps asL bo,?_,λ_ _=>trivial,?_,λh=>absurd h (by simp),?_⟩
 .simp [resolve,Act.eval]at hg ⊢
  simp [hg,Deferred.ofValue]
 .exact hrun
 .refine (CallsIn.mono hin ?_:CallsIn (WF none) 0 P f _ _ _)
  rintro en w3 ⟨cv,rfl,rho3,v3,p3,x3⟩
  have hr3b:rho3 H.n=some w.heap.size:=x3.live _ _ hr2b (by rw [hb];trivial)
  obtain ⟨o3,g1,g2⟩:=p3.db _ _ hr3b
  rw [hb]at g2
  obtain ⟨r,nt',fid',rfl,g3,g4,g5,g6,g7,g8⟩:=g2
  have hnb:r.state ≠ .busy:=λe=>h7.1 (by rw [<- g3,e];rfl)
  obtain ⟨p4,x4⟩:=p3.write (H':=H4) (w':=w3.putObj w.heap.size (.loop {r with state:=.exhausted })) hr3b (by simp_all) s4.n s4.bz s4.wb s4.get s4.vU trivial ⟨rfl,rfl,rfl⟩ (by simp) (World.putObj_heap_same (YN.1 g1).1) (λj hj=>World.putObj_heap_other hj)
   ⟨{r with state:=.exhausted },nt',fid',rfl,rfl,g4,g5,g6,g7,g8⟩ (λcs2 e2 fr2 h=>by simp_all) (λ_ _=>⟨_,rfl⟩)
  have hxx:=Ext.trans hp.lt x2 (Ext.trans p2.lt x3 x4)
  have hq:=hQ a _ rho3 [] rfl Marks.nil p4 (TR.mono hxx.mu ht) hxx
  refine ⟨r.pending,_,run_endLoop g1 hnb,?_⟩
  rw [g4]at hq ⊢
  rcases j with _|_|m
  .exact hq
  .exact wpIn_ret hq
  .exact wpIn_exit hq
theorem JH (hm:P.follows .mixedOrders=true) (hph:iY P ph) (fuel:Nat):∀ (c:Code) (e:Env) (H:Heap) (kn:KE) (kx:Nat->KE),eR (iv P nt fid inl c) fuel ph e H kn kx=1->∃ out e' H',CS P nt inl c e H out e' H'/\kk kn kx out e' H'=1:=by
 intro c
 induction c with
 | skip=>intro e H kn kx h;exact ⟨.normal,e,H,CS.here λh=>wpIn_skip h,h⟩
 | exit id=>intro e H kn kx h;exact ⟨.jump (id+1),e,H,CS.here λh=>wpIn_exit h,h⟩
 | ret=>intro e H kn kx h;exact ⟨.jump 0,e,H,CS.here λh=>wpIn_ret h,h⟩
 | seq x y ihx ihy=>
  intro e H kn kx h
  obtain ⟨out,e1,H1,h1,h2⟩:=ihx e H (λe H=>eR (iv P nt fid inl y) fuel ph e H kn kx) kx h
  cases out with
  | jump n=>exact ⟨.jump n,e1,H1,h1.TC,h2⟩
  | normal=>
   obtain ⟨out,e2,H2,h3,h4⟩:=ihy e1 H1 kn kx h2
   exact ⟨out,e2,H2,h1.seq h3,h4⟩
 | cond x a b iha ihb=>
  intro e H kn kx h
  unfold iv at h
  split at h
  .rename_i ar har
   have h':aG ar e (λv=>eV 0 v λb'=>aF b' (eR (iv P nt fid inl a) fuel ph e H kn kx) (eR (iv P nt fid inl b) fuel ph e H kn kx))=1:=h
   rw [aq]at h'
   obtain ⟨t,ht,h1⟩:=mR h'
   have hev:∀ {m:M} {ac:Act},TR m nt e ac.tmps->ac.eval x = .bool t:=λhtr=>by
    have:=kD htr har
    rw [ht]at this
    simpa only [VR] using this
   cases t with
   | true=>
    obtain ⟨out,e1,H1,h2,h3⟩:=iha e H kn kx h1
    exact ⟨out,e1,H1,λrd hrd base w0 rho w ac hp htr hL Q hQ=>wpIn_cond_true (hev htr) (h2 rd hrd base w0 rho w ac hp htr hL Q hQ),h3⟩
   | false=>
    obtain ⟨out,e1,H1,h2,h3⟩:=ihb e H kn kx h1
    exact ⟨out,e1,H1,λrd hrd base w0 rho w ac hp htr hL Q hQ=>wpIn_cond_false (hev htr) (h2 rd hrd base w0 rho w ac hp htr hL Q hQ),h3⟩
  .exact (av h).elim
 | block id a iha=>
  intro e H kn kx h
  obtain ⟨out,e1,H1,h1,h2⟩:=iha e H kn (λn e H=>aF (YM n (WN id)) (kn e H) (kx n e H)) h
  cases out with
  | normal=>exact ⟨.normal,e1,H1,λrd hrd base w0 rho w ac hp htr hL Q hQ=>wpIn_block (h1 rd hrd base w0 rho w ac hp htr hL _ hQ),h2⟩
  | jump n=>
   rcases bP h2 with ⟨h3,h4⟩|⟨h3,h4⟩
   .have:=cI h3
    subst this
    refine ⟨.normal,e1,H1,λrd hrd base w0 rho w ac hp htr hL Q hQ=>wpIn_block (h1 rd hrd base w0 rho w ac hp htr hL _ λa' w' rho' ms d1 m1 p1 t1 x1=>?_),h4⟩
    show Exit.inBlock id Q (.exit id) a' w'
    simp only [Exit.inBlock,if_true]
    exact hQ a' w' rho' ms d1 m1 p1 t1 x1
   .refine ⟨.jump n,e1,H1,λrd hrd base w0 rho w ac hp htr hL Q hQ=>wpIn_block (h1 rd hrd base w0 rho w ac hp htr hL _ λa' w' rho' ms d1 m1 p1 t1 x1=>?_),h4⟩
    have hq:=hQ a' w' rho' ms d1 m1 p1 t1 x1
    cases n with
    | zero=>exact hq
    | succ n=>
     show Exit.inBlock id Q (.exit n) a' w'
     have hne:n≠id:=λh=>by subst h;simp at h3
     simp only [Exit.inBlock,hne,if_false]
     exact hq
 | loop a iha=>
  intro e H kn kx h
  obtain ⟨n,e1,H1,h1,h2⟩:=Mk (f:=λe H kn kx=>eR (iv P nt fid inl a) fuel ph e H kn kx) iha kx fuel e H h
  exact ⟨.jump n,e1,H1,λrd hrd base w0 rho w ac hp htr hL Q hQ=>wpIn_loop_rounds fuel (h1 rd hrd base w0 rho w ac hp htr hL Q hQ),h2⟩
 | region id ops draw=>
  intro e H kn kx h
  cases draw with
  | false=>
   have h':eR (match dn P nt (fid*100000+id*100) ops [] [] #[] ops.toList 0 with|some l=>.sO l|none=>.bad) fuel ph e H kn kx=1:=h
   split at h'
   .rename_i l hl
    obtain ⟨e1,H1,h1,h2⟩:=xG hph ops.toList 0 l e H kn hl h'
    exact ⟨.normal,e1,H1,NS.cs λrd base w0 rho w a hp ht Q hQ=>wpIn_region_list (h1 rd base w0 rho w a hp ht Q hQ),h2⟩
   .exact (av h').elim
  | true=>
   have h0:eR (if By P ops=true then (match dn P nt (fid*100000+id*100) ops [] [] #[] (ops.toList.filter lS) 0 with|some l=>ah.sO l|none=>.bad) else if (jN ops (Region.before ops) && lE ops)=true then (if (xrs.contains (fid*100000+id*100) && xOK (ops.toList.map (ai P nt)) (Region.before ops))=true then (match iH P nt (fid*100000+id*100) ops ops.toList 0 with|some l=>ah.abH l|none=>.bad) else if Za (ops.toList.map (ai P nt)) (Region.before ops)=true then (match iG P nt (fid*100000+id*100) ops (ops.toList.map (ai P nt)) (Region.before ops) ops.toList 0 with|some l=>ah.aax l|none=>.bad) else match dn P nt (fid*100000+id*100) ops (ops.toList.map λo=>bK (ai P nt o)) (ops.toList.map λo=>lh (ai P nt o)) (Region.before ops) ops.toList 0 with|some l=>ah.sm l|none=>.bad) else .bad) fuel ph e H kn kx=1:=h
   split at h0
   .rename_i hbk
    split at h0
    .rename_i l hl
     obtain ⟨e1,h1,h2⟩:=UN (bid:=id) hm hbk hl (show fJ ph l e H kn=1 from h0)
     exact ⟨.normal,e1,H,h1.cs,h2⟩
    .exact (av h0).elim
   have h':=h0
   split at h'
   .rename_i hcd
    rw [Yz]at hcd
    split at h'
    .rename_i hxx
     rw [Yz]at hxx
     split at h'
     .rename_i l hl
      cases H with
      | mk n bz t=>
       obtain ⟨e1,H1,h1,h2⟩:=Xw (id:=id) (H:=.mk n bz t) hm hph hcd.1 hcd.2 hxx.2 hl (show fK ph n l e (.mk n bz t) [] [] kn=1 from h')
       exact ⟨.normal,e1,H1,h1.cs,h2⟩
     .exact (av h').elim
    split at h'
    .split at h'
     .rename_i l hl
      cases H with
      | mk n bz t=>
       obtain ⟨e1,H1,h1,h2⟩:=Vk (id:=id) (H:=.mk n bz t) hm hph hcd.1 hcd.2 hl (show bD ph n l e (.mk n bz t) [] [] kn=1 from h')
       exact ⟨.normal,e1,H1,h1.cs,h2⟩
     .exact (av h').elim
    split at h'
    .rename_i l hl
     obtain ⟨e1,H1,h1,h2⟩:=U9 (id:=id) hm hph hcd.1 hcd.2 hl (show bO ph l e H kn=1 from h')
     exact ⟨.normal,e1,H1,h1.cs,h2⟩
    .exact (av h').elim
   .exact (av h').elim
 | rangeFunc g ps asL bo iha ihb=>
  intro e H kn kx h
  cases inl with
  | true=>
   have h0:eR (match aH nt g,gY nt ps.toList with|some x,some l=>.CM x l (.mk nt fid asL) (.mk nt fid bo)|_,_=>.bad) fuel ph e H kn kx=1:=h
   split at h0
   .rename_i x l hx hl
    exact Oh hph hx hl h0
   .exact (av h0).elim
  | false=>
   have h0:eR (match aH nt g,gY nt ps.toList with|some x,some l=>.kT x l (.mk nt fid asL) (.mk nt fid bo)|_,_=>.bad) fuel ph e H kn kx=1:=h
   split at h0
   .rename_i x l hx hl
    exact Og hph hx hl h0
   .exact (av h0).elim
 | _=>intro e H kn kx h;exact (av h).elim
end
end Go.Ev
end
section
namespace Go.Ev
open Go.RowKit
theorem iu.fs {P:Program} {f:Nat} {args caps:List V} {H H':Heap} {v:V} (h:iu P f (args ++ caps) H v H'):FSq P (.func (2*f) caps) args H v H':=by
 refine ⟨λrd base w0 rho w cx cargs hp hx ha o a=>?_,λf' caps' e=>by
  injection e with e1 e2
  have e1:2*f=2*(f':Nat):=e1
  obtain rfl:f=(f':Nat):=by omega
  obtain rfl:=e2
  exact h⟩
 simp only [VR]at hx
 obtain ⟨cs,rfl,hc⟩:=hx
 obtain ⟨h1,h2⟩:=h base w0 rho w (cargs ++ cs) hp (by simpa using ha.append hc)
 have he:(do let d <- Deferred.ofValue (.func (.func (2*f/2)) (if 2*f%2=0 then #[] else cs) (if 2*f%2=0 then cs else #[])) cargs;invoke d.target d.args:Sem Next).run P w=(callFunc f (cargs ++ cs)).run P w:=by simp [Deferred.ofValue,invoke]
 rw [he,h1]
 refine ⟨λh=>absurd h (by simp),?_⟩
 refine (CallsIn.mono h2 ?_:CallsIn (WF none) 0 P f (cargs ++ cs) w _)
 rintro en w' ⟨cv,rfl,hl⟩
 exact ⟨cv,rfl,hl⟩
theorem iu.fsb {P:Program} {f:Nat} {args caps:List V} {H H':Heap} {v:V} (h:iu P f (caps ++ args) H v H'):FSq P (.func (2*f+1) caps) args H v H':=by
 refine ⟨λrd base w0 rho w cx cargs hp hx ha o a=>?_,λf' caps' e=>by
  injection e with e1 e2
  have e1:2*f+1=2*(f':Nat):=e1
  omega⟩
 simp only [VR]at hx
 obtain ⟨cs,rfl,hc⟩:=hx
 obtain ⟨h1,h2⟩:=h base w0 rho w (cs ++ cargs) hp (by simpa using hc.append ha)
 have h3:(2*f+1)%2=1:=by omega
 have h4:(2*f+1)/2=f:=by omega
 have he:(do let d <- Deferred.ofValue (.func (.func ((2*f+1)/2)) (if (2*f+1)%2=0 then #[] else cs) (if (2*f+1)%2=0 then cs else #[])) cargs;invoke d.target d.args:Sem Next).run P w=(callFunc f (cs ++ cargs)).run P w:=by
  rw [h3,h4]
  simp [Deferred.ofValue,invoke]
 rw [he,h1]
 refine ⟨λh=>absurd h (by simp),?_⟩
 refine (CallsIn.mono h2 ?_:CallsIn (WF none) 0 P f (cs ++ cargs) w _)
 rintro en w' ⟨cv,rfl,hl⟩
 exact ⟨cv,rfl,hl⟩
theorem CE {α} (i) (x:α):p8 i (.mk x x x x x x x x)=x:=by cases i<;>rfl
theorem AV (s):ae s FC = .cH []:=by
 cases s with
 | mk a b c=>
  show p8 c (p8 b (p8 a (.mk u2 u2 u2 u2 u2 u2 u2 u2)))=_
  rw [CE]
  show p8 c (p8 b (.mk u1 u1 u1 u1 u1 u1 u1 u1))=_
  rw [CE]
  show p8 c (.mk u0 u0 u0 u0 u0 u0 u0 u0)=_
  rw [CE]
  rfl
theorem Ii:∀ (n i) (args) (e) (k),i+n<=512->gj ((List.range' i n).map bg) args e k=1->∃ e',k e'=1/\args.length=n/\(∀ t,t<512->ae (bg t) e'=if i<=t then (args[t-i]?).getD (ae (bg t) e) else ae (bg t) e)
 | 0,i,[],e,k,_,h=>⟨e,h,rfl,λt _=>by simp⟩
 | 0,i,_ :: _,e,k,_,h=>(av h).elim
 | n+1,i,[],e,k,_,h=>(av h).elim
 | n+1,i,v :: args,e,k,hi,h=>by
  have h':KZ (bg i) v e (λe'=>gj ((List.range' (i+1) n).map bg) args e' k)=1:=h
  rw [sW]at h'
  obtain ⟨e',h1,h2,h3⟩:=Ii n (i+1) args _ k (by omega) h'
  refine ⟨e',h1,by simp_all,λt ht=>?_⟩
  rcases Nat.lt_trichotomy t i with hlt|heq|hgt
  .have hne:bg t≠bg i:=λe=>by have:=fO (by omega) (by omega) e;omega
   have e1:ae (bg t) (lk (bg i) v e)=ae (bg t) e:=by rw [fv,if_neg hne]
   grind
  .subst heq
   rw [h3 t ht,if_neg (show ¬ t+1<=t by omega),if_pos (YB t),fv,if_pos rfl]
   simp
  .have hne:bg t≠bg i:=λe=>by have:=fO (by omega) (by omega) e;omega
   have e1:ae (bg t) (lk (bg i) v e)=ae (bg t) e:=by rw [fv,if_neg hne]
   grind
section
variable {P:Program} {nt:Nat}
def uc (tmps:Array Value):ResultVar->Sem Value
 | .tmp t=>pure (tmps.getD t undef)
 | .cell a t=>do loadVar t (<- asAddr (tmps.getD a undef))
theorem KK (fn) (tmps):results fn tmps=(do let vs <- fn.results.mapM (uc tmps);pure (if h:vs.size=1 then vs[0] else .tuple vs)):=by
 rfl
def abY (P:Program) (nt:Nat) (e:Env) (H:Heap) (r:ResultVar) (v:V):Prop:=
 ∀ {base:Nat} {w0 w:World} {rho:Nat->Option Nat} {tmps:Array Value},PR P base w0 rho H w->TR (mu rho H w) nt e tmps->∃ c,(uc tmps r).run P w = .ok c w/\VR (mu rho H w) v c
theorem TX {m} {e} {tmps} (h:TR m nt e tmps) {t} (ht:t<nt):VR m (ae (bg t) e) (tmps.getD t undef):=by
 have hs:=h.size
 have hex:tmps[t]? = some tmps[t]:=Ya (by omega)
 rw [Yk,hex]
 exact h.get t _ hex
theorem F8:∀ (l) (rs) (e) (H) (k),lD P nt l=some rs->xM rs e H k=1->
 ∃ vs,k vs=1/\vs.length=l.length/\∀ {base} {w0 w} {rho} {tmps},PR P base w0 rho H w->TR (mu rho H w) nt e tmps->∃ cs,(l.mapM (uc tmps)).run P w = .ok cs w/\cm (mu rho H w) vs cs
 | [],rs,e,H,k,hc,h=>by
  simp only [lD,Option.some.injEq]at hc
  subst hc
  exact ⟨[],h,rfl,λhp ht=>⟨[],rfl,by simp only [cm]⟩⟩
 | r :: l,rs,e,H,k,hc,h=>by
  have key:∀ (q) (qs),rs=q :: qs->lD P nt l=some qs->(∀ f,adx q e H f=1->∃ v,f v=1/\abY P nt e H r v)->∃ vs,k vs=1/\vs.length=(r :: l).length/\∀ {base} {w0 w} {rho} {tmps},PR P base w0 rho H w->TR (mu rho H w) nt e tmps->∃ cs,((r :: l).mapM (uc tmps)).run P w = .ok cs w/\cm (mu rho H w) vs cs:=λq qs hrs hqs hq=>by
   subst hrs
   have h':=h
   obtain ⟨v,h1,h2⟩:=hq _ h'
   obtain ⟨vs,h3,h4,h5⟩:=F8 l qs e H _ hqs h1
   refine ⟨v :: vs,h3,by simp [h4],λhp ht=>?_⟩
   obtain ⟨c,g1,g2⟩:=h2 hp ht
   obtain ⟨cs,g3,g4⟩:=h5 hp ht
   exact ⟨c :: cs,by simp [List.mapM_cons,g1,g3],by exact ⟨c,cs,rfl,g2,g4⟩⟩
  cases r with
  | tmp t=>
   simp only [lD]at hc
   split at hc
   .rename_i qs hqs
    split at hc
    .rename_i hlt
     cases hc
     refine key _ _ rfl hqs λf hf=>?_
     have hf':ik (bg t) e f=1:=hf
     rw [dY]at hf'
     exact ⟨_,hf',λhp ht=>⟨_,rfl,TX ht hlt⟩⟩
    .cases hc
   .cases hc
  | cell a t=>
   simp only [lD]at hc
   split at hc
   .rename_i qs hqs hag
    split at hc
    .rename_i hlt
     cases hc
     refine key _ _ rfl hqs λf hf=>?_
     have hf':ik (bg a) e (λv=>dQ 0 v λb o=>nV 0 H b o f)=1:=hf
     rw [dY]at hf'
     obtain ⟨b,off,hb,h1⟩:=fU hf'
     obtain ⟨row,v,h2,h3,h4⟩:=x9 h1
     refine ⟨v,h4,λ{base w0 w rho tmps} hp ht=>?_⟩
     have vx:=TX ht hlt
     rw [hb]at vx
     obtain ⟨c,hc,hm⟩:=vx
     obtain ⟨cv,g1,g2,_⟩:=hp.cell (hp.lX hm h2) h2 h3
     exact ⟨cv,by simp [uc,hc,asAddr,loadVar,kg hag,g1],g2⟩
    .cases hc
   .rename_i qs n hqs hag hsz
    split at hc
    .rename_i hlt
     cases hc
     refine key _ _ rfl hqs λf hf=>?_
     have hf':ik (bg a) e (λv=>dQ 0 v λb o=>ec 0 H b o n λl=>f (.agg l))=1:=hf
     rw [dY]at hf'
     obtain ⟨b,off,hb,h1⟩:=fU hf'
     obtain ⟨row,h2,h3,h4⟩:=pD h1
     refine ⟨_,h4,λ{base w0 w rho tmps} hp ht=>?_⟩
     have vx:=TX ht hlt
     rw [hb]at vx
     obtain ⟨c,hc,hm⟩:=vx
     obtain ⟨cs,g1,g2,g3⟩:=hp.cells (hp.lX hm h2) h2 h3
     exact ⟨.agg cs.toArray,by simp [uc,hc,asAddr,loadVar,kg hag,cK hsz,g1],by exact ⟨_,rfl,g2⟩⟩
    .cases hc
   .cases hc
end
theorem W9 {l} {k} (h:KM l k=1):∃ v,k v=1/\∀ (m) (cs),cm m l cs->VR m v (if h:cs.toArray.size=1 then cs.toArray[0] else .tuple cs.toArray):=by
 cases l with
 | nil=>
  refine ⟨_,h,λm cs hv=>?_⟩
  subst hv
  exact ⟨#[],rfl,by rfl⟩
 | cons v l=>
  cases l with
  | nil=>
   refine ⟨v,h,λm cs hv=>?_⟩
   obtain ⟨c,r,rfl,h1,rfl⟩:=hv
   exact h1
  | cons u l=>
   refine ⟨_,h,λm cs hv=>?_⟩
   have:=hv.length
   rw [dif_neg (by simp_all)]
   simp only [VR]
   simp_all
end Go.Ev
end
section
namespace Go.Ev
open Go.RowKit
section
variable {P:Program}
theorem jW {f} {fn} {c} (hf:P.funcs[f]? = some fn) (hb:fn.body=some c) (hn:(fn.name == "runtime.NumGoroutine")=false) (args) (w):(callFunc f args).run P w = .ok (.enter f args) w:=by
 have hn':fn.name ≠ "runtime.NumGoroutine":=by simp_all
 simp [callFunc,hf,hb,hn']
theorem GJ {fn} {tmps} {R} {base} {w0 w} {rho rho'} {H H'} {nt} {e} (h0:∀ b c,rho b=some c->b<H.n):∀ {w'},PR P base w0 rho' H' w'->TR (mu rho' H' w') nt e tmps->Ext rho H w rho' H' w'->∀ (bs:List (Nat × Nat)),(∀ p ∈ bs,H.n<=p.1)->(bs.map (·.1)).Nodup->(∀ p ∈ bs,rho' p.1=some p.2/\H'.get p.1 = .mark/\w'.heap[p.2]? = some (.deferred (some [])))->
 (∀ w2,PR P base w0 rho' H' w2->TR (mu rho' H' w2) nt e tmps->Ext rho H w rho' H' w2->∃ v,(results fn tmps).run P w2 = .ok v w2/\R (.returned v) w2)->LeavesInM (WF none) 0 P fn tmps R (bs.map λp=>{target:=.collected p.2,args:=#[]}) .returning w'
 | w',hp,ht,hx,[],_,_,_,hR=>hR w' hp ht hx
 | w',hp,ht,hx,p :: bs,hn,hnd,hb,hR=>by
  obtain ⟨h1,h2,h3⟩:=hb p (YJ ..)
  have hlt:=(hp.jP _ _ h1).2.2.1
  have hnn:=hn p (YJ ..)
  have hot:∀ k,k≠p.2->(w'.putObj p.2 (.deferred none)).heap[k]? = w'.heap[k]?:=λk hk=>World.putObj_heap_other hk
  have hm:(mu rho' H' w').le (mu rho' H' (w'.putObj p.2 (.deferred none))):=⟨λ_ _ h=>h,λc z ⟨cs,e,fr,g1,g2⟩=>⟨cs,e,fr,(hot c λe=>by simp_all).trans g1,g2⟩⟩
  have hp2:PR P base w0 rho' H' (w'.putObj p.2 (.deferred none)):=by
   refine ⟨oK hp.below rfl rfl rfl (by simp) λk hk=>hot k (by have:=(hp.jP _ _ h1).2.1;omega),by simp;exact hp.cQ,hp.wn,λb c hr=>by simp;exact hp.jP b c hr,hp.inj,λb c hr=>?_,hp.out,vA hp.gl.1 λc hc=>hot c λe=>hp.gl.2.2 _ _ h1 (e ▸ hc),λc hc=>by simp;exact hp.gl.2.1 c hc,hp.gl.2.2⟩
   by_cases hc:c=p.2
   .subst hc
    obtain rfl:=hp.inj _ _ _ hr h1
    exact ⟨_,World.putObj_heap_same hlt,by rw [h2];exact ⟨_,rfl⟩⟩
   .obtain ⟨o,g1,g2⟩:=hp.db b c hr
    exact ⟨o,(hot c hc).trans g1,g2.mono hm⟩
  have hx2:Ext rho H w rho' H' (w'.putObj p.2 (.deferred none)):=by
   refine ⟨hx.n,hx.bz,by simp;exact hx.size,hx.cG,hx.old,hx.live,hx.qQ,hx.new,λc hc hb=>?_,λb hm=>?_,λc cs e fr hc=>?_,λc r hc=>?_⟩
   .refine (hot c λe=>?_).trans (hx.fr c hc hb)
    rcases hx.new _ _ hnn h1 with h|⟨b0,g1,g2⟩
    .omega
    grind
   .obtain ⟨a1,a2,a3⟩:=hx.marks b hm
    refine ⟨a1,a2,λc hc=>(hot c λe=>?_).trans (a3 c hc)⟩
    subst e
    have:=hp.inj _ _ _ (a2.trans hc) h1
    grind
   .obtain ⟨cs',e',fr',g1,g2⟩:=hx.rows c cs e fr hc
    grind
   .obtain ⟨r',g1⟩:=hx.loops c r hc
    grind
  refine ⟨by simp,YG ⟨p.2,_,rfl,run_takeDeferred h3,?_⟩⟩
  rw [List.map_cons,Wg]at hnd
  refine GJ h0 hp2 (ht.mono hm) hx2 bs (λq hq=>hn q (YI _ hq)) hnd.2 (λq hq=>?_) hR
  obtain ⟨g1,g2,g3⟩:=hb q (YI _ hq)
  refine ⟨g1,g2,(hot q.2 λe=>?_).trans g3⟩
  have:=hp.inj _ _ _ (e ▸ g1) h1
  grind
theorem adw {f:FuncId} {fn:Func} {fe:cP} {fuel:Nat} {ph:cU} {args:List V} {H:Heap} {k:K} (hm:P.follows .mixedOrders=true) (hph:iY P ph) (hf:P.funcs[f]? = some fn) (hn:(fn.name == "runtime.NumGoroutine")=false) (hfe:jz P f fn=some fe) (h:Vg fe fuel ph args H k=1):
 ∃ v H',iu P f args H v H'/\k v H'=1:=by
 unfold jz at hfe
 split at hfe
 .rename_i c hb
  split at hfe
  .rename_i hcd
   rw [Yz,decide_eq_true_eq,decide_eq_true_eq]at hcd
   split at hfe
   .rename_i r hr
    cases hfe
    have h':gj ((List.range (fn.params.size+fn.nfree)).map bg) args FC (λe=>eR (iv P fn.ntmps f false c) fuel ph e H (λe H=>xM r e H λl=>KM l λv=>k v H) λn e H=>Nat.rec (motive:=λ_=>R) (xM r e H λl=>KM l λv=>k v H) (λ_ _=>no 6) n)=1:=h
    rw [List.range_eq_range']at h'
    obtain ⟨e,h1,h2,h3⟩:=Ii _ 0 args FC _ (by omega) h'
    obtain ⟨out,e1,H1,h4,h5⟩:=JH hm hph fuel c e H _ _ h1
    have h6:xM r e1 H1 (λl=>KM l λv=>k v H1)=1/\(out.ex = .normal\/out.ex = .ret):=by
     cases out with
     | normal=>exact ⟨h5,YG rfl⟩
     | jump n=>
      cases n with
      | zero=>exact ⟨h5,YE rfl⟩
      | succ n=>exact (av h5).elim
    obtain ⟨vs,h7,h8,h9⟩:=F8 (nt:=fn.ntmps) _ _ _ _ _ hr h6.1
    obtain ⟨v,h10,h11⟩:=W9 h7
    refine ⟨v,H1,λbase w0 rho w cargs hp ha=>⟨jW hf hb hn _ _,?_⟩,h10⟩
    have hlen:=ha.length
    have hsz:cargs.size=fn.params.size+fn.nfree:=by simp_all
    have htr:TR (mu rho H w) fn.ntmps e (cargs ++ Qb (fn.ntmps-cargs.size) undef):=by
     refine ⟨by simp;omega,hcd.1,λt u hu=>?_,λt g1 g2=>?_⟩
     .have ht:t<fn.ntmps:=by
       grind
      rw [h3 t (by omega),if_pos (Yf _),QQ]
      by_cases htc:t<cargs.size
      .have hta:t<args.length:=by omega
       have hex:args[t]? = some args[t]:=YA hta
       obtain ⟨c',g3,g4⟩:=ha.get hex
       simp_all
      .rw [Array.getElem?_append_right (by omega),Qw]at hu
       split at hu
       .cases hu
        rw [WY (by omega),Wq,AV]
        exact pY
       .cases hu
     .rw [h3 t g2,if_pos (Yf _),QQ,WY (by omega),Wq,AV]
    refine callsIn_of_wp_marks (F:=WF none) (n:=0) hf hb trivial ?_
    refine h4 none rfl base w0 rho w _ hp htr (λ_ e=>by cases e) _ λa' w' rho' ms d1 m1 p1 t1 x1=>?_
    obtain ⟨bs,nd,hms,hbs⟩:=m1
    have hd:a'.defers=bs.map (λp=>{target:=.collected p.2,args:=#[]}):=by grind
    have key:=GJ (fn:=fn) (tmps:=a'.tmps) (R:=λen w'=>∃ cv,en = .returned cv/\Left P base w0 rho H w v H1 cv w') hp.lt p1 t1 x1 bs (λp hp=>(hbs p hp).1) nd (λp hp=>⟨(hbs p hp).2.2.1,(hbs p hp).2.2.2.1,(hbs p hp).2.2.2.2⟩) λw2 p2 t2 x2=>by
     obtain ⟨cs,g1,g2⟩:=h9 p2 t2
     have hres:(results fn a'.tmps).run P w2 = .ok (if h:cs.toArray.size=1 then cs.toArray[0] else .tuple cs.toArray) w2:=by
      rw [KK,Array.mapM_eq_mapM_toList]
      simp [g1]
     exact ⟨_,hres,_,rfl,rho',h11 _ _ g2,p2,x2⟩
    have hpost:bodyPostM (WF none) 0 P fn (λen w'=>∃ cv,en = .returned cv/\Left P base w0 rho H w v H1 cv w') .normal a' w':=by
     show LeavesInM (WF none) 0 P fn a'.tmps _ a'.defers .returning w'
     simp_all
    rcases h6.2 with h|h<;>rw [h]<;>exact hpost
   .cases hfe
  .cases hfe
 .cases hfe
def vZ (P:Program) (f:FuncId) (g:List V->Heap->K->R):Prop:=∀ args H k,g args H k=1->∃ v H',iu P f args H v H'/\k v H'=1
def iZ (P:Program) (t:Nat->Option cP):Prop:=∀ f fe,t f=some fe->(∃ fn,P.funcs[f]? = some fn/\(fn.name == "runtime.NumGoroutine")=false/\jz P f fn=some fe)\/∃ g,fe = .nat g/\vZ P f g
theorem Ij:∀ (sl) (args) (e) (k),gj sl args e k=1->
 args.length=sl.length/\∃ e',k e'=1/\∀ (m) (nt) (ps) (cargs) (tmps),gY nt ps=some sl->TR m nt e tmps->cm m args cargs->TR m nt e' ((ps.zip cargs).foldl (λtmps (q:Tmp × Value)=>tmps.setIfInBounds q.1 q.2) tmps)
 | [],args,e,k,h=>by
  cases args with
  | nil=>exact ⟨rfl,e,h,λm nt ps cargs tmps hc ht hv=>by
   simp only [cm]at hv
   simp_all⟩
  | cons=>exact (av h).elim
 | s :: sl,args,e,k,h=>by
  cases args with
  | nil=>exact (av h).elim
  | cons v args=>
   have h':KZ s v e (λe'=>gj sl args e' k)=1:=h
   rw [sW]at h'
   obtain ⟨h1,e',h2,h3⟩:=Ij sl args _ k h'
   refine ⟨by simp_all,e',h2,λm nt ps cargs tmps hc ht hv=>?_⟩
   cases ps with
   | nil=>simp [gY]at hc
   | cons p ps=>
    simp only [gY]at hc
    split at hc
    .rename_i r hr
     split at hc
     .rename_i hp
      cases hc
      obtain ⟨c,cr,rfl,hv1,hv2⟩:=hv
      simpa using h3 m nt ps cr _ hr (ht.put hp hv1) hv2
     simp_all
    simp_all
def kK:Out->Option Code
 | .normal=>none
 | .jump 0=>some .ret
 | .jump (n+1)=>some (.exit n)
theorem qM {nt}:∀ {l} {r},gY nt l=some r->r.length=l.length
 | [],r,h=>by simp only [gY,Option.some.injEq]at h;simp_all
 | t :: l,r,h=>by
  simp only [gY]at h
  split at h
  .rename_i q hq
   split at h
   .cases h;simp [qM hq]
   simp_all
  simp_all
theorem aat {ph:cU} (hm:P.follows .mixedOrders=true) (hph:iY P ph) {fuel b:Nat} {args:List V} {H:Heap} {k:K} (h:X9 (aP P) fuel ph b args H k=1):∃ v H',FSq P (.td b) args H v H'/\k v H'=1:=by
 unfold X9 at h
 rw [aV]at h
 obtain ⟨st,j,e,ps,asL,bo,hb,h1⟩:=mc h
 match st,hb,h1 with
 | s+1,hb,h1=>exact (av h1).elim
 | 0,hb,h1=>
  obtain ⟨nt,fid,c1⟩:=asL
  obtain ⟨nt2,fid2,c2⟩:=bo
  have h2:gj ps args e (λe1=>eR (iv P nt fid true c1) fuel ph e1 H (λe2 H=>dC H b λbl=>eZ bl λst1 j1 e1 ps1 as1 bo1=>Nat.rec (motive:=λ_=>R) (da 0 H b (.loop 1 j1 e1 ps1 as1 bo1) λH=>eR (iv P nt2 fid2 true c2) fuel ph e2 H
   (λ_ H=>dC H b λbl=>eZ bl λ_ _ e' ps' as' bo'=>da 0 H b (.loop 0 0 e' ps' as' bo') λH=>k (.bool true) H)
   λn _ H=>dC H b λbl=>eZ bl λ_ _ e' ps' as' bo'=>da 0 H b (.loop 2 (WN n) e' ps' as' bo') λH=>k (.bool false) H) (λ_ _=>no 13) st1) (λ_ _ _=>no 11))=1:=h1
  obtain ⟨hlen,e1,h3,hT⟩:=Ij _ _ _ _ h2
  obtain ⟨out,e2,H1,cs1,h4⟩:=JH hm hph fuel c1 e1 H _ _ h3
  cases out with
  | jump n=>exact (av h4).elim
  | normal=>
   have h4':dC H1 b (λbl=>eZ bl λst1 j1 e1 ps1 as1 bo1=>Nat.rec (motive:=λ_=>R) (da 0 H1 b (.loop 1 j1 e1 ps1 as1 bo1) λH=>eR (iv P nt2 fid2 true c2) fuel ph e2 H
    (λ_ H=>dC H b λbl=>eZ bl λ_ _ e' ps' as' bo'=>da 0 H b (.loop 0 0 e' ps' as' bo') λH=>k (.bool true) H)
    λn _ H=>dC H b λbl=>eZ bl λ_ _ e' ps' as' bo'=>da 0 H b (.loop 2 (WN n) e' ps' as' bo') λH=>k (.bool false) H) (λ_ _=>no 13) st1)=1:=h4
   rw [aV]at h4'
   obtain ⟨st1,j1,ea,psa,asa,boa,hb1,h5⟩:=mc h4'
   match st1,hb1,h5 with
   | s+1,hb1,h5=>exact (av h5).elim
   | 0,hb1,h5=>
    obtain ⟨H2,h6,s2⟩:=ib (show da 0 H1 b (.loop 1 j1 ea psa asa boa) _=1 from h5)
    obtain ⟨out3,e3,H3,cs2,h7⟩:=JH hm hph fuel c2 e2 H2 _ _ h6
    have fin:∃ (bv:Bool) (st4 jmp:Nat) (H4:Heap) (st3 j3:Nat) (eb:Env) (psb:List Slot) (asb bob:RC),H3.get b = .loop st3 j3 eb psb asb bob/\O0 H3 b (.loop st4 jmp eb psb asb bob) H4/\k (.bool bv) H4=1/\Kz jmp=kK out3/\bv=(kK out3).isNone/\st4=Xn (if (kK out3).isNone then .ready else .done):=by
     cases out3 with
     | normal=>
      have h8:dC H3 b (λbl=>eZ bl λ_ _ e' ps' as' bo'=>da 0 H3 b (.loop 0 0 e' ps' as' bo') λH=>k (.bool true) H)=1:=h7
      obtain ⟨st3,j3,eb,psb,asb,bob,hb3,h9⟩:=mc h8
      obtain ⟨H4,h10,s4⟩:=ib h9
      exact ⟨true,0,0,H4,st3,j3,eb,psb,asb,bob,hb3,s4,h10,rfl,rfl,rfl⟩
     | jump n=>
      have h8:dC H3 b (λbl=>eZ bl λ_ _ e' ps' as' bo'=>da 0 H3 b (.loop 2 (WN n) e' ps' as' bo') λH=>k (.bool false) H)=1:=h7
      obtain ⟨st3,j3,eb,psb,asb,bob,hb3,h9⟩:=mc h8
      obtain ⟨H4,h10,s4⟩:=ib h9
      exact ⟨false,2,n+1,H4,st3,j3,eb,psb,asb,bob,hb3,s4,h10,by cases n<;>rfl,by cases n<;>rfl,by cases n<;>rfl⟩
    obtain ⟨bv,st4,jmp,H4,st3,j3,eb,psb,asb,bob,hb3,s4,hk,hpend,hbv,hst4⟩:=fin
    refine ⟨.bool bv,H4,⟨λrd base w0 rho w cx cargs hp hx ha o a=>?_,λf caps e=>by cases e⟩,hk⟩
    obtain ⟨c,rfl,hmu⟩:=hx
    have hr:rho b=some c:=hmu.2 (by rw [hb];trivial)
    obtain ⟨o1,g1,g2⟩:=hp.db _ _ hr
    rw [hb]at g2
    obtain ⟨r,nt',fid',rfl,g3,g4,g5,g6,g7,g8⟩:=g2
    have hready:∀ {x:LoopState},Xn x=0->x = .ready:=λ{x} hx=>by cases x<;>simp [Xn]at hx;rfl
    simp only [RC.mk.injEq]at g7 g8
    obtain ⟨rfl,rfl,g7⟩:=g7
    obtain ⟨rfl,rfl,g8⟩:=g8
    have hsz:cargs.size=r.params.size:=by
     rw [<- YL0,ha.length,hlen,qM g6,YL0]
    have he:(do let d <- Deferred.ofValue (.func (.yield c) #[] #[]) cargs;invoke d.target d.args:Sem Next).run P w = .ok (.round c r.fn ((r.params.zip cargs).foldl (λtmps (t,a)=>tmps.setIfInBounds t a) r.tmps) r.assign r.body) w:=by
     have:=run_yield (P:=P) g1 hsz
     simp [Deferred.ofValue,invoke,this]
    rw [he,g7,g8]
    have htr:TR (mu rho H w) nt' e1 ((r.params.zip cargs).foldl (λtmps (t,a)=>tmps.setIfInBounds t a) r.tmps):=by
     have:=hT (mu rho H w) nt' r.params.toList cargs.toList r.tmps g6 g5 ha
     rw [<- Array.foldl_toList,Array.toList_zip]
     exact this
    refine ⟨λh=>absurd h (by simp),?_⟩
    refine (roundIn_of_wpIn (F:=WF rd) (n:=0) trivial ?_:RoundIn (WF rd) 0 P _ _ _ _ _ _ _)
    refine (cs1 (some c) rfl base w0 rho w {tmps:=_,defers:=[]} hp htr (λl e=>by grind) _ λa1 w1 rho1 ms1 d1 m1 p1 t1 x1=>?_:Code.wpIn (WF (some c)) 0 P _ _ _ _)
    have hr1:rho1 b=some c:=x1.live b c hr (by rw [hb1];trivial)
    obtain ⟨o2,q1,q2⟩:=p1.db _ _ hr1
    rw [hb1]at q2
    obtain ⟨r1,nt1,fid1,rfl,q3,q4,q5,q6,q7,q8⟩:=q2
    refine ⟨_,run_beginRound q1 (hready q3),?_⟩
    obtain ⟨p2,x2⟩:=p1.write (H':=H2) (w':=w1.putObj c (.loop {r1 with state:=.busy })) hr1 (by grind) s2.n s2.bz s2.wb s2.get s2.vU trivial ⟨rfl,rfl,rfl⟩ (by simp) (World.putObj_heap_same (YN.1 q1).1) (λj hj=>World.putObj_heap_other hj)
     ⟨{r1 with state:=.busy },nt1,fid1,rfl,rfl,q4,q5,q6,q7,q8⟩ (λcs2 e2 fr2 h=>by grind) (λ_ _=>⟨_,rfl⟩)
    refine (cs2 (some c) rfl base w0 rho1 _ a1 p2 (t1.mono x2.mu) (λl e=>by cases e;exact ⟨_,World.putObj_heap_same (YN.1 q1).1⟩) _ λa3 w3 rho3 ms3 d3 m3 p3 t3 x3=>?_:Code.wpIn (WF (some c)) 0 P _ _ _ _)
    have hr3:rho3 b=some c:=x3.live b c hr1 (by rw [hb3];trivial)
    obtain ⟨o3,u1,u2⟩:=p3.db _ _ hr3
    rw [hb3]at u2
    obtain ⟨r3,nt3,fid3,rfl,u3,u4,u5,u6,u7,u8⟩:=u2
    obtain ⟨p4,x4⟩:=p3.write (H':=H4) (w':=w3.putObj c (.loop {r3 with state:=if (kK out3).isNone then .ready else .done,pending:=kK out3 })) hr3 (by grind) s4.n s4.bz s4.wb s4.get s4.vU trivial ⟨rfl,rfl,rfl⟩ (by simp) (World.putObj_heap_same (YN.1 u1).1) (λj hj=>World.putObj_heap_other hj)
     ⟨{r3 with state:=if (kK out3).isNone then .ready else .done,pending:=kK out3 },nt3,fid3,rfl,hst4.symm,hpend.symm,u5,u6,u7,u8⟩ (λcs2 e2 fr2 h=>by grind) (λ_ _=>⟨_,rfl⟩)
    have hR:∃ cv,a.put o.dst (.bool (kK out3).isNone)=a.put o.dst cv/\Left P base w0 rho H w (.bool bv) H4 cv (w3.putObj c (.loop {r3 with state:=if (kK out3).isNone then .ready else .done,pending:=kK out3 })):=
     ⟨_,rfl,rho3,by simp only [VR];rw [hbv],p4,Ext.trans hp.lt x1 (Ext.trans p1.lt x2 (Ext.trans p2.lt x3 x4))⟩
    have hend:=run_endRound (P:=P) (kK out3) u1
    cases out3 with
    | normal=>exact ⟨_,_,hend,hR⟩
    | jump n=>cases n<;>exact ⟨_,_,hend,hR⟩
theorem JK (hm:P.follows .mixedOrders=true) {t} (ht:iZ P t) (fuel):∀ depth,iY P (aN (aP P) t fuel depth)
 | 0=>λx args H k h=>(av h).elim
 | d+1=>λx args H k h=>by
  have ih:=JK hm ht fuel d
  cases x<;>first|exact (av h).elim|skip
  rotate_left
  .exact aat hm ih h
  rename_i f caps
  have key:∀ g l,JL t fuel (aN (aP P) t fuel d) g l H k=1->∃ v H',iu P g l H v H'/\k v H'=1:=λg l h=>by
   unfold JL at h
   rw [aw]at h
   cases htf:t g with
   | none=>rw [htf]at h;exact (av h).elim
   | some fe=>
    rw [htf]at h
    have h2:=h
    rcases ht g fe htf with ⟨fn,h3,h4,h5⟩|⟨q,rfl,h3⟩
    .exact adw hm ih h3 h4 h5 h2
    .exact h3 _ _ _ (show q l H k=1 from h2)
  have h':Nat.rec (jO args caps λargs=>JL t fuel (aN (aP P) t fuel d) (Wf f 2) args H k) (λ_ _=>jO caps args λargs=>JL t fuel (aN (aP P) t fuel d) (Wf f 2) args H k) (Yq f 2)=1:=h
  rcases (by omega:f%2=0\/f%2=1) with hf|hf
  .rw [show Yq f 2=0 from hf]at h'
   have h'':=h'
   rw [fA]at h''
   obtain ⟨v,H',h1,h2⟩:=key _ _ h''
   have hq:f=2*(f/2):=by omega
   refine ⟨v,H',?_,h2⟩
   rw [hq]
   exact iu.fs h1
  .rw [show Yq f 2=1 from hf]at h'
   have h'':jO caps args (λargs=>JL t fuel (aN (aP P) t fuel d) (Wf f 2) args H k)=1:=h'
   rw [fA]at h''
   obtain ⟨v,H',h1,h2⟩:=key _ _ h''
   have hq:f=2*(f/2)+1:=by omega
   refine ⟨v,H',?_,h2⟩
   rw [hq]
   exact iu.fsb h1
theorem PR.empty (w:World) (hg:GQ w/\∀ c,GB c->c<w.heap.size):PR P w.heap.size w (λ_=>none) H0 w where
 below:=Below.refl _ _
 cQ:=YB _
 wn:=YB _
 jP b c h:=by cases h
 inj b b' c h:=by cases h
 db b c h:=by cases h
 out b _:=rfl
 gl:=⟨hg.1,hg.2,λb c h=>by cases h⟩
noncomputable def isTrue (v:V) (_:Heap):R:=eV 0 v λb=>aF b 1 (no 0)
theorem NH {v} {H} (h:isTrue v H=1):v = .bool true:=by
 obtain ⟨b,rfl,h1⟩:=mR h
 obtain ⟨h2,_⟩:=aQ h1
 rw [h2]
theorem known (hm:P.follows .mixedOrders=true) {t} (ht:iZ P t) {fuel depth} {f:FuncId} {fn} {c} (hf:P.funcs[f]? = some fn) (hb:fn.body=some c) (hn:(fn.name == "runtime.NumGoroutine")=false) (h:aN (aP P) t fuel depth (.func (2*f) []) [] H0 isTrue=1) (w) (hg:GQ w/\∀ c,GB c->c<w.heap.size:=by exact Gno):
 Calls P f #[] w λe w'=>e = .returned (.bool true)/\Below w.heap.size w w':=by
 obtain ⟨v,H',h1,h2⟩:=JK hm ht fuel depth _ _ _ _ h
 have:=NH h2
 subst this
 have h3:=h1.1 none w.heap.size w (λ_=>none) w (.func (.func f) #[] #[]) #[] (PR.empty w hg) (by exact ⟨#[],by simp,by rfl⟩) (by rfl) {(default:Oper) with dst:=some 0 } {tmps:=#[undef],defers:=[]}
 have he:(do let d <- Deferred.ofValue (.func (.func f) #[] #[]) #[];invoke d.target d.args:Sem Next).run P w = .ok (.enter f #[]) w:=by
  have:=jW hf hb hn #[] w
  simp [Deferred.ofValue,invoke,this]
 rw [he]at h3
 obtain ⟨_,h4⟩:=h3
 refine CallsIn.calls (h4.mono λe w' he=>?_) λk=>by simp [Fence.room]
 cases e with
 | returned u=>
  obtain ⟨cv,h5,rho',h6,h7,_⟩:=he
  have h8:=by simpa [Act.put] using h5
  subst h8
  exact ⟨by rw [h6],h7.below⟩
 | panicked ch=>simp_all
 | outgrown=>obtain ⟨_,_,h⟩:=he;simp_all
end
end Go.Ev
end
section
namespace Go.Ev
open Go.RowKit
section
variable {P:Program} {base:Nat} {w0 w w':World} {rho:Nat->Option Nat} {H:Heap}
theorem PR.called (h:PR P base w0 rho H w) (hb:Below w.heap.size w w'):PR P base w0 rho H w'/\Ext rho H w rho H w':=by
 have hE:Ext rho H w rho H w':=⟨YB _,YB _,hb.size,λ_ _ _=>⟨rfl,rfl⟩,λ_ _ _ h=>h,λ_ _ h _=>h,λ_ _ h=>h,λb c hb h1=>absurd (h.lt b c h1) (by omega),λc hc _=>hb.block c hc,λb h1=>⟨h1,rfl,λc hc=>hb.block c (h.jP b c hc).2.2.1⟩,λc cs e fr h1=>⟨cs,e,fr,(hb.block c (YN.1 h1).1).trans h1,rfl⟩,λc r h1=>⟨r,(hb.block c (YN.1 h1).1).trans h1⟩⟩
 refine ⟨⟨h.below.trans (hb.mono h.cQ),Yr h.cQ hb.size,h.wn,λb c hr=>?_,h.inj,λb c hr=>?_,h.out,h.gl.step hE⟩,hE⟩
 .obtain ⟨h1,h2,h3,h4⟩:=h.jP b c hr
  exact ⟨h1,h2,YD h3 hb.size,h4⟩
 .obtain ⟨o,h1,h2⟩:=h.db b c hr
  exact ⟨o,(hb.block c (h.jP b c hr).2.2.1).trans h1,h2.mono hE.mu⟩
theorem iu.pN {f:FuncId} {fn:Func} {c:Code} {args:List V} {v:V} (hf:P.funcs[f]? = some fn) (hb:fn.body=some c) (hn:(fn.name == "runtime.NumGoroutine")=false)
 (h:∀ (base:Nat) (w0:World) (rho:Nat->Option Nat) (w:World) (cargs:Array Value),PR P base w0 rho H w->cm (mu rho H w) args cargs.toList->∃ cv,VR (mu rho H w) v cv/\Calls P f cargs w λe w'=>e = .returned cv/\Below w.heap.size w w'):
 iu P f args H v H:=λbase w0 rho w cargs hp ha=>by
 obtain ⟨cv,h1,h2⟩:=h base w0 rho w cargs hp ha
 refine ⟨jW hf hb hn _ _,?_⟩
 have h3:CallsIn (WF none) 0 P f cargs w λe w'=>e = .returned cv/\Below w.heap.size w w':=callsIn_wide.2 h2
 refine h3.mono ?_
 rintro e w' ⟨rfl,h4⟩
 obtain ⟨h5,h6⟩:=hp.called h4
 exact ⟨cv,rfl,rho,VR.mono h6.mu v cv h1,h5,h6⟩
theorem uW {m} {l n} {cargs} (h:cm m [.str l n] cargs.toList):cargs = #[.string ⟨(aB l n).toArray⟩]/\n<256 ^ l:=by
 obtain ⟨c,r,h1,⟨rfl,h2⟩,rfl⟩:=h
 grind
end
theorem toI_nat {k} {n} (hk:k.signed=false) (h:n<eg k):toI k n=n:=by
 unfold toI IntKind.wrap eg at *
 have:(n:Int)%(2 ^ k.bits:Nat)=n:=Int.emod_eq_of_lt (by omega) (by omega)
 simp_all
noncomputable def Sz (args:List V) (H:Heap) (k:K):R:=List.rec (motive:=λ_=>R) (no 0) (λx r _=>List.rec (motive:=λ_=>R) (ej 0 x λl n=>aF (YX l 16777216) (vG l n 4294967295 λc=>au (Nat.sub 4294967295 c) λr=>k (.int 6 r) H) (no 0)) (λ_ _ _=>no 0) r) args
theorem SA {args} {H} {k} (h:Sz args H k=1):∃ l n,args=[.str l n]/\l<=16777216/\vG l n 4294967295 (λc=>au (Nat.sub 4294967295 c) λr=>k (.int 6 r) H)=1:=by
 match args,h with
 | [],h=>exact (av h).elim
 | [x],h=>
  obtain ⟨l,n,rfl,h1⟩:=eD (id:=0) h
  obtain ⟨h2,h3⟩:=aQ h1
  exact ⟨l,n,rfl,cA h2,h3⟩
 | x :: y :: r,h=>exact (av h).elim
def uG (sep:List UInt8):List (List UInt8)->List UInt8
 | []=>[]
 | [x]=>x
 | x :: y :: r=>x ++ (sep ++ uG sep (y :: r))
theorem TF (n l:Nat):Yt n (Yj 8 l)=n*256 ^ l:=by
 show n <<< (8*l)=_
 rw [Nat.shiftLeft_eq,Nat.pow_mul]
theorem MD {a b n m} (hn:n<256 ^ a) (hm:m<256 ^ b):aB (a+b) (n+m*256 ^ a)=aB a n ++ aB b m/\n+m*256 ^ a<256 ^ (a+b):=by
 refine ⟨by rw [Nat.mul_comm];exact fy a b n m hn,?_⟩
 have h1:(m+1)*256 ^ a<=256 ^ b*256 ^ a:=Nat.mul_le_mul_right _ hm
 grind
theorem Gy {sl sn} (hs:sn<256 ^ sl):∀ {l} {k},Me sl sn l k=1->∃ xs:List (Nat × Nat),l=xs.map (λp=>V.str p.1 p.2)/\∃ tl tn,k tl tn=1/\((∀ p ∈ xs,p.2<256 ^ p.1)->aB tl tn=uG (aB sl sn) (xs.map λp=>aB p.1 p.2)/\tn<256 ^ tl)
 | [],k,h=>⟨[],rfl,0,0,h,λ_=>⟨rfl,by simp⟩⟩
 | [v],k,h=>by
  have h':ej 0 v (λl n=>k l n)=1:=h
  obtain ⟨l,n,rfl,h1⟩:=eD h'
  exact ⟨[(l,n)],rfl,l,n,h1,λhx=>⟨rfl,hx (l,n) (by simp)⟩⟩
 | v :: u :: r,k,h=>by
  have h':ej 0 v (λl n=>Me sl sn (u :: r) λrl rn=>au (Yd l (Yd sl rl)) λtl=>au (Yd n (Yt (Yd sn (Yt rn (Yj 8 sl))) (Yj 8 l))) λtn=>k tl tn)=1:=h
  obtain ⟨l,n,rfl,h1⟩:=eD h'
  obtain ⟨xs,h2,rl,rn,h3,h4⟩:=Gy hs h1
  rw [aw,aw,TF,TF]at h3
  refine ⟨(l,n):: xs,by simp_all,_,_,h3,λhx=>?_⟩
  obtain ⟨h5,h6⟩:=h4 λp hp=>hx p (YI _ hp)
  have hn:=hx (l,n) (YJ ..)
  obtain ⟨c1,c2⟩:=MD hs h6
  obtain ⟨c3,c4⟩:=MD hn c2
  refine ⟨?_,c4⟩
  refine c3.trans ?_
  rw [c1,h5]
  cases xs with
  | nil=>cases h2
  | cons p xs=>rfl
noncomputable def J7 (args:List V) (H:Heap) (k:K):R:=List.rec (motive:=λ_=>R) (no 0) (λx r _=>List.rec (motive:=λ_=>R) (no 0) (λs r2 _=>List.rec (motive:=λ_=>R)
 (ej 0 s λsl sn=>aF (Yx sn (Nat.pow 256 sl)) (bG 0 x (λb o n _ _=>aF (YX n 16777216) (aF (YM n 0) (k (.str 0 0) H) (ec 0 H b o n λl=>Me sl sn l λtl tn=>aF (YX tl 16777216) (k (.str tl tn) H) (no 0))) (no 0)) (k (.str 0 0) H)) (no 0)) (λ_ _ _=>no 0) r2) r) args
theorem NP {args} {H} {k} (h:J7 args H k=1):∃ x sl sn,args=[x,.str sl sn]/\sn<256 ^ sl/\bG 0 x (λb o n _ _=>aF (YX n 16777216) (aF (YM n 0) (k (.str 0 0) H) (ec 0 H b o n λl=>Me sl sn l λtl tn=>aF (YX tl 16777216) (k (.str tl tn) H) (no 0))) (no 0)) (k (.str 0 0) H)=1:=by
 match args,h with
 | [],h=>exact (av h).elim
 | [x],h=>exact (av h).elim
 | [x,s],h=>
  obtain ⟨sl,sn,rfl,h1⟩:=eD (id:=0) h
  obtain ⟨h2,h3⟩:=aQ h1
  exact ⟨x,sl,sn,rfl,eO h2,h3⟩
 | x :: y :: z :: r,h=>exact (av h).elim
structure IS (P:Program) (f:FuncId):Prop where
 RY:∃ fn c,P.funcs[f]? = some fn/\fn.body=some c/\(fn.name == "runtime.NumGoroutine")=false
 Ay:∀ (a:Option Addr) (c:Nat) (sep:ByteArray) (w:World),Calls P f #[.slice a 0 c,.string sep] w λe w'=>e = .returned (.string ⟨#[]⟩)/\w'=w
 Y4:∀ (bk o c:Nat) (xs:List ByteArray) (sep:ByteArray) (w:World),(∀ (j:Nat) x,xs[j]? = some x->w.cell? ⟨bk,o+j,none⟩=some (.string x))->bk<w.heap.size->xs.length<=140737488355328->xs.length<=c->
  (uG sep.data.toList (xs.map (·.data.toList))).length<=140737488355328->Calls P f #[.slice (some ⟨bk,o,none⟩) xs.length c,.string sep] w λe w'=>e = .returned (.string ⟨(uG sep.data.toList (xs.map (·.data.toList))).toArray⟩)/\Below w.heap.size w w'
theorem IS.nat {P:Program} {f:FuncId} (hj:IS P f):vZ P f J7:=λargs H k h=>by
 obtain ⟨x,sl,sn,rfl,hs,h1⟩:=NP h
 obtain ⟨fn,c,hf,hb,hn⟩:=hj.RY
 have empty:∀ (x:V),(∀ m cv,VR m x cv->∃ a c,cv = .slice a 0 c)->iu P f [x,.str sl sn] H (.str 0 0) H:=λx hx=>
  iu.pN hf hb hn λbase w0 rho w cargs hp hv=>by
   simp only [cm]at hv
   obtain ⟨c1,r1,e1,v1,c2,r2,rfl,v2,rfl⟩:=hv
   obtain ⟨a,cp,rfl⟩:=hx _ _ v1
   simp only [VR]at v2
   obtain ⟨rfl,_⟩:=v2
   have hc:cargs = #[.slice a 0 cp,.string ⟨(aB sl sn).toArray⟩]:=by apply Array.ext';exact e1
   subst hc
   refine ⟨.string ⟨#[]⟩,by simp only [VR];exact ⟨rfl,by decide⟩,(hj.Ay a cp _ w).mono ?_⟩
   rintro e w' ⟨rfl,rfl⟩
   exact ⟨rfl,Below.refl _ _⟩
 rcases fP h1 with ⟨b,o,n,cp,sz,rfl,h2⟩|⟨rfl,h2⟩
 .obtain ⟨h3,h4⟩:=aQ h2
  rcases bP h4 with ⟨h5,h6⟩|⟨h5,h6⟩
  .have:=cI h5
   subst this
   exact ⟨_,H,empty _ (λm cv hv=>by simp only [VR]at hv;obtain ⟨c,cap,o',sp,rfl,_⟩:=hv;exact ⟨_,_,rfl⟩),h6⟩
  .obtain ⟨row,h7,h8,h9⟩:=pD h6
   have hn0:n≠0:=by
    rintro rfl
    cases h5
   obtain ⟨xs,h10,tl,tn,h11,h12⟩:=Gy hs h9
   obtain ⟨h13,h14⟩:=aQ h11
   have htl:=cA h13
   have hlen:xs.length=n:=by
    have:=congrArg List.length h10
    simp at this
    omega
   refine ⟨_,H,iu.pN hf hb hn λbase w0 rho w cargs hp hv=>?_,h14⟩
   simp only [cm]at hv
   obtain ⟨c1,r1,e1,v1,c2,r2,rfl,v2,rfl⟩:=hv
   simp only [VR]at v1 v2
   obtain ⟨c,cap,o',sp,rfl,hm,hcap,hcp,ho⟩:=v1
   obtain ⟨rfl,_⟩:=v2
   obtain ⟨rfl,rfl⟩:o'=o/\sp=none:=by
    rcases ho with h|h
    .exact h
    .omega
   have hc:cargs = #[.slice (some ⟨c,o',none⟩) n cap,.string ⟨(aB sl sn).toArray⟩]:=by apply Array.ext';exact e1
   subst hc
   have hrho:=hp.lX hm h7
   have hcell:∀ j p,xs[j]? = some p->∃ cv,w.cell? ⟨c,o'+j,none⟩=some cv/\VR (mu rho H w) (.str p.1 p.2) cv:=λj p hj=>by
    have hrow:row[o'+j]? = some (.str p.1 p.2):=by
     have h15:((row.drop o').take n)[j]? = some (.str p.1 p.2):=by rw [h10,Yg,hj];rfl
     rw [List.getElem?_take]at h15
     split at h15
     .simpa using h15
     .cases h15
    obtain ⟨cv,g1,g2,_⟩:=hp.cell hrho h7 hrow
    exact ⟨cv,g1,g2⟩
   have hok:∀ p ∈ xs,p.2<256 ^ p.1:=λp hp'=>by
    obtain ⟨j,hj,rfl⟩:=List.mem_iff_getElem.1 hp'
    obtain ⟨cv,_,g2⟩:=hcell j _ (YA hj)
    simp only [VR]at g2
    exact g2.2
   obtain ⟨h16,h17⟩:=h12 hok
   have hmap:((xs.map λp=>(⟨(aB p.1 p.2).toArray⟩:ByteArray)).map (·.data.toList))=xs.map λp=>aB p.1 p.2:=by
    rw [List.map_map]
    exact List.map_congr_left λp _=>rfl
   have hcall:=hj.Y4 c o' cap (xs.map λp=>(⟨(aB p.1 p.2).toArray⟩:ByteArray)) ⟨(aB sl sn).toArray⟩ w (λj x hx=>by
    rw [Yg]at hx
    obtain ⟨p,hp',rfl⟩:=Option.map_eq_some_iff.1 hx
    obtain ⟨cv,g1,g2⟩:=hcell j p hp'
    simp only [VR]at g2
    rw [g1,g2.1]) (hp.jP _ _ hrho).2.2.1 (by rw [Ys,hlen];have:=cA h3;omega) (by rw [Ys,hlen];exact hcap) (by rw [hmap,<- h16,aK];omega)
   rw [hmap,<- h16,Ys,hlen]at hcall
   exact ⟨_,by simp only [VR];exact ⟨trivial,h17⟩,hcall⟩
 .exact ⟨_,H,empty _ (λm cv hv=>by simp only [VR]at hv;exact ⟨_,_,hv⟩),h2⟩
theorem iZ.base {P:Program} (h:(P.funcs.toList.all λfn=>!(fn.name == "runtime.NumGoroutine"))=true):iZ P (λf=>(P.funcs[f]?).bind (jz P f)):=λf fe hf=>by
 obtain ⟨fn,h1,h2⟩:=Option.bind_eq_some_iff.1 hf
 refine YG ⟨fn,h1,?_,h2⟩
 have hm:fn ∈ P.funcs.toList:=by
  rw [<- Yw]at h1
  exact YS h1
 have:=WR.1 h fn hm
 simpa using this
theorem iZ.nat {P:Program} {t:Nat->Option cP} {n:Nat} {g:List V->Heap->K->R} (hg:vZ P n g) (ht:iZ P t):iZ P (λf=>Bool.rec (motive:=λ_=>Option cP) (t f) (some (.nat g)) (YM f n)):=λf fe hf=>by
 replace hf:Bool.rec (motive:=λ_=>Option cP) (t f) (some (.nat g)) (YM f n)=some fe:=hf
 cases hb:YM f n with
 | false=>rw [hb]at hf;exact ht f fe hf
 | true=>
  rw [hb]at hf
  obtain rfl:=cI hb
  cases hf
  exact YE ⟨g,rfl,hg⟩
end Go.Ev
end
section
namespace Go.Ev
open Go.RowKit
end Go.Ev
end

