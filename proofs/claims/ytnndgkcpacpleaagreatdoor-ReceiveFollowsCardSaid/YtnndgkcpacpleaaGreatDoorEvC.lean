/- EvC: a part of the evaluator,of its logic,or of the laws' walk in it. -/
import Derived.Test.YtnndgkcpacpleaaGreatDoorEvB
import Derived.OrdersIn
open Nat renaming le_refl → YB,lt_of_lt_of_le → YD,ble → YX,add → Yd,zero_le → Yf,lt_or_ge → Yh,mul → Yj,le_trans → Yr,shiftLeft → Yt,blt → Yx,strongRecOn → Qy,lt_succ_self → YC1,lt_succ_of_lt → YG3,min → YK2
open Or renaming inr → YE,inl → YG
open List renaming mem_cons_of_mem → YI,mem_cons_self → YJ,mem_cons → Yb,getElem?_map → Yg,all_eq_true → WR,mem_zipIdx_iff_getElem? → WT,getElem?_cons_zero → We,mem_append_left → QC,foldl_cons → Qa
open Array renaming getElem?_eq_some_iff → YN,getElem?_eq_getElem → Ya,getD_eq_getD_getElem? → Yk,getElem?_toList → Yw,foldl_toList → YA1
open Bool renaming false_eq_true → YT,and_eq_true → Yz,or_eq_false_iff → QB,or_eq_true → YJ1
open Option renaming map_eq_some_iff → Ye,getD_some → Yl,bind_some → YC0
set_option linter.unusedVariables false
set_option linter.unusedSimpArgs false
set_option linter.unusedSectionVars false
section
namespace Go.Ev
open Go.RowKit
section
variable {P:Program} {nt:Nat} {o:Oper} {id:Nat} {ph:cU} {e:Env} {H:Heap} {k:K}
theorem VA {a b} {f} (h:NN a b f=1):f (YK2 a b)=1:=by
 rcases bP h with ⟨h1,h2⟩|⟨h1,h2⟩
 .simp_all
 .have:¬ a<=b:=λhle=>by rw [Nat.ble_eq_true_of_le hle]at h1;cases h1
  grind
theorem abh {asL} {ts} (hop:o.op = .call {callee:=.builtin .copy,args:=asL,argTypes:=ts }) (h:aL (ai P nt o) id ph e H k=1):Good P nt o e H k:=by
 simp only [ai,hop,dg]at h
 have hnd:∀ c,o.op ≠ .defer c:=by simp [hop]
 split at h
 .rename_i d s t tr hx hts
  obtain ⟨p,q,rfl,hp',hq'⟩:=Ea hx
  have hts':ts[0]? = some t:=by rw [<- Yw,hts];rfl
  split at h
  .rename_i el hel
   split at h
   .rename_i size hs
    obtain ⟨i,hi,hisz⟩:∃ i,P.info? el=some i/\i.size=size:=by
     unfold qI at hs
     simp only [Ye]at hs
     omega
    have hsz:∀ w,(sizeOf el).run P w = .ok size w:=λw=>by simp [sizeOf,typeInfo,hi,hisz]
    have h':Re size d s id ph e H k=1:=h
    unfold Re at h'
    rw [aq,aq]at h'
    have key:∀ (v) (H'),(∀ (base) (w0) (rho) (w) (cs cx),PR P base w0 rho H w->VR (mu rho H w) (ay d e) cs->VR (mu rho H w) (ay s e) cx->∃ cv w',(Builtin.copy_ ts o.type #[cs,cx]).run P w = .ok cv w'/\Left P base w0 rho H w v H' cv w')->fq P nt o e H v H':=λv H' hh=>
     fq.of_run hnd λbase w0 rho w a hp ho=>by
      obtain ⟨cv,w',h1,h2⟩:=hh base w0 rho w _ _ hp (ho p (by simp [hop,Op.operands,Call.operands]) d hp') (ho q (by simp [hop,Op.operands,Call.operands]) s hq')
      refine ⟨cv,w',?_,h2⟩
      rw [fH hop a.eval]
      simp [builtin,h1]
    rcases fP h' with ⟨b,off,dl,cp,sz,hsv,h1⟩|⟨hsv,h1⟩
    .obtain ⟨sl,h2,hlen⟩:=Sm h1
     have h3:=VA h2
     obtain ⟨n0,l,h4,hN⟩:=pJ h3
     obtain ⟨h5,h6⟩:=kW h4
     have hrun:∀ {base} {w0 w} {rho} {cx} (c o' cap) (sp),PR P base w0 rho H w->VR (mu rho H w) (ay s e) cx->∃ cl:List Value,cm (mu rho H w) (l.take (YK2 sl dl*size)) cl/\∀ w',(storeCells ⟨c,o',sp⟩ cl 0).run P w = .ok () w'->(Builtin.copy_ ts o.type #[.slice (some ⟨c,o',sp⟩) dl cap,cx]).run P w = .ok (.int .i64 (YK2 sl dl)) w':=by
      intro base w0 w rho cx c o' cap sp hp vx
      have e1:=hlen _ _ vx w
      have e2:=hN.1 _ _ vx w
      rw [e1]at e2
      cases e2
      obtain ⟨hll,h7⟩:=hN.2 hp vx
      obtain ⟨cl,g1,g2⟩:=h7 (YK2 sl dl) (Nat.min_le_left _ _)
      exact ⟨cl,g2,λw' hw'=>by simp [Builtin.copy_,hts',run_underlying (qy hel),e1,hsz,g1,hw',goInt]⟩
     cases hmin:YK2 sl dl with
     | zero=>
      rw [hmin]at h6
      have h7:=h6
      refine ⟨_,_,key _ _ λbase w0 rho w cs cx hp vs vx=>?_,h7⟩
      rw [hsv]at vs
      obtain ⟨c,cap,o',sp,rfl,hm,_⟩:=vs
      obtain ⟨cl,g1,g2⟩:=hrun c o' cap sp hp vx
      rw [hmin,Nat.zero_mul,List.take_zero]at g1
      subst g1
      refine ⟨_,w,g2 w rfl,rho,?_,hp,Ext.refl hp.lt⟩
      rw [hmin]
      exact pX (by omega)
     | succ m=>
      rw [hmin]at h6
      have h7:=h6
      obtain ⟨H',h8,h9⟩:=lG h7
      have hone:=yJ h7
      obtain ⟨hlt,h8⟩:=qo h8
      refine ⟨_,_,key _ _ λbase w0 rho w cs cx hp vs vx=>?_,h8⟩
      rw [hsv]at vs
      obtain ⟨c,cap,o',sp,rfl,hm,hle,hcp,ho'⟩:=vs
      obtain ⟨rfl,rfl⟩:o'=off/\sp=none:=by
       grind
      obtain ⟨cl,g1,g2⟩:=hrun c _ cap none hp vx
      rw [hmin]at g1
      obtain ⟨w',p1,p2,p3⟩:=h9 hp hm hone g1
      refine ⟨_,w',g2 w' p1,rho,?_,p2,p3⟩
      rw [hmin]
      exact pX hlt
    .obtain ⟨n0,l,h4,hN⟩:=pJ h1
     refine ⟨_,_,key _ _ λbase w0 rho w cs cx hp vs vx=>?_,h4⟩
     rw [hsv]at vs
     subst vs
     have e1:=hN.1 _ _ vx w
     obtain ⟨hll,h7⟩:=hN.2 hp vx
     obtain ⟨cl,g1,g2⟩:=h7 0 (Yf _)
     have hm0:YK2 n0 0=0:=Nat.min_zero _
     exact ⟨_,w,by simp [Builtin.copy_,hts',run_underlying (qy hel),e1,hsz,g1],rho,pX (by omega),hp,Ext.refl hp.lt⟩
   .exact (av h).elim
  .exact (av h).elim
 .exact (av h).elim
end
end Go.Ev
end
section
namespace Go.Ev
open Go.RowKit
section
variable {P:Program} {nt:Nat} {o:Oper} {id:Nat} {ph:cU} {e:Env} {H:Heap} {k:K}
theorem tj (hc:ai P nt o = .bad) (h:aL (ai P nt o) id ph e H k=1):Good P nt o e H k:=by
 rw [hc]at h
 exact (av h).elim
theorem eH (hph:iY P ph) (h:aL (ai P nt o) id ph e H k=1):Good P nt o e H k:=by
 cases hop:o.op with
 | move x=>exact Tr (.inl hop) h
 | assign x=>exact Tr (.inr hop) h
 | pick c x y=>exact abk hop h
 | alloc t=>exact Xd hop h
 | box t x=>exact aeO hop h
 | build t ps=>exact Xf hop h
 | buildSlice t l ps=>exact CW hop h
 | insert t m x y=>exact uP (.inr hop) h
 | mapUpdate t m x y=>exact uP (.inl hop) h
 | load t x=>exact abi hop h
 | store t x y=>exact Xj hop h
 | nilCheck x=>exact abj hop h
 | binOp op xt x y yt=>exact Xe hop h
 | unOp op xt x=>exact abl hop h
 | convert s d x=>exact Om hop h
 | makeInterface t x=>exact vu hop h
 | typeAssert x xt t ok=>exact CX hop h
 | makeFunc f first caps=>
  cases f with
  | func f=>exact KQ hop h
  | _=>exact tj (by simp only [ai,hop]) h
 | makeMap t r=>
  cases r with
  | none=>exact Oo hop h
  | some r=>exact tj (by simp only [ai,hop]) h
 | makeSlice t l c=>exact HN hop h
 | slice t x lo hi mx=>exact Xi hop h
 | fieldAddr t x f=>exact HL hop h
 | field t x f=>exact Xg hop h
 | indexAddr t x i=>exact HM hop h
 | index t x i=>exact Xh hop h
 | lookup t m x ok=>exact Tq hop h
 | extract x i=>exact On hop h
 | call c=>
  obtain ⟨callee,asL,ts⟩:=c
  cases callee with
  | value x=>
   cases x with
   | func f=>exact KP hph hop h
   | tmp t=>exact Ol hph hop h
   | _=>exact tj (by simp only [ai,hop]) h
  | builtin b=>
   cases b with
   | len=>exact aeQ hop h
   | cap=>exact aeP hop h
   | append=>exact To hop h
   | copy=>exact abh hop h
   | delete=>exact Tp hop h
   | max=>exact aeR (mx:=true) hop h
   | min=>exact aeR (mx:=false) hop h
   | _=>exact tj (by simp only [ai,hop,dg]) h
  | _=>exact tj (by simp only [ai,hop]) h
 | _=>exact tj (by simp only [ai,hop]) h
end
end Go.Ev
end
section
namespace Go.Ev
open Go.RowKit
theorem kq {F} {n} {P} {o:Oper} {a} {w} {K K'} {Q} (h:o.wpIn F n P a w K (λ_ _ _=>False)) (hk:∀ a w,K a w->K' a w):o.wpIn F n P a w K' Q:=by
 refine ⟨h.1,?_⟩
 have h:=h.2
 generalize (o.semAt F.round a.eval).run P w=r at *
 cases r with
 | ok x w'=>
  cases x<;>simp only [Oper.uponIn]at h ⊢
  case value v=>simp_all
  case skip=>simp_all
  case defer d=>simp_all
  case enter f args=>
   refine ⟨h.1,CallsIn.mono h.2 λe w'' he=>?_⟩
   cases e with
   | returned u=>simp_all
   | panicked c=>simp_all
   | outgrown=>obtain ⟨_,_,h⟩:=he;simp_all
  case row row args=>exact ⟨h.1,RowsIn.mono h.2 λu w'' he=>hk _ _ he⟩
  case round l f tmps assign body=>
   refine ⟨h.1,RoundIn.mono h.2 λe w'' he=>?_⟩
   cases e with
   | returned u=>simp_all
   | panicked c=>simp_all
   | outgrown=>obtain ⟨_,_,h⟩:=he;simp_all
 | halt x w'=>
  cases x<;>simp only [Oper.uponIn]at h ⊢
theorem aaD {x} {b} {t f} (h:IM x b t f=1):(x = .bool b/\t=1)\/(x ≠ .bool b/\f=1):=by
 cases x<;>first|exact YE ⟨(by simp),h⟩|skip
 rename_i c
 cases c<;>cases b<;>first|exact YG ⟨rfl,h⟩|exact YE ⟨(by simp),h⟩
theorem Xu {m} {x} {b} (h:VR m x (.bool b)):x = .bool b:=by
 cases x<;>simp only [VR]at h<;>first|rfl|rfl|rfl|simp_all|rfl
theorem pY {m}:VR m (.cH []) undef:=by
 exact ⟨#[],rfl,by rfl⟩
def GT (nt:Nat) (m:M) (e:Env) (ops:Array Oper) (o:Oper) (tmps:Array Value):Prop:=∀ j b o' d,o.guard=some (j,b)->ops[j]? = some o'->o'.dst=some d->d<nt->∃ v,tmps[d]? = some v/\VR m (ae (bg d) e) v
def GW (nt:Nat) (e:Env) (ops:Array Oper) (o:Oper) (b:Bool):Prop:=∀ (m:M) (tmps:Array Value),GT nt m e ops o tmps->Region.wanted o (yielded ops tmps)=b
theorem TR.gt {m:M} {nt:Nat} {e:Env} {tmps:Array Value} (h:TR m nt e tmps) (ops:Array Oper) (o:Oper):GT nt m e ops o tmps:=λj b o' d _ _ _ hlt=>by
 have hs:=h.size
 have hlt':d<tmps.size:=by rw [hs];exact hlt
 exact ⟨_,Ya hlt',h.get d _ (Ya hlt')⟩
theorem tb {nt} {e} {ops} {o} {g} (hg:guardOf nt ops o.guard=some g) {t f} (h:ta g e t f=1):
 (t=1/\GW nt e ops o true)\/(f=1/\GW nt e ops o false):=by
 unfold guardOf at hg
 split at hg
 .rename_i hn
  cases hg
  exact YG ⟨h,λm tmps ht=>by simp [Region.wanted,hn]⟩
 .rename_i j b hn
  split at hg
  .rename_i o' ho'
   split at hg
   .rename_i d hd
    split at hg
    .rename_i hlt
     cases hg
     have h':ik (bg d) e (λv=>IM v b t f)=1:=h
     rw [dY]at h'
     rcases aaD h' with ⟨h1,h2⟩|⟨h1,h2⟩
     .refine YG ⟨h2,λm tmps ht=>?_⟩
      obtain ⟨c,hex,h3⟩:=ht j b o' d hn ho' hd hlt
      rw [h1]at h3
      simp only [VR]at h3
      simp [Region.wanted,hn,yielded,ho',hd,hex,h3]
     .refine YE ⟨h2,λm tmps ht=>?_⟩
      obtain ⟨c,hex,h3⟩:=ht j b o' d hn ho' hd hlt
      have h4:yielded ops tmps j≠some b:=by
       simp only [yielded,ho',YC0,hd,hex]
       split
       .rename_i c hc
        rw [Option.some.injEq]at hc
        rw [hc]at h3
        intro he
        cases he
        exact h1 (Xu h3)
       simp
      simp [Region.wanted,hn,h4]
    simp_all
   simp_all
  simp_all
def dJ (d:Option Slot) (v:V) (e:Env):Env:=match d with
 | none=>e
 | some s=>lk s v e
theorem cq (d) (v) (e) (k):bV d v e k=k (dJ d v e):=by
 cases d with
 | none=>rfl
 | some s=>exact sW s v e k
theorem rB {m} {nt} {e} {a:Act} (h:TR m nt e a.tmps) {dst} {d} (hd:sq nt dst=some d) {v} {c} (hv:VR m v c):TR m nt (dJ d v e) (a.put dst c).tmps:=by
 unfold sq at hd
 split at hd
 .cases hd;exact h
 .split at hd
  .rename_i hlt
   cases hd
   exact h.put hlt hv
  simp_all
theorem put_defers (a:Act) (dst) (c):(a.put dst c).defers=a.defers:=by cases dst<;>rfl
def RS (P:Program) (nt:Nat) (ops:Array Oper) (l:List Oper) (e:Env) (H:Heap) (e':Env) (H':Heap):Prop:=
 ∀ (rd:Option Nat) (base:Nat) (w0:World) (rho:Nat->Option Nat) (w:World) (a:Act),PR P base w0 rho H w->TR (mu rho H w) nt e a.tmps->
  ∀ (Q:Exit->Act->World->Prop),(∀ a' w' rho',a'.defers=a.defers->PR P base w0 rho' H' w'->TR (mu rho' H' w') nt e' a'.tmps->Ext rho H w rho' H' w'->Q .normal a' w')->wpListIn (WF rd) 0 P ops Q l a w
theorem xG {P} {nt} {ph} {ops} {base} {pl al} {bf} (hph:iY P ph):∀ (l) (i) (r) (e) (H) (k),dn P nt base ops pl al bf l i=some r->fJ ph r e H k=1->
 ∃ e' H',RS P nt ops l e H e' H'/\k e' H'=1
 | [],i,r,e,H,k,hc,h=>by
  simp only [dn,Option.some.injEq]at hc
  subst hc
  exact ⟨e,H,λrd base w0 rho w a hp ht Q hq=>hq a w rho rfl hp ht (Ext.refl hp.lt),h⟩
 | o :: l,i,r,e,H,k,hc,h=>by
  simp only [dn]at hc
  split at hc
  .rename_i d g r' hd hg hr
   cases hc
   have h':=h
   rcases tb hg h' with ⟨h1,h2⟩|⟨h1,h2⟩
   .obtain ⟨v,H1,h3,h4⟩:=eH hph h1
    replace h4:bV d v e (λe'=>fJ ph r' e' H1 k)=1:=h4
    rw [cq]at h4
    obtain ⟨e',H',h5,h6⟩:=xG hph l (i+1) r' _ _ k hr h4
    refine ⟨e',H',λrd base w0 rho w a hp ht Q hq=>?_,h6⟩
    simp only [wpListIn,h2 _ _ (ht.gt ops o),if_true]
    refine kq (h3 rd base w0 rho w a hp (ht.or o)) λa1 w1 hk=>?_
    obtain ⟨cv,rfl,rho1,v1,p1,x1⟩:=hk
    exact h5 rd base w0 rho1 w1 _ p1 (rB (ht.mono x1.mu) hd v1) Q λa' w' rho' q1 q2 q3 q4=>hq a' w' rho' (q1.trans (put_defers _ _ _)) q2 q3 (Ext.trans hp.lt x1 q4)
   .rw [cq]at h1
    obtain ⟨e',H',h5,h6⟩:=xG hph l (i+1) r' _ _ k hr h1
    refine ⟨e',H',λrd base w0 rho w a hp ht Q hq=>?_,h6⟩
    simp only [wpListIn,h2 _ _ (ht.gt ops o),YT,if_false]
    refine ⟨λ_ _=>trivial,?_⟩
    exact h5 rd base w0 rho w _ hp (rB ht hd pY) Q λa' w' rho' q1 q2 q3 q4=>hq a' w' rho' (q1.trans (put_defers _ _ _)) q2 q3 q4
  .cases hc
end Go.Ev
end
section
namespace Go.Ev
open Go.RowKit
def aC {α:Type} (f:(α->R)->R):Prop:=(∃ a,∀ k,f k=k a)\/∀ k,f k≠1
section
variable {α β:Type} {id:Nat}
theorem aC.ret (a:α):aC λk=>k a:=YG ⟨a,λ_=>rfl⟩
theorem aC.no (c:Nat):aC λ_:α->R=>no c:=YE λk h=>av h
theorem aC.bind {f:(β->R)->R} {g:β->(α->R)->R} (h:aC f) (hg:∀ b,aC (g b)):aC λk=>f λb=>g b k:=by
 rcases h with ⟨b,hb⟩|h
 .rcases hg b with ⟨a,ha⟩|h
  .exact YG ⟨a,λk=>(hb _).trans (ha k)⟩
  .exact YE λk=>by show f _≠1;rw [hb];exact h k
 .exact YE λk=>h _
theorem aC.aF {b:Bool} {f g:(α->R)->R} (hf:aC f) (hg:aC g):aC λk=>Ev.aF b (f k) (g k):=by
 cases b
 .exact hg
 .exact hf
theorem aC.aG {a:Arg} {e:Env} {g:V->(α->R)->R} (hg:∀ b,aC (g b)):aC λk=>Ev.aG a e λb=>g b k:=by
 simp only [aq];exact hg _
theorem aC.px {l:List Arg} {e:Env} {g:List V->(α->R)->R} (hg:∀ b,aC (g b)):aC λk=>Ev.px l e λb=>g b k:=by
 simp only [ia];exact hg _
theorem aC.au {n:Nat} {g:Nat->(α->R)->R} (hg:∀ b,aC (g b)):aC λk=>Ev.au n λb=>g b k:=by
 simp only [aw];exact hg _
theorem aC.cC {x:V} {g:Nat->Nat->(α->R)->R} (hg:∀ a b,aC (g a b)):aC λk=>Ev.cC id x λa b=>g a b k:=by
 cases x<;>first|exact YE λk h=>av h|exact hg _ _
theorem aC.eV {x:V} {g:Bool->(α->R)->R} (hg:∀ a,aC (g a)):aC λk=>Ev.eV id x λa=>g a k:=by
 cases x<;>first|exact YE λk h=>av h|exact hg _
theorem aC.ej {x:V} {g:Nat->Nat->(α->R)->R} (hg:∀ a b,aC (g a b)):aC λk=>Ev.ej id x λa b=>g a b k:=by
 cases x<;>first|exact YE λk h=>av h|exact hg _ _
theorem aC.dQ {x:V} {g:Nat->Nat->(α->R)->R} (hg:∀ a b,aC (g a b)):aC λk=>Ev.dQ id x λa b=>g a b k:=by
 cases x<;>first|exact YE λk h=>av h|exact hg _ _
theorem aC.lY {x:V} {g:Nat->Nat->Nat->Nat->Nat->(α->R)->R} (hg:∀ a b c d e,aC (g a b c d e)):aC λk=>Ev.lY id x λa b c d e=>g a b c d e k:=by
 cases x<;>first|exact YE λk h=>av h|exact hg _ _ _ _ _
theorem aC.bG {x:V} {g:Nat->Nat->Nat->Nat->Nat->(α->R)->R} {z:(α->R)->R} (hg:∀ a b c d e,aC (g a b c d e)) (hz:aC z):aC λk=>Ev.bG id x (λa b c d e=>g a b c d e k) (z k):=by
 cases x<;>first|exact YE λk h=>av h|exact hg _ _ _ _ _|exact hz
theorem aC.iS {x:V} {g:List V->(α->R)->R} (hg:∀ a,aC (g a)):aC λk=>Ev.iS id x λa=>g a k:=by
 cases x<;>first|exact YE λk h=>av h|exact hg _
theorem aC.zO {x:V} {g:List V->(α->R)->R} (hg:∀ a,aC (g a)):aC λk=>Ev.zO id x λa=>g a k:=by
 cases x<;>first|exact YE λk h=>av h|exact hg _
theorem aC.dO {x:V} {g:List V->(α->R)->R} (hg:∀ a,aC (g a)):aC λk=>Ev.dO id x λa=>g a k:=by
 cases x<;>first|exact hg _|exact YE λk h=>av h
theorem aC.vIf {t:Nat} {x:V} {g:V->(α->R)->R} (hg:∀ a,aC (g a)):aC λk=>Ev.vIf id t x λa=>g a k:=by
 cases x<;>first|exact YE λk h=>av h|exact aC.aF (hg _) (aC.no 0)
theorem Ot {x}:aC (gh id x):=by
 cases x<;>first|exact YE λk h=>av h|exact YG ⟨_,λ_=>rfl⟩|skip
 rename_i b
 cases b<;>exact YG ⟨_,λ_=>rfl⟩
theorem aC.gh {x:V} {g:Nat->(α->R)->R} (hg:∀ a,aC (g a)):aC λk=>Ev.gh id x λa=>g a k:=aC.bind Ot hg
theorem vV:∀ (l) (i),aC (nth id l i)
 | [],i=>YE λk h=>av h
 | v :: l,0=>YG ⟨v,λ_=>rfl⟩
 | v :: l,i+1=>vV l i
theorem aC.nth {l:List V} {i:Nat} {g:V->(α->R)->R} (hg:∀ a,aC (g a)):aC λk=>Ev.nth id l i λa=>g a k:=aC.bind (vV l i) hg
theorem kj:∀ (l) (i),aC (takeN id l i)
 | [],0=>YG ⟨[],λ_=>rfl⟩
 | [],_+1=>YE λk h=>av h
 | v :: l,0=>YG ⟨[],λ_=>rfl⟩
 | v :: l,i+1=>aC.bind (g:=λr k=>k (v :: r)) (kj l i) λr=>aC.ret _
theorem aC.takeN {l:List V} {i:Nat} {g:List V->(α->R)->R} (hg:∀ a,aC (g a)):aC λk=>Ev.takeN id l i λa=>g a k:=aC.bind (kj l i) hg
theorem kh:∀ (l) (i),aC (fI id l i)
 | [],0=>YG ⟨[],λ_=>rfl⟩
 | [],_+1=>YE λk h=>av h
 | v :: l,0=>YG ⟨v :: l,λ_=>rfl⟩
 | v :: l,i+1=>kh l i
theorem aC.fI {l:List V} {i:Nat} {g:List V->(α->R)->R} (hg:∀ a,aC (g a)):aC λk=>Ev.fI id l i λa=>g a k:=aC.bind (kh l i) hg
theorem yG:∀ (m l),aC (over id m l)
 | [],l=>YG ⟨l,λ_=>rfl⟩
 | x :: m,[]=>YE λk h=>av h
 | x :: m,y :: l=>aC.bind (g:=λr k=>k (x :: r)) (yG m l) λr=>aC.ret _
theorem uf {m}:∀ (l) (i),aC (setAt id m l i)
 | [],0=>yG (id:=id) m []
 | [],_+1=>YE λk h=>av h
 | v :: l,0=>yG (id:=id) m (v :: l)
 | v :: l,i+1=>aC.bind (g:=λr k=>k (v :: r)) (uf l i) λr=>aC.ret _
theorem aC.gS {x:Option Arg} {e:Env} {d:Nat} {g:Nat->(α->R)->R} (hg:∀ a,aC (g a)):aC λk=>Ev.gS id x e d λa=>g a k:=by
 cases x with
 | none=>exact hg d
 | some a=>exact aC.aG λv=>aC.cC λkd n=>aC.aF (aC.aF (hg n) (aC.no 0)) (aC.no 0)
theorem aC.idx {i:Arg} {e:Env} {len:Nat} {g:Nat->(α->R)->R} (hg:∀ a,aC (g a)):aC λk=>Ev.idx id i e len λa=>g a k:=
 aC.aG λv=>aC.cC λkd n=>aC.aF (aC.aF (aC.aF (hg n) (aC.no 0)) (aC.no 0)) (aC.no 0)
theorem A7 {e}:∀ (ps) (z),aC (kJ id e ps z)
 | [],z=>YG ⟨z,λ_=>rfl⟩
 | (off,size,a):: ps,z=>aC.aG λv=>aC.dO λl=>aC.aF (aC.bind (uf z off) λz'=>A7 ps z') (aC.no 0)
end
theorem Tz {id} (f) (a b):aC (kE id f a b):=by
 cases f<;>first
  | exact aC.au λn=>aC.ret n
  | exact aC.aF (aC.au λn=>aC.ret n) (aC.aF (aC.ret 0) (aC.no 0))
  | exact aC.aF (aC.aF (aC.au λn=>aC.ret n) (aC.aF (aC.ret 0) (aC.no 0))) (aC.no 0)
  | exact aC.aF (aC.aF (aC.aF (aC.no 0) (aC.au λn=>aC.ret n)) (aC.no 0)) (aC.no 0)
  | exact aC.aF (aC.aF (aC.aF (aC.no 0) (aC.au λn=>aC.ret n)) (aC.no 0)) (aC.aF (aC.aF (aC.no 0) (aC.au λn=>aC.ret n)) (aC.no 0))
theorem aC.kE {α:Type} {id:Nat} {f:BF} {a b:Nat} {g:Nat->(α->R)->R} (hg:∀ a,aC (g a)):aC λk=>Ev.kE id f a b λa=>g a k:=aC.bind (Tz f a b) hg
theorem aC.kJ {α:Type} {id:Nat} {e:Env} {ps:List (Nat × Nat × Arg)} {z:List V} {g:List V->(α->R)->R} (hg:∀ a,aC (g a)):aC λk=>Ev.kJ id e ps z λa=>g a k:=aC.bind (A7 ps z) hg
theorem KW {id} (c) (x y):aC (J2 id c x y):=by
 match c with
 | 0=>exact aC.eV (id:=id) λa=>aC.eV λb=>aC.aF (aC.ret b) (aC.aF (aC.ret false) (aC.ret true))
 | 1=>exact aC.cC (id:=id) λk1 a=>aC.cC λk2 b=>aC.aF (aC.ret _) (aC.no 0)
 | c+2=>exact aC.ej (id:=id) λl1 a=>aC.ej λl2 b=>aC.aF (aC.ret _) (aC.ret false)
theorem Ie {id}:∀ (cls) (l m),aC (jj id cls l m)
 | [],l,m=>YG ⟨true,λ_=>rfl⟩
 | c :: cls,[],m=>YE λk h=>av h
 | c :: cls,a :: l,[]=>YE λk h=>av h
 | c :: cls,a :: l,b :: m=>aC.bind (g:=λr k=>Ev.aF r (jj id cls l m k) (k false)) (KW c a b) λr=>aC.aF (Ie cls l m) (aC.ret false)
theorem aC.jj {α:Type} {id:Nat} {cls:List Nat} {l m:List V} {g:Bool->(α->R)->R} (hg:∀ a,aC (g a)):aC λk=>Ev.jj id cls l m λa=>g a k:=aC.bind (Ie cls l m) hg
theorem TA {P:Program} {nt:Nat} {c} {id} {ph} {e} (hp:bK c=true) (H):aC λk:V->R=>aL c id ph e H λv _=>k v:=by
 cases c<;>simp only [bK,YT]at hp
 case kN x=>exact aC.aG λv=>aC.ret v
 case gf cls neg x y=>exact aC.aG λx=>aC.iS λl=>aC.aG λy=>aC.iS λm=>aC.aF (aC.aF (aC.jj λb=>aC.aF (aC.aF (aC.ret _) (aC.ret _)) (aC.ret _)) (aC.no 0)) (aC.no 0)
 case pick c x y=>exact aC.aG λc=>aC.eV λb=>aC.aF (aC.aG λv=>aC.ret v) (aC.aG λv=>aC.ret v)
 case build z ps=>exact aC.kJ λl=>aC.ret _
 case Kc x=>
  refine aC.aG λv=>?_
  cases v<;>first|exact aC.ret _|exact aC.no 0
 case bin=>exact aC.aG λx=>aC.cC λk1 a=>aC.aG λy=>aC.cC λk2 b=>aC.aF (aC.aF (aC.kE λr=>aC.ret _) (aC.no 0)) (aC.no 0)
 case cmp=>exact aC.aG λx=>aC.cC λk1 a=>aC.aG λy=>aC.cC λk2 b=>aC.aF (aC.aF (aC.aF (aC.ret _) (aC.ret _)) (aC.no 0)) (aC.no 0)
 case Ts=>exact aC.aG λx=>aC.ej λk1 a=>aC.aG λy=>aC.ej λk2 b=>aC.au λl=>aC.aF (aC.au λn=>aC.ret _) (aC.no 0)
 case KU=>exact aC.aG λx=>aC.ej λk1 a=>aC.aG λy=>aC.ej λk2 b=>aC.aF (aC.aF (aC.aF (aC.ret _) (aC.ret _)) (aC.ret _)) (aC.ret _)
 case eqv=>exact aC.aG λx=>aC.gh λa=>aC.aG λy=>aC.gh λb=>aC.aF (aC.aF (aC.aF (aC.aF (aC.no 0) (aC.aF (aC.ret _) (aC.ret _))) (aC.ret _)) (aC.no 0)) (aC.no 0)
 case J3=>exact aC.aG λx=>aC.eV λb=>aC.aF (aC.ret _) (aC.ret _)
 case EM src dst mode c x=>
  refine aC.aG λv=>?_
  cases mode with
  | zero=>exact aC.cC λk1 a=>aC.aF (aC.au λr=>aC.ret _) (aC.no 0)
  | succ m=>exact aC.cC λk1 a=>aC.aF (aC.aF (aC.ret _) (aC.au λr=>aC.ret _)) (aC.no 0)
 case mkI=>exact aC.aG λv=>aC.ret _
 case tas=>exact aC.aG λv=>aC.vIf λu=>aC.ret _
 case Su=>exact aC.px λv=>aC.ret _
 case slS=>exact aC.aG λx=>aC.ej λlen n=>aC.gS λh=>aC.gS λl=>aC.aF (aC.aF (aC.au λd=>aC.au λr=>aC.ret _) (aC.no 0)) (aC.no 0)
 case slV size x lo hi mx=>
  refine aC.aG λv=>?_
  cases mx with
  | none=>
   exact aC.bG (λb o len cp sz=>by
    cases cp with
    | zero=>exact aC.gS λl=>aC.gS λh=>aC.aF (aC.au λd=>aC.aF (aC.aF (aC.au λo'=>aC.ret _) (aC.no 0)) (aC.no 0)) (aC.no 0)
    | succ q=>exact aC.gS λl=>aC.gS λh=>aC.aF (aC.au λd=>aC.aF (aC.aF (aC.ret _) (aC.au λo'=>aC.au λc'=>aC.ret _)) (aC.no 0)) (aC.no 0)) (aC.gS λl=>aC.gS λh=>aC.gS λm=>aC.aF (aC.aF (aC.aF (aC.ret _) (aC.no 0)) (aC.no 0)) (aC.no 0))
  | some m=>
   exact aC.bG (λb o len cp sz=>aC.gS λl=>aC.gS λh=>aC.aF (aC.au λd=>aC.gS λm=>aC.aF (aC.aF (aC.aF (aC.ret _) (aC.au λo'=>aC.au λc'=>aC.ret _)) (aC.no 0)) (aC.no 0)) (aC.no 0)) (aC.gS λl=>aC.gS λh=>aC.gS λm=>aC.aF (aC.aF (aC.aF (aC.ret _) (aC.no 0)) (aC.no 0)) (aC.no 0))
 case slA=>exact aC.aG λx=>aC.dQ λb o=>aC.gS λm=>aC.gS λh=>aC.gS λl=>aC.aF (aC.aF (aC.aF (aC.au λd=>aC.aF (aC.ret _) (aC.au λo'=>aC.au λc'=>aC.ret _)) (aC.no 0)) (aC.no 0)) (aC.no 0)
 case fZ=>exact aC.aG λx=>aC.dQ λb o=>aC.au λo'=>aC.ret _
 case RN=>exact aC.aG λx=>aC.iS λl=>aC.nth λv=>aC.ret _
 case RO=>exact aC.aG λx=>aC.iS λl=>aC.fI λr=>aC.takeN λq=>aC.ret _
 case ixA=>exact aC.aG λx=>aC.dQ λb o=>aC.idx λn=>aC.au λo'=>aC.ret _
 case xR=>exact aC.aG λx=>aC.lY λb o _ _ _=>aC.idx λn=>aC.au λo'=>aC.ret _
 case ixS=>exact aC.aG λx=>aC.ej λb o=>aC.idx λn=>aC.au λo'=>aC.ret _
 case ixG=>exact aC.aG λx=>aC.iS λl=>aC.idx λn=>aC.aF (aC.fI λr=>aC.takeN λq=>aC.ret _) (aC.nth λv=>aC.ret _)
 case RH=>exact aC.aG λx=>aC.zO λl=>aC.nth λv=>aC.ret _
theorem tY {c} {id} {ph} {e} (hp:bK c=true) (H H2) (k):aL c id ph e H k=aL c id ph e H2 λv _=>k v H:=by
 cases c<;>simp only [bK,YT]at hp<;>rfl
theorem yr {P} {nt} {o} {id} {ph} {e} {H} {k} (hph:iY P ph) (hp:bK (ai P nt o)=true) (h:aL (ai P nt o) id ph e H k=1):∃ v,(∀ H2,fq P nt o e H2 v H2)/\k v H=1:=by
 rcases TA (P:=P) (nt:=nt) hp H with ⟨v,hv⟩|hv
 .have hv':∀ k:V->R,(aL (ai P nt o) id ph e H λv _=>k v)=k v:=hv
  refine ⟨v,λH2=>?_,?_⟩
  .classical
   have h2:aL (ai P nt o) id ph e H2 (λv' H'=>if v'=v/\H'=H2 then 1 else 0)=1:=by
    rw [tY hp H2 H]
    simp_all
   obtain ⟨v',H',h3,h4⟩:=eH hph h2
   simp_all
  .rw [tY hp H H]at h
   simp_all
 .rw [tY hp H H]at h
  simp_all
end Go.Ev
end
section
namespace Go.Ev
open Go.RowKit
def gW (P:Program) (nt:Nat) (ops:Array Oper) (iso pur:Bool) (B:Option Nat) (o:Oper) (e:Env) (H:Heap) (v:V) (e':Env) (H':Heap):Prop:=
 ∃ d,sq nt o.dst=some d/\e'=dJ d v e/\
  ((GW nt e ops o false/\v = .cH []/\H'=H)\/
   (GW nt e ops o true/\pur=true/\H'=H/\∀ H2:Heap,(∀ b,B=some b->H2.get b=H.get b)->fq P nt o e H2 v H2)\/
   (GW nt e ops o true/\pur=false/\iso=true/\fq P nt o e H v H')\/
   (GW nt e ops o true/\pur=false/\iso=false/\∃ H1 H1':Heap,H1.n=H.n/\(∀ b,H1.get b=H.get b)/\H1.bz=H.n/\fq P nt o e H1 v H1'/\H.n<=H1'.bz/\H'.n=H1'.n/\(∀ b,H'.get b=H1'.get b)/\H'.bz=H.bz))
def qV (P:Program) (nt:Nat) (e:Env) (o:Oper) (H:Heap) (v:V) (H':Heap):Prop:=∃ (bl:eK),v = .ptr H.n 0/\oE H bl H'/\bl.alive/\bl ≠ .mark/\∀ (m:M) (a:Act),OR m nt e a o->∃ ob:Obj,(∀ m,BR P m bl ob)/\
 ∀ (rd:Option Nat) (w:World),o.wpIn (WF rd) 0 P a w (λa' w'=>a'=a.put o.dst (.pointer (some ⟨w.heap.size,0,none⟩))/\w'=w.alloc ob) (λ_ _ _=>False)
theorem qV.ops {P:Program} {nt:Nat} {o:Oper} {e:Env} {H H':Heap} {v:V} (h:qV P nt e o H v H'):fq P nt o e H v H':=λrd base w0 rho w a hp ho=>by
 obtain ⟨bl,rfl,hN,ha,hm,hx⟩:=h
 obtain ⟨ob,hb,hx⟩:=hx _ a ho
 refine kq (hx rd w) λa' w' hk=>?_
 obtain ⟨rfl,rfl⟩:=hk
 obtain ⟨p1,p2⟩:=hp.alloc (w':=w.alloc ob) (o:=ob) hN.n hN.bz hN.get hN.vU ha ⟨rfl,rfl,rfl⟩ (by simp) (World.alloc_heap_new w _) (λj hj=>Below.heap_alloc _ _ _ hj) (hb _)
 exact ⟨_,rfl,_,by simp only [VR];exact ⟨_,rfl,by rw [hN.n];omega,λ_=>by simp⟩,p1,p2⟩
theorem UI {P} {op} {t} {c} {x y}:lh (je P op t c x y)=false:=by
 unfold je
 (repeat' split)<;>rfl
theorem Zx {k} {op} {x y}:lh (nS k op x y)=false:=by
 unfold nS
 (repeat' split)<;>rfl
theorem Zw {P} {op} {xt yt} {x y}:lh (qe P op xt yt x y)=false:=by
 unfold qe mj mn
 (repeat' split)<;>first|rfl|exact Zx|exact UI
theorem UJ {k k'} {x}:lh (tK k k' x)=false:=by
 unfold tK
 (repeat' split)<;>rfl
theorem I7 {P} {nt} {b} {asL} {ts}:lh (dg P nt b asL ts)=false:=by
 unfold dg
 (repeat' split)<;>rfl
theorem ab5 {P} {nt} {o} {id} {ph} {e} {H} {k} (hal:lh (ai P nt o)=true) (h:aL (ai P nt o) id ph e H k=1):∃ v H',qV P nt e o H v H'/\k v H'=1:=by
 have hop:∃ t,o.op = .alloc t:=by
  unfold ai at hal
  split at hal<;>first
   | grind
   | (revert hal; (repeat' split)<;>first | (rw [Zw];simp) | (rw [UJ];simp) | (rw [I7];simp) | simp [lh])
 obtain ⟨t,hop⟩:=hop
 simp only [ai,hop]at h
 have hnd:∀ c,o.op ≠ .defer c:=by simp [hop]
 have key:∀ (z) (bl),qU P t=some z->rowOf bl=some z->(∀ len n,bl = .bytes len n->n<256 ^ len)->bl ≠ .mark->(cB H bl λn H=>k (.ptr n 0) H)=1->∃ v H',qV P nt e o H v H'/\k v H'=1:=by
  intro z bl hz hrow hcan hmk h'
  obtain ⟨H',h1,h2⟩:=dH h'
  obtain ⟨i,zv,hi,hzv,hvr,hone⟩:=mS hz
  refine ⟨_,H',⟨bl,rfl,h2,(gO hrow).1,hmk,λm a _=>⟨.cells zv.cells t,λm=>lZ hrow hcan (ju.exact (hvr _) hone),λrd w=>⟨iD P o a w rd,?_⟩⟩⟩,h1⟩
  rw [semAt_eq hnd]
  have hex:(execOp a.eval o).run P w = .ok (.value (.pointer (some ⟨w.heap.size,0,none⟩))) (w.alloc (.cells zv.cells t)):=by
   simp [execOp,hop,Instr.alloc,zeroValue,typeInfo,hi,hzv,newVar,newRow]
  rw [hex]
  exact ⟨rfl,rfl⟩
 split at h
 .rename_i z n el hz hu
  split at h
  .rename_i hc
   simp only [Yz,beq_iff_eq]at hc
   have hzz:=MI hc.1
   rw [hc.2]at hzz
   exact key z (.bytes n 0) hz (by rw [hzz];rfl) (λlen m e=>by grind) (by simp) h
  .exact key z (.cells z) hz rfl (λlen m e=>by cases e) (by simp) h
 .exact key _ (.cells _) (by omega) rfl (λlen m e=>by cases e) (by simp) h
 .exact (av h).elim
def pI {α:Type} (a:α) (f:Nat->α):Nat->α
 | 0=>a
 | j+1=>f j
theorem Ar {P} {nt} {ph} {ops} {base} {pl al} {bf} (hph:iY P ph):∀ (l) (i) (r) (e) (H) (k),dn P nt base ops pl al bf l i=some r->bO ph r e H k=1->
 ∃ (E:Nat->Env) (Hh:Nat->Heap) (Vv:Nat->V),E 0=e/\Hh 0=H/\(∀ j o,l[j]? = some o->gW P nt ops (dy pl al bf (i+j)) (bK (ai P nt o)) none o (E j) (Hh j) (Vv j) (E (j+1)) (Hh (j+1)))/\(∀ j o,l[j]? = some o->lh (ai P nt o)=true->dy pl al bf (i+j)=false->(GW nt (E j) ops o false/\Vv j = .cH []/\Hh (j+1)=Hh j)\/qV P nt (E j) o (Hh j) (Vv j) (Hh (j+1)))/\k (E l.length) (Hh l.length)=1
 | [],i,r,e,H,k,hc,h=>by
  simp only [dn,Option.some.injEq]at hc
  subst hc
  exact ⟨λ_=>e,λ_=>H,λ_=>.pK,rfl,rfl,λj o hj=>by simp at hj,λj o hj=>by simp at hj,h⟩
 | o :: l,i,r,e,H,k,hc,h=>by
  simp only [dn]at hc
  split at hc
  .rename_i d g r' hd hg hr
   cases hc
   have fin:∀ (v) (H1),gW P nt ops (dy pl al bf i) (bK (ai P nt o)) none o e H v (dJ d v e) H1->(lh (ai P nt o)=true->dy pl al bf i=false->(GW nt e ops o false/\v = .cH []/\H1=H)\/qV P nt e o H v H1)->bO ph r' (dJ d v e) H1 k=1->∃ (E:Nat->Env) (Hh:Nat->Heap) (Vv:Nat->V),E 0=e/\Hh 0=H/\(∀ j o',(o :: l)[j]? = some o'->gW P nt ops (dy pl al bf (i+j)) (bK (ai P nt o')) none o' (E j) (Hh j) (Vv j) (E (j+1)) (Hh (j+1)))/\(∀ j o',(o :: l)[j]? = some o'->lh (ai P nt o')=true->dy pl al bf (i+j)=false->(GW nt (E j) ops o' false/\Vv j = .cH []/\Hh (j+1)=Hh j)\/qV P nt (E j) o' (Hh j) (Vv j) (Hh (j+1)))/\k (E (o :: l).length) (Hh (o :: l).length)=1:=λv H1 hs ha hev=>by
    obtain ⟨E,Hh,Vv,h1,h2,h3,h5,h4⟩:=Ar hph l (i+1) r' _ _ k hr hev
    refine ⟨pI e E,pI H Hh,pI v Vv,rfl,rfl,λj o' hj=>?_,λj o' hj q1 q2=>?_,h4⟩
    rotate_left
    .cases j with
     | zero=>
      simp only [We,Option.some.injEq]at hj
      subst hj
      show (GW nt e ops o false/\v = .cH []/\Hh 0=H)\/qV P nt e o H v (Hh 0)
      grind
     | succ j=>
      have:=h5 j o' (by grind) q1
      rw [show i+1+j=i+(j+1) by omega]at this
      exact this q2
    cases j with
    | zero=>
     simp only [We,Option.some.injEq]at hj
     subst hj
     show gW P nt ops (dy pl al bf (i+0)) _ none o e H v (E 0) (Hh 0)
     grind
    | succ j=>
     have:=h3 j o' (by grind)
     rw [show i+1+j=i+(j+1) by omega]at this
     exact this
   have h':ta g e (Nat.rec (aL (ai P nt o) 0 ph e H λv H'=>bV d v e λe'=>bO ph r' e' H' k) (λ_ _=>Heap.rec (λn bz t=>aL (ai P nt o) 0 ph e (.mk n n t) λv H'=>Heap.rec (λn' wlo' t'=>aF (YX n wlo') (bV d v e λe'=>bO ph r' e' (.mk n' bz t') k) (no 0)) H') H) (if (bK (ai P nt o) || dy pl al bf i)=true then 0 else 1)) (bV d (.cH []) e λe'=>bO ph r' e' H k)=1:=h
   rcases tb hg h' with ⟨h1,h2⟩|⟨h1,h2⟩
   .by_cases hpu:bK (ai P nt o)=true
    .rw [if_pos (by simp [hpu])]at h1
     obtain ⟨v,h3,h4⟩:=yr hph hpu (show aL (ai P nt o) 0 ph e H (λv H'=>bV d v e λe'=>bO ph r' e' H' k)=1 from h1)
     have h4':=h4
     rw [cq]at h4'
     exact fin v H ⟨d,hd,rfl,YE (YG ⟨h2,hpu,rfl,λH2 _=>h3 H2⟩)⟩ (λq=>absurd q (by cases hcc:ai P nt o<;>rw [hcc]at hpu<;>simp [lh,bK]at hpu ⊢)) h4'
    .by_cases his:dy pl al bf i=true
     .rw [if_pos (by simp [his])]at h1
      obtain ⟨v,H1,h3,h4⟩:=eH hph (show aL (ai P nt o) 0 ph e H (λv H'=>bV d v e λe'=>bO ph r' e' H' k)=1 from h1)
      have h4':bV d v e (λe'=>bO ph r' e' H1 k)=1:=h4
      rw [cq]at h4'
      exact fin v H1 ⟨d,hd,rfl,YE (YE (YG ⟨h2,by grind,his,h3⟩))⟩ (λ_ q=>absurd (his.symm.trans q) (by simp)) h4'
     .rw [if_neg (by grind)]at h1
      cases H with
      | mk n bz t=>
       have h1':aL (ai P nt o) 0 ph e (.mk n n t) (λv H'=>Heap.rec (λn' wlo' t'=>aF (YX n wlo') (bV d v e λe'=>bO ph r' e' (.mk n' bz t') k) (no 0)) H')=1:=h1
       by_cases hal:lh (ai P nt o)=true
       .obtain ⟨v,H1,h3,h4⟩:=ab5 hal h1'
        cases H1 with
        | mk n' wlo' t'=>
         have h4':=h4
         obtain ⟨h5,h6⟩:=aQ h4'
         rw [cq]at h6
         obtain ⟨bl,g1,g2,g3⟩:=h3
         exact fin v (.mk n' bz t') ⟨d,hd,rfl,YE (YE (YE ⟨h2,by grind,by grind,.mk n n t,.mk n' wlo' t',rfl,λ_=>rfl,rfl,qV.ops ⟨bl,g1,g2,g3⟩,cA h5,rfl,λ_=>rfl,rfl⟩))⟩ (λ_ _=>YE ⟨bl,g1,⟨g2.n,rfl,g2.get,g2.vU⟩,g3⟩) h6
       .obtain ⟨v,H1,h3,h4⟩:=eH hph h1'
        cases H1 with
        | mk n' wlo' t'=>
         have h4':=h4
         obtain ⟨h5,h6⟩:=aQ h4'
         rw [cq]at h6
         exact fin v (.mk n' bz t') ⟨d,hd,rfl,YE (YE (YE ⟨h2,by grind,by grind,.mk n n t,.mk n' wlo' t',rfl,λ_=>rfl,rfl,h3,cA h5,rfl,λ_=>rfl,rfl⟩))⟩ (λq=>absurd q hal) h6
   .rw [cq]at h1
    exact fin _ H ⟨d,hd,rfl,YG ⟨h2,rfl,rfl⟩⟩ (λ_ _=>YG ⟨h2,rfl,rfl⟩) h1
  .cases hc
end Go.Ev
end
section
namespace Go.Ev
open Go.RowKit
section
variable {ops:Array Oper}
def dz (acc:Array Nat) (o:Oper):Array Nat:=acc.push (o.after.foldl (λs e=>if Region.binds .any e then s ||| 2 ^ e.on ||| acc.getD e.on 0 else s) 0)
theorem Aj (acc:Array Nat) (i):∀ (l:List Edge) (s),(l.foldl (λs e=>if Region.binds .any e then s ||| 2 ^ e.on ||| acc.getD e.on 0 else s) s).testBit i=true->s.testBit i=true\/∃ e ∈ l,Region.binds .any e=true/\(i=e.on\/(acc.getD e.on 0).testBit i=true)
 | [],s,h=>YG h
 | e :: l,s,h=>by
  rcases Aj acc i l _ h with h|⟨e',h1,h2⟩
  .grind
  grind
theorem oJ:∀ (l:List Oper) (acc),(l.foldl dz acc).size=acc.size+l.length/\∀ j,j<acc.size->(l.foldl dz acc)[j]? = acc[j]?
 | [],acc=>⟨rfl,λ_ _=>rfl⟩
 | o :: l,acc=>by
  obtain ⟨h1,h2⟩:=oJ l (dz acc o)
  have hs:(dz acc o).size=acc.size+1:=by simp [dz]
  rw [Qa]
  refine ⟨by simp;omega,λj hj=>?_⟩
  rw [h2 j (by omega)]
  unfold dz
  grind
theorem me:∀ (l:List Oper) (acc) (j i) (o),l[j]? = some o->((l.foldl dz acc).getD (acc.size+j) 0).testBit i=true->
 ∃ e ∈ o.after.toList,Region.binds .any e=true/\(i=e.on\/(e.on<acc.size+j/\((l.foldl dz acc).getD e.on 0).testBit i=true))
 | [],acc,j,i,o,hj,_=>by simp_all
 | o' :: l,acc,0,i,o,hj,h=>by
  simp only [We,Option.some.injEq]at hj
  subst hj
  rw [Qa]at h ⊢
  obtain ⟨h1,h2⟩:=oJ l (dz acc o')
  have hs:(dz acc o').size=acc.size+1:=by simp [dz]
  have hg:(l.foldl dz (dz acc o'))[acc.size]? = (dz acc o')[acc.size]?:=h2 _ (by omega)
  have hv:(dz acc o')[acc.size]? = some (o'.after.foldl (λs e=>if Region.binds .any e then s ||| 2 ^ e.on ||| acc.getD e.on 0 else s) 0):=by simp [dz]
  rw [Nat.add_zero,Yk,hg,hv,Yl,<- YA1]at h
  rcases Aj acc i _ _ h with h|⟨e,h3,h4,h5⟩
  .simp_all
  .refine ⟨e,h3,h4,h5.imp id λh6=>?_⟩
   have hlt:e.on<acc.size:=by
    grind
   refine ⟨by omega,?_⟩
   rw [Yk,h2 _ (by omega)]
   unfold dz
   rw [Array.getElem?_push,if_neg (by omega),<- Yk]
   omega
 | o' :: l,acc,j+1,i,o,hj,h=>by
  have hs:(dz acc o').size=acc.size+1:=by simp [dz]
  have:=me l (dz acc o') j i o (by simp_all)
  grind
theorem MS:Region.before ops=ops.toList.foldl dz #[]:=by
 unfold Region.before
 rw [<- YA1]
 rfl
theorem uq {j i} (h:((Region.before ops).getD j 0).testBit i=true):∃ o,ops[j]? = some o/\∃ e ∈ o.after.toList,Region.binds .any e=true/\(i=e.on\/(e.on<j/\((Region.before ops).getD e.on 0).testBit i=true)):=by
 rw [MS]at h ⊢
 obtain ⟨h1,_⟩:=oJ ops.toList #[]
 have hj:j<ops.toList.length:=by
  grind
 have ho:=List.getElem?_eq_getElem hj
 refine ⟨_,by rw [<- Yw];omega,?_⟩
 have:=me ops.toList #[] j i _ ho
 simp_all
def Dx (ops:Array Oper):Prop:=∀ j o,ops[j]? = some o->∀ e ∈ o.after.toList,Region.binds .any e=true->e.on<j
theorem su (h:lE ops=true):Dx ops:=λj o hj e he hb=>by
 unfold lE at h
 rw [WR]at h
 have h1:=h (o,j) (WT.2 (by simp_all))
 grind
theorem gz (hE:Dx ops):∀ (j i),((Region.before ops).getD j 0).testBit i=true->i<j:=by
 intro j
 induction j using Qy with
 | _ j ih=>
  intro i h
  obtain ⟨o,h1,e,h2,h3,h4⟩:=uq h
  have h5:=hE j o h1 e h2 h3
  grind
def dN (listed:Array Bool) (i:Nat):Prop:=listed.getD i false=true
def te (ops:Array Oper) (listed:Array Bool):Prop:=∀ j,dN listed j->∀ o,ops[j]? = some o->∀ e ∈ o.after.toList,Region.binds .any e=true->dN listed e.on
theorem ep {listed} (hE:Dx ops) (hC:te ops listed):∀ (j i),(dN listed j\/∀ o,ops[j]? = some o->∀ e ∈ o.after.toList,Region.binds .any e=true->dN listed e.on)->((Region.before ops).getD j 0).testBit i=true->dN listed i:=by
 intro j
 induction j using Qy with
 | _ j ih=>
  intro i hj h
  obtain ⟨o,h1,e,h2,h3,h4⟩:=uq h
  have h5:=hj.elim (λhb=>hC j hb o h1 e h2 h3) λhr=>hr o h1 e h2 h3
  grind
theorem dc {listed} {i} (hi:i<listed.size) {j}:dN (listed.setIfInBounds i true) j↔j=i\/dN listed j:=by
 unfold dN
 simp only [Yk]
 grind
theorem D7 {bf} (h:jN ops bf=true) {i j} {oi oj} (hi:ops[i]? = some oi) (hj:ops[j]? = some oj) (hne:i≠j) {d} (hd:oi.dst=some d) (hm:d ∈ vR ops oj):if i<j then (bf.getD j 0).testBit i=true else (bf.getD i 0).testBit j=true:=by
 unfold jN at h
 rw [WR]at h
 have h1:=h (oi,i) (WT.2 (by simp_all))
 rw [WR]at h1
 have h2:=h1 (oj,j) (WT.2 (by simp_all))
 simp_all
end
def jC (D:Nat->Option Slot) (Vv:Nat->V) (e0:Env) (S:Nat->Bool):Nat->Env
 | 0=>e0
 | k+1=>if S k then dJ (D k) (Vv k) (jC D Vv e0 S k) else jC D Vv e0 S k
theorem fM {s} {d} {v} {e}:ae s (dJ d v e)=if d=some s then v else ae s e:=by
 cases d with
 | none=>rfl
 | some d=>
  show ae s (lk d v e)=_
  rw [fv]
  grind
theorem Mb {D} {Vv} {E:Nat->Env} {S} {n i} (hi:i<=n) (hE:∀ k,k<n->E (k+1)=dJ (D k) (Vv k) (E k)) {s} (h:∀ k,k<n->D k=some s->(S k=true↔k<i)):ae s (jC D Vv (E 0) S n)=ae s (E i):=by
 have h1:∀ m,m<=i->ae s (jC D Vv (E 0) S m)=ae s (E m):=by
  intro m
  induction m with
  | zero=>intro _;rfl
  | succ m ih=>
   intro hm
   rw [hE m (by omega),fM]
   simp only [jC]
   by_cases hd:D m=some s
   .rw [if_pos hd,if_pos ((h m (by omega) hd).2 (by omega)),fM,if_pos hd]
   .split
    .rw [fM,if_neg hd];grind
    grind
 have h2:∀ m,i<=m->m<=n->ae s (jC D Vv (E 0) S m)=ae s (E i):=by
  intro m
  induction m with
  | zero=>
   simp_all
  | succ m ih=>
   by_cases h5:i=m+1
   .simp_all
   .simp only [jC]
    split
    .rw [fM]
     grind
    grind
 simp_all
theorem Ry {D} {Vv} {e0} {S S'} {n i} (hi:i<n) (h0:S i=false) (h1:∀ k,S' k=true↔k=i\/S k=true) (h:∀ k,k<n->i<k->S k=true->∀ s,D k=some s->D i≠some s) (s):
 ae s (jC D Vv e0 S' n)=ae s (dJ (D i) (Vv i) (jC D Vv e0 S n)):=by
 have hS:∀ k,k≠i->S' k=S k:=λk hk=>by
  grind
 have g1:∀ m,m<=i->jC D Vv e0 S' m=jC D Vv e0 S m:=by
  intro m
  induction m with
  | zero=>intro _;rfl
  | succ m ih=>intro hm;simp only [jC,hS m (by omega),ih (by omega)]
 have g2:∀ m,i<m->m<=n->ae s (jC D Vv e0 S' m)=ae s (dJ (D i) (Vv i) (jC D Vv e0 S m)):=by
  intro m
  induction m with
  | zero=>simp
  | succ m ih=>
   intro h3 h4
   by_cases h5:m=i
   .subst h5
    have hs:=(h1 m).2 (YG rfl)
    simp only [jC,hs,if_true,h0,YT,if_false,g1 m (YB _)]
   .have ih:=ih (by omega) (by omega)
    simp only [jC,hS m h5]
    split
    .rw [fM,ih,fM,fM,fM]
     grind
    omega
 simp_all
theorem Aq {D} {Vv} {e0} {S} (h:∀ k,S k=false):∀ n,jC D Vv e0 S n=e0
 | 0=>rfl
 | n+1=>by simp only [jC,h,YT,if_false];exact Aq h n
end Go.Ev
end
section
namespace Go.Ev
open Go.RowKit
def bd {α:Type} (Q:α->Prop) (f:(α->R)->R):Prop:=(∃ a,Q a/\∀ k,f k=k a)\/∀ k,f k≠1
section
variable {α β:Type} {id:Nat} {Q:α->Prop}
theorem bd.ret {a:α} (h:Q a):bd Q λk=>k a:=YG ⟨a,h,λ_=>rfl⟩
theorem bd.no (c:Nat):bd Q λ_:α->R=>no c:=YE λk h=>av h
theorem bd.bind {f:(β->R)->R} {g:β->(α->R)->R} (h:aC f) (hg:∀ b,bd Q (g b)):bd Q λk=>f λb=>g b k:=by
 rcases h with ⟨b,hb⟩|h
 .rcases hg b with ⟨a,hq,ha⟩|h
  .exact YG ⟨a,hq,λk=>(hb _).trans (ha k)⟩
  .exact YE λk=>by show f _≠1;rw [hb];exact h k
 .exact YE λk=>h _
theorem bd.mg {S:β->Prop} {f:(β->R)->R} {g:β->(α->R)->R} (h:bd S f) (hg:∀ b,S b->bd Q (g b)):bd Q λk=>f λb=>g b k:=by
 rcases h with ⟨b,hs,hb⟩|h
 .rcases hg b hs with ⟨a,hq,ha⟩|h
  .exact YG ⟨a,hq,λk=>(hb _).trans (ha k)⟩
  .exact YE λk=>by show f _≠1;rw [hb];exact h k
 .exact YE λk=>h _
theorem bd.aF {b:Bool} {f g:(α->R)->R} (hf:bd Q f) (hg:bd Q g):bd Q λk=>Ev.aF b (f k) (g k):=by
 cases b
 .exact hg
 .exact hf
theorem bd.aG {a:Arg} {e:Env} {g:V->(α->R)->R} (hg:bd Q (g (ay a e))):bd Q λk=>Ev.aG a e λb=>g b k:=by
 simp only [aq];exact hg
theorem bd.au {n:Nat} {g:Nat->(α->R)->R} (hg:∀ b,bd Q (g b)):bd Q λk=>Ev.au n λb=>g b k:=by
 simp only [aw];exact hg _
theorem bd.get {f:(α->R)->R} (h:bd Q f) {k:α->R} (h1:f k=1):∃ a,Q a/\k a=1/\∀ k',f k'=k' a:=by
 rcases h with ⟨a,hq,ha⟩|h
 .exact ⟨a,hq,(ha k).symm.trans h1,ha⟩
 .exact absurd h1 (h k)
end
def Fr (ob:Option Nat) (H H':Heap):Prop:=∀ b,b<H.n->ob≠some b->H'.get b=H.get b
theorem Sa (x):∀ (t:HT) (k),bd (λt':HT=>t'.get k=x/\∀ j,j≠k->t'.get j=t.get j) (λc=>t.set x k c):=by
 intro t k
 by_cases h:∃ c:HT->R,t.set x k c=1
 .obtain ⟨c,h⟩:=h
  have key:∀ (t:HT) (k) (c),t.set x k c=1->∃ t',∀ c',t.set x k c'=c' t':=by
   intro t
   induction t with
   | e=>
    intro k c h
    cases k with
    | zero=>exact ⟨_,λc'=>rfl⟩
    | succ k=>exact (av h).elim
   | n u l r ihl ihr=>
    intro k c h
    cases k with
    | zero=>exact ⟨_,λc'=>rfl⟩
    | succ k=>
     have e:∀ c',HT.set x (.n u l r) (k+1) c'=Nat.rec (l.set x (k/2) λl'=>c' (.n u l' r)) (λ_ _=>r.set x (k/2) λr'=>c' (.n u l r')) (k%2):=λc'=>rfl
     rw [e]at h
     rcases (by omega:k%2=0\/k%2=1) with hk|hk
     .rw [hk]at h
      obtain ⟨t',ht⟩:=ihl _ _ h
      exact ⟨_,λc'=>by rw [e,hk];exact ht _⟩
     .rw [hk]at h
      obtain ⟨t',ht⟩:=ihr _ _ h
      exact ⟨_,λc'=>by rw [e,hk];exact ht _⟩
  obtain ⟨t',ht⟩:=key t k c h
  obtain ⟨t2,_,h3,h4⟩:=HT.K0 t k (λq=>open Classical in if q=t' then 1 else 0) (by rw [ht];simp)
  have:t2=t':=by
   simp_all
  subst this
  exact YG ⟨t2,⟨h3,h4⟩,ht⟩
 .exact YE λc hc=>h ⟨c,hc⟩
theorem sU {id} (H) (b) (x):bd (λH'=>Fr (some b) H H'/\H'.n=H.n) (λk=>da id H b x k):=by
 cases H with
 | mk n bz t=>
  refine bd.aF (bd.mg (Sa x t b) λt' ht=>?_) (bd.no 0)
  refine bd.aF (bd.ret ⟨λb' hb hne=>?_,rfl⟩) (bd.ret ⟨λb' hb hne=>?_,rfl⟩)
  .exact ht.2 b' λh=>hne (by rw [h])
  .exact ht.2 b' λh=>hne (by rw [h])
theorem mO (H) (x):bd (λp:Nat × Heap=>Fr none H p.2/\H.n<=p.2.n) (λk=>cB H x λn H'=>k (n,H')):=by
 cases H with
 | mk n bz t=>
  refine bd.mg (Sa x t n) λt' ht=>?_
  refine bd.ret ⟨λb hb _=>ht.2 b ?_,Nat.le_succ n⟩
  have:b<n:=hb
  omega
theorem Fr.trans {ob:Option Nat} {H H1 H2:Heap} (h:Fr ob H H1) (k:Fr none H1 H2) (hn:H.n<=H1.n):Fr ob H H2:=λb hb hne=>(k b (YD hb hn) (by simp)).trans (h b hb hne)
theorem Fr.any {ob:Option Nat} {H H1:Heap} (h:Fr none H H1):Fr ob H H1:=λb hb _=>h b hb (by simp)
section
variable {id:Nat} {α:Type}
theorem yF (l):(∀ k,bu id l k=k)\/∀ k,bu id l k≠1:=by
 induction l with
 | nil=>exact YG λk=>rfl
 | cons v l ih=>
  have e:∀ k,bu id (v :: l) k=dZ id v (bu id l k):=λ_=>rfl
  rcases ih with ih|ih
  .cases v<;>first|exact YG λk=>by exact ih k|exact YE λk h=>av h
  .refine YE λk h=>?_
   rw [e]at h
   exact ih k (xP h).2
theorem bd.bu {Q:α->Prop} {l:List V} {f:(α->R)->R} (hf:bd Q f):bd Q λk=>Ev.bu id l (f k):=by
 rcases yF (id:=id) l with h|h
 .simp only [h];exact hf
 .exact YE λk=>h _
theorem A8 (v):(∀ k,dZ id v k=k)\/∀ k,dZ id v k≠1:=by
 cases v<;>first|exact YG λk=>rfl|exact YE λk h=>av h
theorem bd.dZ {Q:α->Prop} {v:V} {f:(α->R)->R} (hf:bd Q f):bd Q λk=>Ev.dZ id v (f k):=by
 rcases A8 (id:=id) v with h|h
 .simp only [h];exact hf
 .exact YE λk=>h _
theorem ue:∀ (l),aC (λk:Nat × Nat->R=>iB id l λa b=>k (a,b))
 | []=>YG ⟨(0,0),λ_=>rfl⟩
 | v :: l=>by
  have e:∀ k:Nat × Nat->R,(iB id (v :: l) λa b=>k (a,b))=cC id v λkd x=>Ev.aF (Nat.beq kd 4) (iB id l λlen n=>Ev.au (Yd x (Yj 256 n)) λn'=>Ev.au (Nat.succ len) λlen'=>k (len',n')) (no 0):=λ_=>rfl
  simp only [e]
  refine aC.cC λkd x=>aC.aF ?_ (aC.no 0)
  exact aC.bind (g:=λp k=>Ev.au (Yd x (Yj 256 p.2)) λn'=>Ev.au (Nat.succ p.1) λlen'=>k (len',n')) (ue l) λp=>aC.au λn'=>aC.au λlen'=>aC.ret _
theorem CY {Q} {bl} {kc:List V->(α->R)->R} {kb:Nat->Nat->(α->R)->R} (h1:∀ l,bd Q (kc l)) (h2:∀ a b,bd Q (kb a b)):bd Q λk=>uo id bl (λl=>kc l k) (λa b=>kb a b k):=by
 cases bl<;>first|exact h1 _|exact h2 _ _|exact YE λk h=>av h
theorem Ib {bl} {kc:List V->(α->R)->R} {kb:Nat->Nat->(α->R)->R} (h1:∀ l,aC (kc l)) (h2:∀ a b,aC (kb a b)):aC λk=>uo id bl (λl=>kc l k) (λa b=>kb a b k):=by
 cases bl<;>first|exact h1 _|exact h2 _ _|exact YE λk h=>av h
theorem rG (H) (b off) (m):bd (λH'=>Fr (some b) H H'/\H'.n=H.n) (λk=>eJ id H b off m k):=by
 unfold eJ
 simp only [aV]
 refine CY (λl=>?_) (λlen x=>?_)
 .exact bd.bu (bd.bind (uf l off) λl'=>sU H b _)
 .exact bd.bind (g:=λp k=>Ev.aF (YX (Yd off p.1) len)
   (Ev.au (Yd (Nat.mod x (Nat.pow 256 off)) (Yt (Yd p.2 (Yt (Nat.shiftRight x (Yj 8 (Yd off p.1))) (Yj 8 p.1))) (Yj 8 off))) λx'=>da id H b (.bytes len x') k) (no 0)) (ue m) λp=>bd.aF (bd.au λx'=>sU H b _) (bd.no 0)
theorem pS (len):∀ n,aC (qz len n):=λn=>YG ⟨_,λk=>iR len n k⟩
theorem Oq (H) (b off n):aC (ec id H b off n):=by
 unfold ec
 simp only [aV]
 refine Ib (λl=>?_) (λlen x=>?_)
 .exact aC.bind (kh l off) λr=>kj r n
 .exact aC.aF (pS n _) (aC.no 0)
theorem KV {v} {f:(α->R)->R} (hf:aC f):aC λk=>Ev.dZ id v (f k):=by
 rcases A8 (id:=id) v with h|h
 .simp_all
 .exact YE λk=>h _
theorem Ia {l} {f:(α->R)->R} (hf:aC f):aC λk=>Ev.bu id l (f k):=by
 rcases yF (id:=id) l with h|h
 .simp_all
 .exact YE λk=>h _
theorem Ic {bl} {kc:List V->(α->R)->R} {kb:Nat->Nat->(α->R)->R} {kv:List V->(α->R)->R} (h1:∀ l,aC (kc l)) (h2:∀ a b,aC (kb a b)) (h3:∀ l,aC (kv l)):aC λk=>bRd id bl (λl=>kc l k) (λa b=>kb a b k) (λl=>kv l k):=by
 cases bl<;>first|exact h1 _|exact h2 _ _|exact h3 _|exact YE λk h=>av h
theorem Xk (H) (b off):aC (My id H b off):=by
 unfold My
 simp only [aV]
 refine Ic (λl=>vV l off) (λlen n=>?_) (λl=>?_)
 .exact aC.aF (aC.au λx=>aC.ret _) (aC.no 0)
 .exact aC.bind (vV l off) λv=>KV (aC.ret _)
theorem MB (H) (b off n):aC (Ht id H b off n):=by
 unfold Ht
 simp only [aV]
 refine Ic (λl=>?_) (λlen x=>?_) (λl=>?_)
 .exact aC.bind (kh l off) λr=>kj r n
 .exact aC.aF (pS n _) (aC.no 0)
 .exact aC.bind (kh l off) λr=>aC.bind (kj r n) λq=>Ia (aC.ret _)
theorem A9 (H) (b off n):aC (mH id H b off n):=by
 unfold mH
 simp only [aV]
 refine Ib (λl=>?_) (λlen x=>?_)
 .exact aC.bind (kh l off) λr=>aC.bind (kj r n) λq=>aC.bind (g:=λp k=>k p.2) (ue q) λp=>aC.ret _
 .exact aC.aF (aC.au λx=>aC.ret _) (aC.no 0)
theorem C8 (size) (H) (x):aC (λk:Nat × List V->R=>cT id size H x λn l=>k (n,l)):=by
 cases x<;>first|exact YE λk h=>av h|exact YG ⟨_,λk=>rfl⟩|skip
 .rename_i l n
  exact aC.aF (aC.bind (pS l n) λm=>aC.ret _) (aC.no 0)
 .rename_i b o l c s
  cases l with
  | zero=>exact YG ⟨_,λk=>rfl⟩
  | succ l=>exact aC.bind (MB H b o _) λm=>aC.ret _
theorem CZ (H) (x):aC (λk:Nat × Nat->R=>ye id H x λn l=>k (n,l)):=by
 cases x<;>first|exact YE λk h=>av h|exact YG ⟨_,λk=>rfl⟩|skip
 rename_i b o l c s
 exact aC.bind (A9 H b o _) λm=>aC.ret _
def qG:V->Option Nat
 | .ptr b _=>some b
 | .slice b _ _ _ _=>some b
 | _=>none
def Up (ob:Option Nat) (H:Heap) (p:V × Heap):Prop:=Fr ob H p.2
theorem Ty {size n b o len cp sz} {new} {H}:bd (Up (some b) H) (λk:V × Heap->R=>rX id size n new b o len cp sz H λv H'=>k (v,H')):=by
 refine bd.bu (bd.au λneed=>bd.aF ?_ (bd.no 0))
 cases cp with
 | zero=>
  refine bd.aF (bd.aF ?_ (bd.no 0)) (bd.no 0)
  simp only [aV,fA]
  refine CY (λl=>?_) (λ_ _=>bd.no 0)
  refine bd.aF (bd.mg (sU H b .dead) λH1 h1=>?_) (bd.no 0)
  exact bd.mg (f:=λk=>cB H1 (.cells (l ++ new)) λn H'=>k (n,H')) (g:=λp (k:V × Heap->R)=>k (V.slice p.1 0 need 0 size,p.2)) (mO H1 _) λp hp=>bd.ret (h1.1.trans hp.1 (by omega))
 | succ q=>
  refine bd.aF ?_ ?_
  .exact bd.mg (rG H b _ new) λH1 h1=>bd.ret h1.1
  .refine bd.bind (Oq H b o _) λl=>bd.bu ?_
   simp only [fA]
   exact bd.mg (f:=λk=>cB H (.cells (l ++ new)) λn H'=>k (n,H')) (g:=λp (k:V × Heap->R)=>k (V.slice p.1 0 need 0 size,p.2)) (mO H _) λp hp=>bd.ret hp.1.any
theorem Tw {n new b o len cp sz} {H}:bd (Up (some b) H) (λk:V × Heap->R=>MP id n new b o len cp sz H λv H'=>k (v,H')):=by
 refine bd.au λneed=>bd.aF ?_ (bd.no 0)
 cases cp with
 | zero=>
  refine bd.aF (bd.aF ?_ (bd.no 0)) (bd.no 0)
  simp only [aV]
  refine CY (λ_=>bd.no 0) (λln m=>?_)
  refine bd.aF (bd.au λm'=>?_) (bd.no 0)
  refine bd.mg (sU H b .dead) λH1 h1=>?_
  exact bd.mg (f:=λk=>cB H1 (.bytes need m') λn H'=>k (n,H')) (g:=λp (k:V × Heap->R)=>k (V.slice p.1 0 need 0 1,p.2)) (mO H1 _) λp hp=>bd.ret (h1.1.trans hp.1 (by omega))
 | succ q=>
  refine bd.aF (bd.no 0) ?_
  refine bd.bind (A9 H b o _) λm=>bd.au λm'=>?_
  exact bd.mg (f:=λk=>cB H (.bytes need m') λn H'=>k (n,H')) (g:=λp (k:V × Heap->R)=>k (V.slice p.1 0 need 0 1,p.2)) (mO H _) λp hp=>bd.ret hp.1.any
theorem TK {c} (hc:Cm c=true) {ph} {e} {H}:bd (Up (qG (ay (qY c) e)) H) (λk:V × Heap->R=>aL c id ph e H λv H'=>k (v,H')):=by
 cases c<;>simp only [Cm,YT]at hc
 .rename_i a x
  show bd (Up (qG (ay a e)) H) (λk=>vH a x id ph e H λv H'=>k (v,H'))
  refine bd.aG ?_
  cases ay a e<;>first|exact YE λk h=>av h|skip
  rename_i b o
  refine bd.aG (bd.dZ ?_)
  exact bd.mg (rG H b o _) λH1 h1=>bd.ret h1.1
 .rename_i n a x
  show bd (Up (qG (ay a e)) H) (λk=>vJ n a x id ph e H λv H'=>k (v,H'))
  refine bd.aG ?_
  cases ay a e<;>first|exact YE λk h=>av h|skip
  rename_i b o
  refine bd.aG ?_
  cases ay x e<;>first|exact YE λk h=>av h|skip
  refine bd.aF ?_ (bd.no 0)
  exact bd.mg (rG H b o _) λH1 h1=>bd.ret h1.1
 .rename_i u size s x
  have key:∀ (f:Nat->Nat->Nat->Nat->Nat->Nat->(V × Heap->R)->R) (z:Nat->(V × Heap->R)->R) (n),(∀ b o len cp sz,bd (Up (some b) H) (f n b o len cp sz))->(bd (Up none H) (z n))->
   bd (Up (qG (ay s e)) H) (λk=>bG id (ay s e) (λb o len cp sz=>Nat.rec (k (ay s e,H)) (λ_ _=>f n b o len cp sz k) n) (Nat.rec (k (ay s e,H)) (λ_ _=>z n k) n)):=λf z n hf hz=>by
   cases hs:ay s e<;>first|exact YE λk h=>av h|skip
   .rename_i b o len cp sz
    cases n with
    | zero=>exact bd.ret λ_ _ _=>rfl
    | succ n=>exact hf b o len cp sz
   .cases n with
    | zero=>exact bd.ret λ_ _ _=>rfl
    | succ n=>exact hz
  cases u with
  | true=>
   show bd (Up (qG (ay s e)) H) (λk=>L8 s x id e H λv H'=>k (v,H'))
   refine bd.aG (bd.aG ?_)
   refine bd.bind (g:=λp (k:V × Heap->R)=>bG id (ay s e) (λb o len cp sz=>Nat.rec (k (ay s e,H)) (λ_ _=>MP id p.1 p.2 b o len cp sz H λv H'=>k (v,H')) p.1)
    (Nat.rec (k (ay s e,H)) (λ_ _=>Ev.aF (YX p.1 1073741824) (cB H (.bytes p.1 p.2) λb' H=>k (V.slice b' 0 p.1 0 1,H)) (no 0)) p.1)) (CZ H _) λp=>?_
   refine key (λn b o len cp sz k=>MP id n p.2 b o len cp sz H λv H'=>k (v,H')) (λn k=>Ev.aF (YX n 1073741824) (cB H (.bytes n p.2) λb' H=>k (V.slice b' 0 n 0 1,H)) (no 0)) p.1 (λb o len cp sz=>Tw) ?_
   refine bd.aF ?_ (bd.no 0)
   exact bd.mg (f:=λk=>cB H (.bytes p.1 p.2) λn H'=>k (n,H')) (g:=λq (k:V × Heap->R)=>k (V.slice q.1 0 p.1 0 1,q.2)) (mO H _) λq hq=>bd.ret hq.1
  | false=>
   show bd (Up (qG (ay s e)) H) (λk=>L9 size s x id e H λv H'=>k (v,H'))
   refine bd.aG (bd.aG ?_)
   refine bd.bind (g:=λp (k:V × Heap->R)=>bG id (ay s e) (λb o len cp sz=>Nat.rec (k (ay s e,H)) (λ_ _=>rX id size p.1 p.2 b o len cp sz H λv H'=>k (v,H')) p.1)
    (Nat.rec (k (ay s e,H)) (λ_ _=>Ev.bu id p.2 (Ev.aF (YX p.1 1073741824) (cB H (.cells p.2) λb' H=>k (V.slice b' 0 p.1 0 size,H)) (no 0))) p.1)) (C8 size H _) λp=>?_
   refine key (λn b o len cp sz k=>rX id size n p.2 b o len cp sz H λv H'=>k (v,H')) (λn k=>Ev.bu id p.2 (Ev.aF (YX n 1073741824) (cB H (.cells p.2) λb' H=>k (V.slice b' 0 n 0 size,H)) (no 0))) p.1 (λb o len cp sz=>Ty) ?_
   refine bd.bu (bd.aF ?_ (bd.no 0))
   exact bd.mg (f:=λk=>cB H (.cells p.2) λn H'=>k (n,H')) (g:=λq (k:V × Heap->R)=>k (V.slice q.1 0 p.1 0 size,q.2)) (mO H _) λq hq=>bd.ret hq.1
end
end Go.Ev
end
section
namespace Go.Ev
open Go.RowKit
theorem rW {id} {x} {f} (h:nR id x f=1):f (qG x)=1:=by
 cases x<;>first|exact (av h).elim|exact h
theorem th {id bf b}:∀ {l} {k},dv id bf b l k=1->(∀ p ∈ l,bf.testBit p.1=false->b≠p.2)/\k=1
 | [],k,h=>⟨λp hp=>(by cases hp),h⟩
 | (i,c):: l,k,h=>by
  have h2:(Nat.testBit bf i=true\/b≠c)/\dv id bf b l k=1:=by
   rcases bP (show aF (Nat.testBit bf i) (dv id bf b l k) (aF (Nat.beq b c) (no 0) (dv id bf b l k))=1 from h) with ⟨h3,h4⟩|⟨h3,h4⟩
   .simp_all
   .rcases bP h4 with ⟨_,h6⟩|⟨h5,h6⟩
    .exact (av h6).elim
    .refine ⟨YE λe=>?_,h6⟩
     simp_all
  obtain ⟨h3,h4⟩:=th h2.2
  grind
theorem abc {id b off} {H H2} (h:H2.get b=H.get b) (k):My id H2 b off k=My id H b off k:=by
 unfold My
 rw [aV,aV,h]
theorem abf {id b off n} {H H2} (h:H2.get b=H.get b) (k):Ht id H2 b off n k=Ht id H b off n k:=by
 unfold Ht
 rw [aV,aV,h]
theorem Sk {c} (hc:Gu c=true) {id} {ph} {e} {H} {k} {b} (hb:qG (ay (qY c) e)=some b) (h:aL c id ph e H k=1):∃ v,k v H=1/\∀ H2:Heap,H2.get b=H.get b->∀ k2:K,aL c id ph e H2 k2=k2 v H2:=by
 cases c<;>simp only [Gu,YT]at hc
 .rename_i a
  have e1:∀ (H2) (k2),aL (.cJ a) id ph e H2 k2=dQ id (ay a e) λb o=>My id H2 b o λv=>k2 v H2:=λH2 k2=>by
   show rh a id ph e H2 k2=_
   unfold rh
   rw [aq]
  rw [e1]at h
  obtain ⟨b',off,hx,h1⟩:=fU h
  have hbb:=by
   have hb':qG (ay a e)=some b:=hb
   rw [hx]at hb'
   simpa [qG] using hb'
  subst hbb
  rcases Xk (id:=id) H b' off with ⟨v,hv⟩|hv
  .refine ⟨v,by simp_all,λH2 h2 k2=>?_⟩
   rw [e1,hx]
   show My id H2 b' off (λv=>k2 v H2)=_
   rw [abc h2,hv]
  simp_all
 .rename_i n a
  have e1:∀ (H2) (k2),aL (.bR n a) id ph e H2 k2=dQ id (ay a e) λb o=>Ht id H2 b o n λl=>k2 (.agg l) H2:=λH2 k2=>by
   show ri n a id ph e H2 k2=_
   unfold ri
   rw [aq]
  rw [e1]at h
  obtain ⟨b',off,hx,h1⟩:=fU h
  have hbb:=by
   have hb':qG (ay a e)=some b:=hb
   rw [hx]at hb'
   simpa [qG] using hb'
  subst hbb
  rcases MB (id:=id) H b' off n with ⟨l,hv⟩|hv
  .refine ⟨.agg l,by simp_all,λH2 h2 k2=>?_⟩
   rw [e1,hx]
   show Ht id H2 b' off n (λl=>k2 (.agg l) H2)=_
   rw [abf h2,hv]
  simp_all
theorem Gx {l} {bf} {i j} (h:ic l bf i=true) (hj:l[j]? = some false) (hne:i≠j):jG bf i j=true:=by
 unfold ic at h
 rw [WR]at h
 have:=h (false,j) (WT.2 hj)
 unfold jG
 grind
theorem N0 (bf) (i j):jG bf i j=jG bf j i:=by unfold jG;grind
def kS (cs:List lA) (bf:Array Nat) (x:Nat):Bool:=bK (cs.getD x .bad) || ru cs bf x
theorem Pc {P} {op} {t} {c} {x y}:qP (je P op t c x y)=false:=by
 unfold je
 (repeat' split)<;>rfl
theorem UH {k} {op} {x y}:qP (nS k op x y)=false:=by
 unfold nS
 (repeat' split)<;>rfl
theorem UG {P} {op} {xt yt} {x y}:qP (qe P op xt yt x y)=false:=by
 unfold qe mj mn
 (repeat' split)<;>first|rfl|exact UH|exact Pc
theorem Pd {k k'} {x}:qP (tK k k' x)=false:=by
 unfold tK
 (repeat' split)<;>rfl
theorem D0 {P} {nt} {b} {asL} {ts}:qP (dg P nt b asL ts)=false:=by
 unfold dg
 (repeat' split)<;>rfl
theorem OM {m m'} {v} {cv} (hk:Kd v v) (h:VR m v cv):VR m' v cv:=by
 rcases hk with ⟨k,a,b,rfl,_⟩|⟨l,a,q,b,rfl,_⟩
 .simpa only [VR] using h
 .simpa only [VR] using h
theorem yT {m m'}:∀ {l} {cs},(∀ v ∈ l,Kd v v)->cm m l cs->cm m' l cs
 | [],_,_,h=>by simpa only [cm] using h
 | v :: l,cs,hk,h=>by
  obtain ⟨c,r,h1,h2,h3⟩:=h
  exact ⟨c,r,h1,OM (hk v (YJ ..)) h2,yT (λx hx=>hk x (YI _ hx)) h3⟩
theorem ZR {P:Program} {nt:Nat} {o:Oper} {id:Nat} {ph:cU} {e:Env} {H:Heap} {k:K} (hal:qP (ai P nt o)=true) (h:aL (ai P nt o) id ph e H k=1):
 ∃ l H',oE H (.cells l) H'/\k (.ptr H.n 0) H'=1/\((∀ v ∈ l,Kd v v)->∀ (G G':Heap),oE G (.cells l) G'->qV P nt e o G (.ptr G.n 0) G'):=by
 have hop:∃ t x,o.op = .box t x:=by
  unfold ai at hal
  split at hal<;>first
   | grind
   | (exfalso;revert hal; (repeat' split)<;>first | (rw [UG];simp;done) | (rw [Pd];simp;done) | (rw [D0];simp;done) | simp [qP])
 obtain ⟨t,x,hop⟩:=hop
 simp only [ai,hop]at h
 have mem:x ∈ o.op.operands:=by simp [hop,Op.operands]
 have hnd:∀ c,o.op ≠ .defer c:=by simp [hop]
 split at h
 .rename_i x' hx
  have h':Ra x' id ph e H k=1:=h
  unfold Ra at h'
  rw [aq]at h'
  obtain ⟨l,h1,h2⟩:=pV h'
  obtain ⟨h3,h4⟩:=ft h1
  obtain ⟨H',h5,h6⟩:=dH h4
  refine ⟨l,H',h6,h5,λhcl G G' hN=>⟨.cells l,rfl,hN,trivial,by simp,λm a ho=>⟨.cells (a.eval x).cells t,λm'=>lZ (row:=l) rfl (λlen m e=>by cases e) (ju.exact (yT hcl (h2 _ _ (ho x mem x' hx))) h3),λrd w=>⟨iD P o a w rd,?_⟩⟩⟩⟩
  rw [semAt_eq hnd]
  have hex:(execOp a.eval o).run P w = .ok (.value (.pointer (some ⟨w.heap.size,0,none⟩))) (w.alloc (.cells (a.eval x).cells t)):=by
   simp [execOp,hop,Instr.box,newVar,newRow]
  rw [hex]
  exact ⟨rfl,rfl⟩
 .exact (av h).elim
theorem Q6 {id} {l} {k} (h:Ai id (.cells l) k=1):(∀ v ∈ l,Kd v v)/\k=1:=by
 have h':List.rec k (λv _ ih=>isKey id v ih) l=1:=h
 clear h
 induction l with
 | nil=>simp_all
 | cons v l ih=>
  obtain ⟨h1,h2⟩:=Gt (show isKey id v (List.rec k (λv _ ih=>isKey id v ih) l)=1 from h')
  simp_all
theorem Mg {cs} {bf} {i} (h:kL cs bf i=true):qP (cs.getD i .bad)=true:=by
 unfold kL at h
 simp_all
theorem K1 {c} (h:Cm c=true):bK c=false:=by cases c<;>first|rfl|cases h
theorem GG {cs} {bf} {i} (h:kL cs bf i=true):oh cs bf i=false:=by
 cases hx:oh cs bf i with
 | false=>rfl
 | true=>
  have ha:=Mg h
  unfold oh at hx
  rw [Yz,YJ1]at hx
  have hs:Cm (cs.getD i .bad)=false:=by
   cases hc:cs.getD i .bad<;>rw [hc]at ha<;>first|rfl|cases ha
  have hi:=hx.2.resolve_left (by simp_all)
  unfold kL at h
  rw [Yz,List.any_eq_true]at h
  obtain ⟨_,⟨q,j⟩,hq,hb⟩:=h
  simp only [Yz,Bool.not_eq_true']at hb
  obtain ⟨⟨h1,h2⟩,h3⟩:=hb
  have hij:i<j:=by simp_all
  have hjq:=WT.1 hq
  have:=Gx hi (by rw [Yg,hjq];simp [K1 h1]) (by omega)
  simp_all
def Zq (P:Program) (nt:Nat) (ops:Array Oper) (cs:List lA) (bf:Array Nat) (n0:Nat) (l:List Oper) (i:Nat) (e:Env) (H:Heap) (fl st:List (Nat × Nat)) (k:Env->Heap->R):Prop:=
 ∃ (E:Nat->Env) (Hh:Nat->Heap) (Vv:Nat->V) (B:Nat->Option Nat),E 0=e/\Hh 0=H/\(∀ j o,l[j]? = some o->gW P nt ops (oh cs bf (i+j)) (kS cs bf (i+j)) (B j) o (E j) (Hh j) (Vv j) (E (j+1)) (Hh (j+1)))/\k (E l.length) (Hh l.length)=1/\
 (∀ j b,j<l.length->B j=some b->b<n0/\(∃ c,cs[i+j]? = some c/\bK c=false)/\∀ p ∈ st,(bf.getD (i+j) 0).testBit p.1=false->b≠p.2)/\
 (∀ j,j<l.length->oh cs bf (i+j)=true->kS cs bf (i+j)=false->∀ p ∈ fl,(bf.getD (i+j) 0).testBit p.1=false->p.2<(Hh j).n->(Hh (j+1)).get p.2=(Hh j).get p.2)/\
 (∀ j1 j2 b,j1<l.length->j2<l.length->B j1=some b->oh cs bf (i+j2)=true->kS cs bf (i+j2)=false->jG bf (i+j1) (i+j2)=false->b<(Hh j2).n->(Hh (j2+1)).get b=(Hh j2).get b)/\
 (∀ j o,l[j]? = some o->kL cs bf (i+j)=true->(GW nt (E j) ops o false/\Vv j = .cH []/\Hh (j+1)=Hh j)\/(qV P nt (E j) o (Hh j) (Vv j) (Hh (j+1))/\∀ j2,j<j2->j2<l.length->oh cs bf (i+j2)=true->kS cs bf (i+j2)=false->jG bf (i+j) (i+j2)=false->(Hh j).n<(Hh j2).n->(Hh (j2+1)).get (Hh j).n=(Hh j2).get (Hh j).n))
theorem As {P:Program} {nt:Nat} {ph:cU} {ops:Array Oper} {base n0:Nat} {cs:List lA} {bf:Array Nat} (hph:iY P ph) (hbl:∀ x y,(bf.getD x 0).testBit y=true->y<x):∀ (l:List Oper) (i:Nat) (r:List uY) (e:Env) (H:Heap) (fl st:List (Nat × Nat)) (k:Env->Heap->R),iG P nt base ops cs bf l i=some r->(∀ j o,l[j]? = some o->cs[i+j]? = some (ai P nt o))->(∀ p ∈ fl,p.1<i/\∃ c,cs[p.1]? = some c/\bK c=false)->bD ph n0 r e H fl st k=1->Zq P nt ops cs bf n0 l i e H fl st k
 | [],i,r,e,H,fl,st,k,hc,_,_,h=>by
  simp only [iG,Option.some.injEq]at hc
  subst hc
  exact ⟨λ_=>e,λ_=>H,λ_=>.pK,λ_=>none,rfl,rfl,λj o hj=>by simp at hj,h,λj b hj=>by simp at hj,λj hj=>by simp at hj,λj1 j2 b hj=>by simp at hj,λj o hj=>by simp at hj⟩
 | o :: l,i,r,e,H,fl,st,k,hc,hcs,hfl,h=>by
  simp only [iG]at hc
  split at hc
  .rename_i d g r' hd hg hr
   cases hc
   have hci:cs[i]? = some (ai P nt o):=by simpa using hcs 0 o rfl
   have hcd:cs.getD i .bad=ai P nt o:=by rw [List.getD_eq_getElem?_getD,hci];rfl
   have hcs':∀ j o',l[j]? = some o'->cs[i+1+j]? = some (ai P nt o'):=λj o' hj=>by
    have:=hcs (j+1) o' (by simpa using hj)
    rwa [show i+(j+1)=i+1+j by omega]at this
   have hpi:kS cs bf i=(bK (ai P nt o) || ru cs bf i):=by unfold kS;rw [hcd]
   have fin:∀ (v:V) (H1:Heap) (B0:Option Nat) (fl' st':List (Nat × Nat)),gW P nt ops (oh cs bf i) (kS cs bf i) B0 o e H v (dJ d v e) H1->
    (∀ b,B0=some b->b<n0/\bK (ai P nt o)=false/\(∀ p ∈ st,(bf.getD i 0).testBit p.1=false->b≠p.2)/\(i,b) ∈ fl'/\kS cs bf i=true)->
    (oh cs bf i=true->kS cs bf i=false->∀ p ∈ fl,(bf.getD i 0).testBit p.1=false->p.2<H.n->H1.get p.2=H.get p.2)->
    (oh cs bf i=true->kS cs bf i=false->∀ x b,i<x->(∃ c,cs[x]? = some c/\bK c=false)->(∀ p ∈ st',(bf.getD x 0).testBit p.1=false->b≠p.2)->jG bf x i=false->b<H.n->H1.get b=H.get b)->
    (∀ p ∈ fl',p.1<i+1/\∃ c,cs[p.1]? = some c/\bK c=false)->(∀ p ∈ fl,p ∈ fl')->(∀ p ∈ st,p ∈ st')->(kL cs bf i=true->(GW nt e ops o false/\v = .cH []/\H1=H)\/(qV P nt e o H v H1/\(i,H.n) ∈ fl'))->bD ph n0 r' (dJ d v e) H1 fl' st' k=1->Zq P nt ops cs bf n0 (o :: l) i e H fl st k:=λv H1 B0 fl' st' hs hA hC hK hfl' s1 s2 hL hev=>by
    obtain ⟨E,Hh,Vv,B,h1,h2,h3,h4,h5,h6,h7,h8⟩:=As hph hbl l (i+1) r' _ _ fl' st' k hr hcs' hfl' hev
    refine ⟨pI e E,pI H Hh,pI v Vv,pI B0 B,rfl,rfl,λj o' hj=>?_,h4,λj b hj hb=>?_,λj hj hi hp p hpm hbit hlt=>?_,λj1 j2 b hj1 hj2 hb hi hp hord hlt=>?_,λj o' hj hla=>?_⟩
    .cases j with
     | zero=>
      simp only [We,Option.some.injEq]at hj
      subst hj
      show gW P nt ops (oh cs bf (i+0)) _ B0 o e H v (E 0) (Hh 0)
      rw [h1,h2]
      exact hs
     | succ j=>
      have:=h3 j o' (by simpa using hj)
      rw [show i+1+j=i+(j+1) by omega]at this
      exact this
    .cases j with
     | zero=>
      obtain ⟨q1,q2,q3,_⟩:=hA b hb
      exact ⟨q1,⟨_,by simpa using hci,q2⟩,q3⟩
     | succ j=>
      obtain ⟨q1,q2,q3⟩:=h5 j b (by simpa using hj) hb
      rw [show i+1+j=i+(j+1) by omega]at q2 q3
      exact ⟨q1,q2,λp hp=>q3 p (s2 p hp)⟩
    .cases j with
     | zero=>
      show (Hh 0).get p.2=H.get p.2
      rw [h2]
      exact hC hi hp p hpm hbit hlt
     | succ j=>
      have:=h6 j (by simpa using hj)
      rw [show i+1+j=i+(j+1) by omega]at this
      exact this hi hp p (s1 p hpm) hbit hlt
    .cases j2 with
     | zero=>
      cases j1 with
      | zero=>
       obtain ⟨_,_,_,_,q5⟩:=hA b hb
       exact absurd (hp.symm.trans q5) (by simp)
      | succ j1=>
       obtain ⟨_,q2,q3⟩:=h5 j1 b (by simpa using hj1) hb
       show (Hh 0).get b=H.get b
       rw [h2]
       exact hK hi hp (i+1+j1) b (by omega) q2 q3 (by rw [show i+1+j1=i+(j1+1) by omega];exact hord) hlt
     | succ j2=>
      cases j1 with
      | zero=>
       obtain ⟨_,_,_,q4,_⟩:=hA b hb
       have:=h6 j2 (by simpa using hj2)
       rw [show i+1+j2=i+(j2+1) by omega]at this
       refine this hi hp (i,b) q4 ?_ hlt
       unfold jG at hord
       rw [QB]at hord
       exact hord.2
      | succ j1=>
       have:=h7 j1 j2 b (by simpa using hj1) (by simpa using hj2) hb
       rw [show i+1+j1=i+(j1+1) by omega,show i+1+j2=i+(j2+1) by omega]at this
       exact this hi hp hord hlt
    .cases j with
     | zero=>
      simp only [We,Option.some.injEq]at hj
      subst hj
      rcases hL hla with ⟨q1,q2,q3⟩|⟨q1,q2⟩
      .exact YG ⟨q1,q2,by show Hh 0=H;rw [h2];exact q3⟩
      .refine YE ⟨by show qV P nt e o H v (Hh 0);rw [h2];exact q1,λj2 hj2 hjl hi hp hord hlt=>?_⟩
       cases j2 with
       | zero=>omega
       | succ j2=>
        have:=h6 j2 (by simpa using hjl)
        rw [show i+1+j2=i+(j2+1) by omega]at this
        refine this hi hp (i,H.n) q2 ?_ hlt
        unfold jG at hord
        rw [QB]at hord
        exact hord.2
     | succ j=>
      have:=h8 j o' (by simpa using hj) (by rw [show i+1+j=i+(j+1) by omega];exact hla)
      refine this.imp id λhA=>⟨hA.1,λj2 hj2 hjl hi hp hord hlt=>?_⟩
      cases j2 with
      | zero=>omega
      | succ j2=>
       have:=hA.2 j2 (by omega) (by simpa using hjl)
       rw [show i+1+j2=i+(j2+1) by omega,show i+1+j=i+(j+1) by omega]at this
       exact this hi hp hord hlt
   have skip0:GW nt e ops o false->gW P nt ops (oh cs bf i) (kS cs bf i) none o e H (.cH []) (dJ d (.cH []) e) H->bD ph n0 r' (dJ d (.cH []) e) H fl st k=1->Zq P nt ops cs bf n0 (o :: l) i e H fl st k:=λhgw hs hev=>
    fin _ H none fl st hs (λb hb=>by cases hb) (λ_ _ _ _ _ _=>rfl) (λ_ _ _ _ _ _ _ _ _=>rfl) (λp hp=>⟨YG3 (hfl p hp).1,(hfl p hp).2⟩) (λ_ h=>h) (λ_ h=>h) (λ_=>YG ⟨hgw,rfl,rfl⟩) hev
   have hla:kL cs bf i=true->qP (ai P nt o)=true:=λhl=>by have:=Mg hl;rwa [hcd]at this
   have hnoI:oh cs bf i=true->∀ {X:Prop},kL cs bf i=true->X:=λhi X hl=>by rw [GG hl]at hi;cases hi
   have hfls:∀ p ∈ fl,p.1<i+1/\∃ c,cs[p.1]? = some c/\bK c=false:=λp hp=>⟨YG3 (hfl p hp).1,(hfl p hp).2⟩
   have h':ta g e (Nat.rec (motive:=λ_=>R)
    (aL (ai P nt o) 0 ph e H λv H'=>bV d v e λe'=>bD ph n0 r' e' H' fl st k)
    (λt1 _=>Nat.rec (motive:=λ_=>R)
     (Heap.rec (motive:=λ_=>R) (λn bz t=>aL (ai P nt o) 0 ph e (.mk n n t) λv H'=>Heap.rec (motive:=λ_=>R) (λn' wlo' t'=>aF (YX n wlo') (bV d v e λe'=>bD ph n0 r' e' (.mk n' bz t') fl st k) (no 0)) H') H)
     (λt2 _=>aG (qY (ai P nt o)) e λa=>nR 0 a λob=>Nat.rec (motive:=λ_=>R)
      (Option.rec (motive:=λ_=>R) (no 0) (λb=>aF (Yx b n0) (dv 0 (bf.getD i 0) b st (aL (ai P nt o) 0 ph e H λv H'=>bV d v e λe'=>bD ph n0 r' e' H ((i,b):: fl) st k)) (no 0)) ob)
      (λt3 _=>Nat.rec (motive:=λ_=>R)
       (Option.rec (motive:=λ_=>R) (aL (ai P nt o) 0 ph e H λv H'=>bV d v e λe'=>bD ph n0 r' e' H' fl st k)
        (λb=>dv 0 (bf.getD i 0) b fl (aL (ai P nt o) 0 ph e H λv H'=>bV d v e λe'=>bD ph n0 r' e' H' fl ((i,b):: st) k)) ob)
       (λ_ _=>Heap.rec (motive:=λ_=>R) (λn bz t=>aL (ai P nt o) 0 ph e (.mk n n t) λv H'=>Heap.rec (motive:=λ_=>R) (λn' wlo' t'=>aF (YX n wlo') (Ai 0 (HT.get t' n) (bV d v e λe'=>bD ph n0 r' e' (.mk n' bz t') ((i,n):: fl) st k)) (no 0)) H') H) t3) t2) t1) (lH cs bf (ai P nt o) i))
    (bV d (.cH []) e λe'=>bD ph n0 r' e' H fl st k)=1:=h
   rcases tb hg h' with ⟨h1,h2⟩|⟨h1,h2⟩
   rotate_left
   .rw [cq]at h1
    exact skip0 h2 ⟨d,hd,rfl,YG ⟨h2,rfl,rfl⟩⟩ h1
   by_cases hf:ru cs bf i=true
   .have hld:Gu (ai P nt o)=true:=by
     unfold ru at hf
     rw [Yz,hcd]at hf
     exact hf.1
    have hnp:bK (ai P nt o)=false:=by cases hcc:ai P nt o<;>rw [hcc]at hld<;>first|rfl|cases hld
    rw [show lH cs bf (ai P nt o) i=2 by unfold lH;rw [if_pos hf]]at h1
    have h3:aG (qY (ai P nt o)) e (λa=>nR 0 a λob=>Option.rec (motive:=λ_=>R) (no 0) (λb=>aF (Yx b n0) (dv 0 (bf.getD i 0) b st (aL (ai P nt o) 0 ph e H λv H'=>bV d v e λe'=>bD ph n0 r' e' H ((i,b):: fl) st k)) (no 0)) ob)=1:=h1
    rw [aq]at h3
    have h4:=rW h3
    cases hob:qG (ay (qY (ai P nt o)) e) with
    | none=>rw [hob]at h4;exact (av h4).elim
    | some b=>
     rw [hob]at h4
     obtain ⟨h5,h6⟩:=aQ (show aF (Yx b n0) _ (no 0)=1 from h4)
     obtain ⟨h7,h8⟩:=th h6
     obtain ⟨v,h9,h10⟩:=Sk hld hob h8
     have h9':bV d v e (λe'=>bD ph n0 r' e' H ((i,b):: fl) st k)=1:=h9
     rw [cq]at h9'
     have hpt:kS cs bf i=true:=by rw [hpi,hf];simp
     refine fin v H (some b) ((i,b):: fl) st ⟨d,hd,rfl,YE (YG ⟨h2,hpt,rfl,λH2 hH2=>?_⟩)⟩ (λb' hb'=>?_) (λ_ hp=>absurd (hp.symm.trans hpt) (by simp)) (λ_ hp=>absurd (hp.symm.trans hpt) (by simp)) (λp hp=>?_) (λp hp=>YI _ hp) (λ_ h=>h) (λhl=>by have:=hla hl;cases hcc:ai P nt o<;>rw [hcc]at hld this<;>first|(cases this;done)|(cases hld;done)) h9'
     .have hev:=h10 H2 (hH2 b rfl) (λv' H'=>open Classical in if v'=v/\H'=H2 then 1 else 0)
      obtain ⟨v',H',q1,q2⟩:=eH hph (P:=P) (nt:=nt) (o:=o) (id:=0) (e:=e) (H:=H2) (by rw [hev];simp)
      have q3:v'=v/\H'=H2:=by
       by_cases hq:v'=v/\H'=H2
       .exact hq
       .simp [hq]at q2
      rw [<- q3.1]
      have:=q1
      rw [q3.2]at this
      exact this
     .cases hb'
      exact ⟨eO h5,hnp,h7,YJ ..,hpt⟩
     .rcases Yb.1 hp with rfl|hp
      .exact ⟨YC1 i,_,hci,hnp⟩
      .exact hfls p hp
   .have hf':ru cs bf i=false:=by simpa using hf
    by_cases hpu:bK (ai P nt o)=true
    .rw [show lH cs bf (ai P nt o) i=0 by unfold lH;rw [if_neg hf,if_pos hpu]]at h1
     obtain ⟨v,h3,h4⟩:=yr hph hpu (show aL (ai P nt o) 0 ph e H (λv H'=>bV d v e λe'=>bD ph n0 r' e' H' fl st k)=1 from h1)
     have h4':bV d v e (λe'=>bD ph n0 r' e' H fl st k)=1:=h4
     rw [cq]at h4'
     have hpt:kS cs bf i=true:=by rw [hpi,hpu];rfl
     exact fin v H none fl st ⟨d,hd,rfl,YE (YG ⟨h2,hpt,rfl,λH2 _=>h3 H2⟩)⟩ (λb hb=>by cases hb) (λ_ _ _ _ _ _=>rfl) (λ_ _ _ _ _ _ _ _ _=>rfl) hfls (λ_ h=>h) (λ_ h=>h) (λhl=>by have:=hla hl;cases hcc:ai P nt o<;>rw [hcc]at hpu this<;>first|(cases this;done)|(cases hpu;done)) h4'
    .have hpf:kS cs bf i=false:=by rw [hpi,hf'];simpa using hpu
     have hpn:bK (ai P nt o)=false:=by simpa using hpu
     by_cases his:oh cs bf i=true
     .by_cases hi0:ic (cs.map bK) bf i=true
      .rw [show lH cs bf (ai P nt o) i=0 by unfold lH;rw [if_neg hf,if_neg hpu,if_pos his,if_pos hi0]]at h1
       obtain ⟨v,H1,h3,h4⟩:=eH hph (show aL (ai P nt o) 0 ph e H (λv H'=>bV d v e λe'=>bD ph n0 r' e' H' fl st k)=1 from h1)
       have h4':bV d v e (λe'=>bD ph n0 r' e' H1 fl st k)=1:=h4
       rw [cq]at h4'
       have hno:∀ x,x≠i->(∃ c,cs[x]? = some c/\bK c=false)->jG bf i x=true:=λx hx ⟨c,hc1,hc2⟩=>Gx hi0 (by rw [Yg,hc1];simp [hc2]) (Ne.symm hx)
       refine fin v H1 none fl st ⟨d,hd,rfl,YE (YE (YG ⟨h2,hpf,his,h3⟩))⟩ (λb hb=>by cases hb) (λ_ _ p hp hbit _=>?_) (λ_ _ x b hx hxc _ hord _=>?_) hfls (λ_ h=>h) (λ_ h=>h) (λhl=>hnoI his hl) h4'
       .have hlt:=(hfl p hp).1
        have ho:=hno p.1 (by omega) (hfl p hp).2
        unfold jG at ho
        rw [hbit,Bool.false_or]at ho
        have:=hbl _ _ ho
        omega
       .rw [N0,hno x (by omega) hxc]at hord
        cases hord
      .rw [show lH cs bf (ai P nt o) i=3 by unfold lH;rw [if_neg hf,if_neg hpu,if_pos his,if_neg hi0]]at h1
       have hst:Cm (ai P nt o)=true:=by
        have hi:=his
        unfold oh at hi
        rw [Yz,YJ1,hcd]at hi
        exact hi.2.resolve_right hi0
       have h3:aG (qY (ai P nt o)) e (λa=>nR 0 a λob=>Option.rec (motive:=λ_=>R) (aL (ai P nt o) 0 ph e H λv H'=>bV d v e λe'=>bD ph n0 r' e' H' fl st k)
        (λb=>dv 0 (bf.getD i 0) b fl (aL (ai P nt o) 0 ph e H λv H'=>bV d v e λe'=>bD ph n0 r' e' H' fl ((i,b):: st) k)) ob)=1:=h1
       rw [aq]at h3
       have h4:=rW h3
       have hfr:=TK (id:=0) hst (ph:=ph) (e:=e) (H:=H)
       have fire:∀ (fl' st':List (Nat × Nat)),aL (ai P nt o) 0 ph e H (λv H'=>bV d v e λe'=>bD ph n0 r' e' H' fl' st' k)=1->∃ v H1,fq P nt o e H v H1/\Fr (qG (ay (qY (ai P nt o)) e)) H H1/\bD ph n0 r' (dJ d v e) H1 fl' st' k=1:=λfl' st' hev=>by
        obtain ⟨⟨v,H1⟩,q1,q2,q3⟩:=hfr.get (k:=λp:V × Heap=>bV d p.1 e λe'=>bD ph n0 r' e' p.2 fl' st' k) hev
        obtain ⟨v',H',q4,q5⟩:=eH hph (P:=P) (nt:=nt) (o:=o) (id:=0) (e:=e) (H:=H) (k:=λv' H'=>open Classical in if (v',H')=(v,H1) then 1 else 0) (by
         have:=q3 (λp=>open Classical in if p=(v,H1) then 1 else 0)
         rw [show (λv' H'=>open Classical in if (v',H')=(v,H1) then 1 else 0)=λv' H'=>(λp:V × Heap=>open Classical in if p=(v,H1) then (1:R) else 0) (v',H') from rfl,this]
         simp)
        have q6:(v',H')=(v,H1):=by
         by_cases hq:(v',H')=(v,H1)
         .exact hq
         .simp [hq]at q5
        cases q6
        have q2':bV d v e (λe'=>bD ph n0 r' e' H1 fl' st' k)=1:=q2
        rw [cq]at q2'
        exact ⟨v,H1,q4,q1,q2'⟩
       cases hob:qG (ay (qY (ai P nt o)) e) with
       | none=>
        rw [hob]at h4
        obtain ⟨v,H1,q1,q2,q3⟩:=fire fl st h4
        rw [hob]at q2
        exact fin v H1 none fl st ⟨d,hd,rfl,YE (YE (YG ⟨h2,hpf,his,q1⟩))⟩ (λb hb=>by cases hb) (λ_ _ p hp hbit hlt=>q2 _ hlt (by simp)) (λ_ _ x b hx hxc _ hord hlt=>q2 _ hlt (by simp)) hfls (λ_ h=>h) (λ_ h=>h) (λhl=>hnoI his hl) q3
       | some b0=>
        rw [hob]at h4
        obtain ⟨h7,h8⟩:=th (show dv 0 (bf.getD i 0) b0 fl _=1 from h4)
        obtain ⟨v,H1,q1,q2,q3⟩:=fire fl ((i,b0):: st) h8
        rw [hob]at q2
        refine fin v H1 none fl ((i,b0):: st) ⟨d,hd,rfl,YE (YE (YG ⟨h2,hpf,his,q1⟩))⟩ (λb hb=>by cases hb) (λ_ _ p hp hbit hlt=>q2 _ hlt ?_) (λ_ _ x b hx hxc hap hord hlt=>q2 _ hlt ?_) hfls (λ_ h=>h) (λp hp=>YI _ hp) (λhl=>hnoI his hl) q3
        .intro e0
         cases e0
         exact h7 p hp hbit rfl
        .intro e0
         cases e0
         unfold jG at hord
         rw [QB]at hord
         exact hap (i,b0) (YJ ..) hord.1 rfl
     .have hisf:oh cs bf i=false:=by simpa using his
      by_cases hlt:kL cs bf i=true
      .rw [show lH cs bf (ai P nt o) i=4 by unfold lH;rw [if_neg hf,if_neg hpu,if_neg his,if_pos hlt]]at h1
       have hbx:=hla hlt
       have had:qY (ai P nt o) = .c .az:=by cases hcc:ai P nt o<;>rw [hcc]at hbx<;>first|rfl|cases hbx
       have h3:aG (qY (ai P nt o)) e (λa=>nR 0 a λob=>Heap.rec (motive:=λ_=>R) (λn bz t=>aL (ai P nt o) 0 ph e (.mk n n t) λv H'=>Heap.rec (motive:=λ_=>R) (λn' wlo' t'=>aF (YX n wlo') (Ai 0 (HT.get t' n) (bV d v e λe'=>bD ph n0 r' e' (.mk n' bz t') ((i,n):: fl) st k)) (no 0)) H') H)=1:=h1
       rw [aq,had]at h3
       have h4:=rW h3
       cases H with
       | mk n bz t=>
        have h4':aL (ai P nt o) 0 ph e (.mk n n t) (λv H'=>Heap.rec (motive:=λ_=>R) (λn' wlo' t'=>aF (YX n wlo') (Ai 0 (HT.get t' n) (bV d v e λe'=>bD ph n0 r' e' (.mk n' bz t') ((i,n):: fl) st k)) (no 0)) H')=1:=h4
        obtain ⟨bl,H1,hN,h5,hA⟩:=ZR hbx h4'
        cases H1 with
        | mk n' wlo' t'=>
         have h5':aF (YX n wlo') (Ai 0 (HT.get t' n) (bV d (.ptr n 0) e λe'=>bD ph n0 r' e' (.mk n' bz t') ((i,n):: fl) st k)) (no 0)=1:=h5
         obtain ⟨h6,h7⟩:=aQ h5'
         rw [show HT.get t' n = .cells bl from hN.get]at h7
         obtain ⟨hcl,h8⟩:=Q6 h7
         rw [cq]at h8
         have hN':oE (.mk n bz t) (.cells bl) (.mk n' bz t'):=⟨hN.n,rfl,hN.get,hN.vU⟩
         refine fin (.ptr n 0) (.mk n' bz t') none ((i,n):: fl) st ⟨d,hd,rfl,YE (YE (YE ⟨h2,hpf,hisf,.mk n n t,.mk n' wlo' t',rfl,λ_=>rfl,rfl,(hA hcl _ _ hN).ops,cA h6,rfl,λ_=>rfl,rfl⟩))⟩ (λb hb=>by cases hb) (λhi=>absurd (hi.symm.trans hisf) (by simp)) (λhi=>absurd (hi.symm.trans hisf) (by simp)) (λp hp=>?_) (λp hp=>YI _ hp) (λ_ h=>h) (λ_=>YE ⟨hA hcl _ _ hN',YJ ..⟩) h8
         rcases Yb.1 hp with rfl|hp
         .exact ⟨YC1 i,_,hci,hpn⟩
         .exact hfls p hp
      rw [show lH cs bf (ai P nt o) i=1 by unfold lH;rw [if_neg hf,if_neg hpu,if_neg his,if_neg hlt]]at h1
      cases H with
      | mk n bz t=>
       obtain ⟨v,H1,h3,h4⟩:=eH hph (show aL (ai P nt o) 0 ph e (.mk n n t) (λv H'=>Heap.rec (motive:=λ_=>R) (λn' wlo' t'=>aF (YX n wlo') (bV d v e λe'=>bD ph n0 r' e' (.mk n' bz t') fl st k) (no 0)) H')=1 from h1)
       cases H1 with
       | mk n' wlo' t'=>
        have h4':aF (YX n wlo') (bV d v e λe'=>bD ph n0 r' e' (.mk n' bz t') fl st k) (no 0)=1:=h4
        obtain ⟨h5,h6⟩:=aQ h4'
        rw [cq]at h6
        exact fin v (.mk n' bz t') none fl st ⟨d,hd,rfl,YE (YE (YE ⟨h2,hpf,hisf,.mk n n t,.mk n' wlo' t',rfl,λ_=>rfl,rfl,h3,cA h5,rfl,λ_=>rfl,rfl⟩))⟩ (λb hb=>by cases hb) (λhi=>absurd (hi.symm.trans hisf) (by simp)) (λhi=>absurd (hi.symm.trans hisf) (by simp)) hfls (λ_ h=>h) (λ_ h=>h) (λhl=>absurd hl hlt) h6
  .cases hc
end Go.Ev
end
section
namespace Go.Ev
open Go.RowKit
def M.meet (m1 m2:M):M:=⟨λb c=>(∃ c',m1.b b c')/\m2.b b c,m2.z⟩
mutual
theorem VR.meet {m1 m2:M}:∀ (v:V) (c1 c2:Value),VR m1 v c1->VR m2 v c2->VR (m1.meet m2) v c2
 | .int ..,_,_,_,h=>by simpa only [VR] using h
 | .bool _,_,_,_,h=>by simpa only [VR] using h
 | .str ..,_,_,_,h=>by simpa only [VR] using h
 | .ptr ..,_,_,h1,h2=>by simp only [VR]at h1 h2 ⊢;obtain ⟨c,_,h3⟩:=h1;obtain ⟨c',h4,h5⟩:=h2;exact ⟨c',h4,⟨c,h3⟩,h5⟩
 | .pK,_,_,_,h=>by simpa only [VR] using h
 | .slice ..,_,_,h1,h2=>by simp only [VR]at h1 h2 ⊢;obtain ⟨c,_,_,_,_,h3,_⟩:=h1;obtain ⟨c',cap,o',sp,h4,h5,h6⟩:=h2;exact ⟨c',cap,o',sp,h4,⟨⟨c,h3⟩,h5⟩,h6⟩
 | .az,_,_,_,h=>by simpa only [VR] using h
 | .map _,_,_,h1,h2=>by simp only [VR]at h1 h2 ⊢;obtain ⟨c,_,h3⟩:=h1;obtain ⟨c',h4,h5⟩:=h2;exact ⟨c',h4,⟨c,h3⟩,h5⟩
 | .yg,_,_,_,h=>by simpa only [VR] using h
 | .func _ l,_,_,h1,h2=>by simp only [VR]at h1 h2 ⊢;obtain ⟨c,_,h3⟩:=h1;obtain ⟨c',h4,h5⟩:=h2;exact ⟨c',h4,cm.meet l _ _ h3 h5⟩
 | .td _,_,_,h1,h2=>by simp only [VR]at h1 h2 ⊢;obtain ⟨c,_,h3⟩:=h1;obtain ⟨c',h4,h5⟩:=h2;exact ⟨c',h4,⟨c,h3⟩,h5⟩
 | .lV,_,_,_,h=>by simpa only [VR] using h
 | .iface _ x,_,_,h1,h2=>by simp only [VR]at h1 h2 ⊢;obtain ⟨c,_,h3⟩:=h1;obtain ⟨c',h4,h5⟩:=h2;exact ⟨c',h4,VR.meet x _ _ h3 h5⟩
 | .GZ,_,_,_,h=>by simpa only [VR] using h
 | .agg l,_,_,h1,h2=>by simp only [VR]at h1 h2 ⊢;obtain ⟨c,_,h3⟩:=h1;obtain ⟨c',h4,h5⟩:=h2;exact ⟨c',h4,cm.meet l _ _ h3 h5⟩
 | .cH l,_,_,h1,h2=>by simp only [VR]at h1 h2 ⊢;obtain ⟨c,_,h3⟩:=h1;obtain ⟨c',h4,h5⟩:=h2;exact ⟨c',h4,cm.meet l _ _ h3 h5⟩
theorem cm.meet {m1 m2:M}:∀ (l:List V) (c1 c2:List Value),cm m1 l c1->cm m2 l c2->cm (m1.meet m2) l c2
 | [],_,_,_,h=>by simpa only [cm] using h
 | v :: l,_,_,h1,h2=>by
  simp only [cm]at h1 h2 ⊢
  obtain ⟨c,r,_,h3,h4⟩:=h1
  obtain ⟨c',r',h5,h6,h7⟩:=h2
  exact ⟨c',r',h5,VR.meet v _ _ h3 h6,cm.meet l _ _ h4 h7⟩
end
theorem BR.meet {P:Program} {m1 m2:M} {bl:eK} {o1 o2:Obj} (h1:BR P m1 bl o1) (h2:BR P m2 bl o2):BR P (m1.meet m2) bl o2:=by
 cases bl with
 | dead=>trivial
 | cells l=>
  obtain ⟨c,e,fr,g1,⟨g2,g3⟩,_⟩:=h1
  obtain ⟨c',e',fr',k1,⟨k2,k3⟩,k4⟩:=h2
  refine ⟨c',e',fr',k1,⟨λi v hi=>?_,k3⟩,k4⟩
  obtain ⟨a1,cv,a2,a3⟩:=g2 i v hi
  obtain ⟨b1,cv',b2,b3⟩:=k2 i v hi
  exact ⟨b1,cv',b2,VR.meet v _ _ a3 b3⟩
 | bytes len n=>exact h2
 | view l=>
  obtain ⟨c,e,fr,g1,g2⟩:=h1
  obtain ⟨c',e',fr',k1,k2⟩:=h2
  refine ⟨c',e',fr',k1,λi v hi ho=>?_⟩
  obtain ⟨⟨cv,a2,a3⟩,a4⟩:=g2 i v hi ho
  obtain ⟨⟨cv',b2,b3⟩,b4⟩:=k2 i v hi ho
  exact ⟨⟨cv',b2,VR.meet v _ _ a3 b3⟩,b4⟩
 | map es=>
  obtain ⟨ents,clock,es1,g1,g4,g5,g6,g2,g3⟩:=h1
  obtain ⟨ents',clock',es2,k1,k4,k5,k6,k2,k3⟩:=h2
  have key:∀ (q:V × V->V) (c1 c2:List Value),cm m1 (es1.map q) c1->cm m2 (es2.map q) c2->cm (m1.meet m2) (es2.map q) c2:=λq c1 c2 v1 v2=>by
   refine cm.pO v2.length λi v c hi hc=>?_
   rw [Yg]at hi
   obtain ⟨p,hp,rfl⟩:=Ye.1 hi
   have hm:q p ∈ es1.map q:=List.mem_map.2 ⟨p,(g4.trans k4.symm).mem_iff.2 (List.mem_of_getElem? hp),rfl⟩
   obtain ⟨c',_,hc'⟩:=v1.mem hm
   obtain ⟨c2',e1,e2⟩:=v2.get (i:=i) (v:=q p) (by rw [Yg,hp];rfl)
   rw [hc]at e1
   cases e1
   exact VR.meet _ _ _ hc' e2
  exact ⟨ents',clock',es2,k1,k4,k5,k6,key _ _ _ g2 k2,key _ _ _ g3 k3⟩
 | mark=>exact h2
 | loop st jump e ps asL bo=>
  obtain ⟨r,nt,fid,g1,g2,g3,g4,g5,g6,g7⟩:=h1
  obtain ⟨r',nt',fid',k1,k2,k3,k4,k5,k6,k7⟩:=h2
  refine ⟨r',nt',fid',k1,k2,k3,⟨k4.size,k4.le,λt v hv=>?_,k4.rest⟩,k5,k6,k7⟩
  have h2:=k4.get t v hv
  have hlt:t<nt':=by rw [<- k4.size];exact (YN.1 hv).1
  by_cases htn:t<nt
  .have hlt2:t<r.tmps.size:=by rw [g4.size];exact htn
   have hex:r.tmps[t]? = some r.tmps[t]:=Ya hlt2
   exact VR.meet _ _ _ (g4.get t _ hex) h2
  .have:=k4.le
   rw [g4.rest t (by omega) (by omega)]at h2 ⊢
   simp only [VR]at h2 ⊢
   obtain ⟨cs,h5,h6⟩:=h2
   exact ⟨cs,h5,by simpa only [cm] using h6⟩
section
variable {P:Program} {base:Nat} {w0 w w':World} {rho rho':Nat->Option Nat} {H H1 H':Heap}
structure Part (H1 H:Heap):Prop where
 n:H1.n<=H.n
 get:∀ b,b<H1.n->H.get b=H1.get b
 out:∀ b,H1.n<=b->H1.get b = .dead
theorem Part.trans {H1 H2 H3:Heap} (h:Part H1 H2) (k:Part H2 H3):Part H1 H3:=
 ⟨Yr h.n k.n,λb hb=>(k.get b (YD hb h.n)).trans (h.get b hb),h.out⟩
def cutAt (n:Nat) (rho:Nat->Option Nat):Nat->Option Nat:=λb=>if b<n then rho b else none
theorem dM {n b c} (h:cutAt n rho b=some c):b<n/\rho b=some c:=by
 unfold cutAt at h
 simp_all
theorem si {n b} (h:b<n):cutAt n rho b=rho b:=if_pos h
def Kn (P:Program) (H:Heap) (b:Nat):Prop:=∃ m o,BR P m (H.get b) o/\∀ b' c',m.b b' c'->b'<H.n
theorem PR.kn (h:PR P base w0 rho H w) {b c:Nat} (hr:rho b=some c):Kn P H b:=by
 obtain ⟨o,h1,h2⟩:=h.db b c hr
 exact ⟨_,o,h2,λb' c' hm=>hm.1⟩
theorem Kn.part {b:Nat} (h:Kn P H1 b) (hp:Part H1 H) (hb:b<H1.n):Kn P H b:=by
 obtain ⟨m,o,h1,h2⟩:=h
 exact ⟨m,o,by rw [hp.get b hb];exact h1,λb' c' hm=>YD (h2 b' c' hm) hp.n⟩
theorem GR {m1:M} (hm:∀ b c,m1.b b c->b<H1.n) (hp:Part H1 H):(m1.meet (mu rho H w)).le (mu (cutAt H1.n rho) H1 w):=
 ⟨λb c ⟨⟨c',h1⟩,h2⟩=>⟨hm _ _ h1,λha=>by
  rw [si (hm _ _ h1)]
  exact h2.2 (by rw [hp.get b (hm _ _ h1)];omega)⟩,λ_ _ h=>h⟩
theorem PR.part (h:PR P base w0 rho H w) (hp:Part H1 H) (hw:H1.bz<=H1.n) (hk:∀ b c,rho b=some c->b<H1.n->Kn P H1 b):PR P base w0 (cutAt H1.n rho) H1 w where
 below:=h.below
 cQ:=h.cQ
 wn:=hw
 jP b c hr:=by
  obtain ⟨h1,h2⟩:=dM hr
  obtain ⟨_,h4,h5,h6⟩:=h.jP b c h2
  exact ⟨h1,h4,h5,by rw [<- hp.get b h1];exact h6⟩
 inj b b' c h1 h2:=h.inj b b' c (dM h1).2 (dM h2).2
 db b c hr:=by
  obtain ⟨h1,h2⟩:=dM hr
  obtain ⟨o,h3,h4⟩:=h.db b c h2
  obtain ⟨m,o',h5,h6⟩:=hk b c h2 h1
  rw [hp.get b h1]at h4
  exact ⟨o,h3,(BR.meet h5 h4).mono (GR h6 hp)⟩
 out b hb:=hp.out b hb
 gl:=⟨h.gl.1,h.gl.2.1,λb c hr=>h.gl.2.2 b c (dM hr).2⟩
theorem PR.grow (h:PR P base w0 rho H w) (hp:Part H H') (hw:H'.bz<=H'.n) (ho:∀ b,H'.n<=b->H'.get b = .dead):PR P base w0 rho H' w/\(mu rho H w).le (mu rho H' w):=by
 have hm:(mu rho H w).le (mu rho H' w):=⟨λb c ⟨h1,h2⟩=>⟨YD h1 hp.n,λha=>h2 (by rw [<- hp.get b h1];exact ha)⟩,λ_ _ h=>h⟩
 refine ⟨⟨h.below,h.cQ,hw,λb c hr=>?_,h.inj,λb c hr=>?_,ho,h.gl⟩,hm⟩
 .obtain ⟨h1,h2,h3,h4⟩:=h.jP b c hr
  exact ⟨YD h1 hp.n,h2,h3,by rw [hp.get b h1];exact h4⟩
 .obtain ⟨h1,_⟩:=h.jP b c hr
  obtain ⟨o,h3,h4⟩:=h.db b c hr
  exact ⟨o,h3,by rw [hp.get b h1];exact h4.mono hm⟩
theorem PR.merge {Hi Hi' H1':Heap} (h:PR P base w0 rho H w) (hi:Part Hi H) (hi':Part Hi' H) (hii:Hi.n<=Hi'.n) (hno:∀ b c,rho b=some c->b<Hi.n\/Hi'.n<=b)
 (h1n:H1.n=Hi.n) (run:PR P base w0 rho' H1' w') (x:Ext (cutAt Hi.n rho) H1 w rho' H1' w') (hlo:Hi.n<=H1'.bz) (hn':Hi'.n=H1'.n) (hg':∀ b,Hi'.get b=H1'.get b) {rho'':Nat->Option Nat} (hr'':rho''=λb=>if b<Hi'.n then rho' b else rho b):
 PR P base w0 rho'' H w'/\(mu rho H w).le (mu rho'' H w')/\(mu rho' H1' w').le (mu rho'' H w')/\(∀ b,b<Hi.n->rho'' b=rho b)/\(∀ b c,rho'' b=some c->rho b=some c\/(Hi.n<=b/\b<Hi'.n/\w.heap.size<=c/\rho' b=some c))/\∀ c,c<w.heap.size->w'.heap[c]? = w.heap[c]?:=by
 subst hr''
 have k1:∀ b,b<Hi.n->rho' b=rho b:=λb hb=>by
  rw [(x.cG b (by omega) (by omega)).2,si hb]
 have k2:∀ b c,Hi.n<=b->rho' b=some c->w.heap.size<=c:=λb c hb hr=>by
  rcases x.new b c (by omega) hr with h'|⟨b0,h1,h2⟩
  .exact h'
  .have:=(dM h1).1;omega
 have k3:∀ c,c<w.heap.size->w'.heap[c]? = w.heap[c]?:=λc hc=>x.fr c hc λb hb=>YD (dM hb).1 hlo
 have m1:(mu rho H w).le (mu (λb=>if b<Hi'.n then rho' b else rho b) H w'):=by
  refine ⟨λb c ⟨h1,h2⟩=>⟨h1,λha=>?_⟩,x.mu.2⟩
  have h3:=h2 ha
  show (if b<Hi'.n then rho' b else rho b)=some c
  rcases hno b c h3 with h4|h4
  .rw [if_pos (by omega),k1 b h4];exact h3
  .rw [if_neg (by omega)];exact h3
 have m2:(mu rho' H1' w').le (mu (λb=>if b<Hi'.n then rho' b else rho b) H w'):=by
  refine ⟨λb c ⟨h1,h2⟩=>⟨?_,λha=>?_⟩,λ_ _ h=>h⟩
  .have:=hi'.n;omega
  .have hb:b<Hi'.n:=by omega
   show (if b<Hi'.n then rho' b else rho b)=some c
   rw [if_pos hb]
   exact h2 (by rw [<- hg' b,<- hi'.get b hb];exact ha)
 refine ⟨⟨run.below,run.cQ,h.wn,λb c hr=>?_,λb b' c hr hr'=>?_,λb c hr=>?_,h.out,run.gl.1,run.gl.2.1,λb c hr=>(show (if b<Hi'.n then rho' b else rho b)=some c->¬ GB c from λhr=>by
  split at hr
  .exact run.gl.2.2 b c hr
  .exact h.gl.2.2 b c hr) hr⟩,m1,m2,λb hb=>?_,λb c hr=>?_,k3⟩
 .split at hr
  .rename_i hb
   obtain ⟨h1,h2,h3,h4⟩:=run.jP b c hr
   exact ⟨YD hb hi'.n,h2,h3,by rw [hi'.get b hb,hg' b];exact h4⟩
  .obtain ⟨h1,h2,h3,h4⟩:=h.jP b c hr
   exact ⟨h1,h2,YD h3 x.size,h4⟩
 .have cross:∀ b b' c,b<Hi'.n->¬ b'<Hi'.n->rho' b=some c->rho b'=some c->False:=λb b' c g1 g2 g3 g4=>by
   have hd:=h.jP b' c g4
   by_cases hb:b<Hi.n
   .rw [k1 b hb]at g3
    have:=h.inj b b' c g3 g4
    omega
   .have:=k2 b c (by omega) g3
    omega
  split at hr<;>split at hr'
  .exact run.inj b b' c hr hr'
  .exact (cross b b' c ‹_› ‹_› hr hr').elim
  .exact (cross b' b c ‹_› ‹_› hr' hr).elim
  .exact h.inj b b' c hr hr'
 .split at hr
  .rename_i hb
   obtain ⟨o,h1,h2⟩:=run.db b c hr
   exact ⟨o,h1,by rw [hi'.get b hb,hg' b];exact h2.mono m2⟩
  .obtain ⟨o,h1,h2⟩:=h.db b c hr
   exact ⟨o,(k3 c (h.jP b c hr).2.2.1).trans h1,h2.mono m1⟩
 .show (if b<Hi'.n then rho' b else rho b)=rho b
  rw [if_pos (by omega),k1 b hb]
 .replace hr:(if b<Hi'.n then rho' b else rho b)=some c:=hr
  split at hr
  .rename_i hb
   by_cases hb1:b<Hi.n
   .exact YG ((k1 b hb1).symm.trans hr)
   .exact YE ⟨by omega,hb,k2 b c (by omega) hr,hr⟩
  .exact YG hr
theorem Ext.after {H0:Heap} {rho0 rho'':Nat->Option Nat} {w00:World} {m:Nat} (h:Ext rho0 H0 w00 rho H w) (hd0:∀ b c,rho0 b=some c->b<H0.n) (hc0:∀ b c,rho0 b=some c->c<w00.heap.size) (ho:∀ b,H0.n<=b->H0.get b = .dead) (hm:H0.n<=m) (h1:∀ b,b<m->rho'' b=rho b) (h2:∀ b c,rho'' b=some c->rho b=some c\/w.heap.size<=c) (h3:∀ c,c<w.heap.size->w'.heap[c]? = w.heap[c]?) (hs:w.heap.size<=w'.heap.size):Ext rho0 H0 w00 rho'' H w' where
 n:=h.n
 bz:=h.bz
 size:=Yr h.size hs
 cG b hb hw:=⟨(h.cG b hb hw).1,(h1 b (by omega)).trans (h.cG b hb hw).2⟩
 old b c hb hr:=h.old b c hb (by rw [<- h1 b (by omega)];exact hr)
 live b c hr ha:=by
  have hl:=h.live b c hr ha
  rw [h1 b (YD (hd0 b c hr) hm)]
  exact hl
 qQ:=h.qQ
 new b c hb hr:=by
  rcases h2 b c hr with h'|h'
  .exact h.new b c hb h'
  .exact YG (Yr h.size h')
 fr c hc hb:=(h3 c (YD hc h.size)).trans (h.fr c hc hb)
 marks b hb:=by
  have hbn:b<m:=by
   rcases Yh b H0.n with h'|h'
   .omega
   .rw [ho b h']at hb;cases hb
  exact ⟨(h.marks b hb).1,(h1 b hbn).trans (h.marks b hb).2.1,λc hc=>(h3 c (YD (hc0 b c hc) h.size)).trans ((h.marks b hb).2.2 c hc)⟩
 rows c cs e fr hc:=by
  obtain ⟨cs',e',fr',g1,g2⟩:=h.rows c cs e fr hc
  exact ⟨cs',e',fr',(h3 c (YN.1 g1).1).trans g1,g2⟩
 loops c r hc:=by
  obtain ⟨r',g1⟩:=h.loops c r hc
  exact ⟨r',(h3 c (YN.1 g1).1).trans g1⟩
end
end Go.Ev
end
section
namespace Go.Ev
open Go.RowKit
theorem uk {rd} {P} {o:Oper} {a} {w} {K} (h:o.wpIn (WF rd) 0 P a w K (λ_ _ _=>False)):∃ a' w',K a' w':=by
 have h:=h.2
 have hroom:∀ k,(WF rd).room k:=λk=>by simp [Fence.room]
 generalize (o.semAt (WF rd).round a.eval).run P w=r at *
 cases r with
 | ok x w'=>
  cases x<;>simp only [Oper.uponIn]at h
  case value v=>grind
  case skip=>grind
  case defer d=>grind
  case enter f args=>
   obtain ⟨e,w'',fr,he,_⟩:=h.2.2 [] (hroom _)
   cases e with
   | returned u=>grind
   | panicked c=>simp_all
   | outgrown=>obtain ⟨_,_,h⟩:=he;simp_all
  case row row args=>
   obtain ⟨v,w'',he,_⟩:=h.2 default [] (hroom _)
   grind
  case round l f tmps assign body=>
   obtain ⟨e,w'',he,_⟩:=h.2.2 default [] (hroom _)
   cases e with
   | returned u=>grind
   | panicked c=>simp_all
   | outgrown=>obtain ⟨_,_,h⟩:=he;simp_all
 | halt x w'=>
  cases x<;>simp only [Oper.uponIn]at h
theorem M.le_trans {m1 m2 m3:M} (h:m1.le m2) (k:m2.le m3):m1.le m3:=⟨λb c x=>k.1 _ _ (h.1 _ _ x),λc z x=>k.2 _ _ (h.2 _ _ x)⟩
theorem pj {nt} {x} {d} (h:sq nt x=some d):d=x.map bg/\∀ t,x=some t->t<nt:=by
 unfold sq at h
 grind
theorem TR.congr {m:M} {nt:Nat} {e e':Env} {tmps:Array Value} (h:TR m nt e tmps) (he:∀ s,ae s e'=ae s e):TR m nt e' tmps:=
 ⟨h.size,h.le,λt v hv=>by rw [he];exact h.get t v hv,λt h1 h2=>by rw [he];exact h.rest t h1 h2⟩
theorem aeM {m} {nt} {e e'} {a} {o:Oper} {ops} (h:TR m nt e a.tmps) (he:∀ t,t ∈ o.looksAt ops->t<nt->ae (bg t) e=ae (bg t) e'):OR m nt e' a o:=λx hx ar har=>by
 have h1:=kD h har
 have h2:ay ar e=ay ar e':=by
  unfold aH at har
  split at har
  .rename_i t
   split at har
   .rename_i hlt
    cases har
    exact he t (QC _ (List.mem_filterMap.2 ⟨.tmp t,by simp_all,rfl⟩)) hlt
   simp_all
  .simp only [Ye]at har
   obtain ⟨u,_,rfl⟩:=har
   rfl
  .cases har;rfl
  simp_all
 simp_all
theorem ady {m} {nt} {e e'} {tmps} {o:Oper} {ops} (h:TR m nt e tmps) (he:∀ t,t ∈ o.looksAt ops->t<nt->ae (bg t) e=ae (bg t) e'):GT nt m e' ops o tmps:=λj b o' d h1 h2 h3 hlt=>by
 obtain ⟨v,h4,h5⟩:=h.gt ops o j b o' d h1 h2 h3 hlt
 refine ⟨v,h4,?_⟩
 rw [<- he d ?_ hlt]
 .omega
 .unfold Oper.looksAt
  simp_all
theorem aaA (x):∀ (k) (t:HT),∃ t':HT,t'.get k=x/\∀ j,j≠k->t'.get j=t.get j:=by
 intro k
 induction k using Qy with
 | _ k ih=>
  intro t
  cases k with
  | zero=>
   cases t with
   | e=>exact ⟨.n x .e .e,rfl,λj hj=>by
    cases j with
    | zero=>omega
    | succ j=>rw [HT.cO,HT.uE,HT.uE];simp⟩
   | n u l r=>exact ⟨.n x l r,rfl,λj hj=>by
    cases j with
    | zero=>omega
    | succ j=>rfl⟩
  | succ k=>
   have go:∀ (u) (l r),(∀ j,t.get j=HT.get (.n u l r) j)->∃ t':HT,t'.get (k+1)=x/\∀ j,j≠k+1->t'.get j=t.get j:=λu l r ht=>by
    by_cases hk:k%2=0
    .obtain ⟨l',h1,h2⟩:=ih (k/2) (by omega) l
     refine ⟨.n u l' r,by rw [HT.cO,if_pos hk];omega,λj hj=>?_⟩
     rw [ht]
     cases j with
     | zero=>rfl
     | succ j=>
      rw [HT.cO,HT.cO]
      grind
    .obtain ⟨r',h1,h2⟩:=ih (k/2) (by omega) r
     refine ⟨.n u l r',by rw [HT.cO,if_neg hk];omega,λj hj=>?_⟩
     rw [ht]
     cases j with
     | zero=>rfl
     | succ j=>
      rw [HT.cO,HT.cO]
      grind
   have he:∀ j,HT.get .e j=HT.get (.n .dead .e .e) j:=λj=>by
    cases j with
    | zero=>rfl
    | succ j=>rw [HT.cO,HT.uE,HT.uE];simp
   cases t with
   | e=>simp_all
   | n u l r=>simp_all
theorem Y5 (f:Nat->eK):∀ N,∃ t:HT,∀ b,t.get b=if b<N then f b else .dead
 | 0=>⟨.e,λb=>by rfl⟩
 | N+1=>by
  obtain ⟨t,h⟩:=Y5 f N
  obtain ⟨t',h1,h2⟩:=aaA (f N) N t
  refine ⟨t',λb=>?_⟩
  grind
theorem Cf (f:Nat->eK) (N bz):∃ H:Heap,H.n=N/\H.bz=bz/\(∀ b,b<N->H.get b=f b)/\∀ b,N<=b->H.get b = .dead:=by
 obtain ⟨t,h⟩:=Y5 f N
 exact ⟨.mk N bz t,rfl,rfl,λb hb=>(h b).trans (if_pos hb),λb hb=>(h b).trans (if_neg (by omega))⟩
theorem Ext.re {r0 rho rho':Nat->Option Nat} {H0 H H':Heap} {w00 w w':World} (h:Ext r0 H0 w00 rho H w) (hd0:∀ b c,r0 b=some c->b<H0.n) (hc0:∀ b c,r0 b=some c->c<w00.heap.size) (ho:∀ b,H0.n<=b->H0.get b = .dead)
 (hn:H0.n<=H'.n) (hw:H'.bz=H.bz) (hg:∀ b,b<H0.n->H'.get b=H.get b) (hr:∀ b,b<H0.n->rho' b=rho b) (hnew:∀ b c,H0.n<=b->rho' b=some c->rho b=some c\/w00.heap.size<=c)
 (hf:∀ c,c<w00.heap.size->w'.heap[c]? = w.heap[c]?) (hs:w00.heap.size<=w'.heap.size):Ext r0 H0 w00 rho' H' w' where
 n:=hn
 bz:=by rw [hw];exact h.bz
 size:=hs
 cG b hb hlo:=⟨(hg b hb).trans (h.cG b hb (by omega)).1,(hr b hb).trans (h.cG b hb (by omega)).2⟩
 old b c hb hx:=h.old b c hb (by rw [<- hr b hb];exact hx)
 live b c hx ha:=by
  have hb:=hd0 b c hx
  rw [hr b hb]
  exact h.live b c hx (by rw [<- hg b hb];exact ha)
 qQ b hb ha:=h.qQ b hb (by rw [<- hg b hb];exact ha)
 new b c hb hx:=by
  rcases hnew b c hb hx with h'|h'
  .rcases h.new b c hb h' with h1|⟨b0,h1,h2⟩
   .exact YG h1
   .exact YE ⟨b0,h1,by omega⟩
  .exact YG h'
 fr c hc hx:=(hf c hc).trans (h.fr c hc λb hb=>by have:=hx b hb;omega)
 marks b hb:=by
  have hlt:b<H0.n:=by
   rcases Yh b H0.n with h'|h'
   .exact h'
   .rw [ho b h']at hb;cases hb
  obtain ⟨h1,h2,h3⟩:=h.marks b hb
  exact ⟨(hg b hlt).trans h1,(hr b hlt).trans h2,λc hc=>(hf c (hc0 b c hc)).trans (h3 c hc)⟩
 rows c cs e fr hc:=by
  obtain ⟨cs',e',fr',h1,h2⟩:=h.rows c cs e fr hc
  exact ⟨cs',e',fr',(hf c (YN.1 hc).1).trans h1,h2⟩
 loops c r hc:=by
  obtain ⟨r',h1⟩:=h.loops c r hc
  exact ⟨r',(hf c (YN.1 hc).1).trans h1⟩
section
variable {P:Program} {nt:Nat} {ops:Array Oper} {iso pur:Nat->Bool} {E:Nat->Env} {Hh:Nat->Heap} {Vv:Nat->V} {B:Nat->Option Nat}
def jt (iso pur:Nat->Bool) (i:Nat):Prop:=iso i=true/\pur i=false
structure Lw (n:Nat) (iso pur:Nat->Bool) (Hh:Nat->Heap):Prop where
 wn:∀ i,i<=n->(Hh i).bz<=(Hh i).n
 out:∀ i,i<=n->∀ b,(Hh i).n<=b->(Hh i).get b = .dead
 le:∀ i,i<n->(Hh i).n<=(Hh (i+1)).n/\(Hh (i+1)).bz<=(Hh i).bz
 pG:∀ i,i<n->¬ jt iso pur i->Part (Hh i) (Hh (i+1))/\(Hh (i+1)).bz=(Hh i).bz
theorem TT (hst:∀ j o,ops[j]? = some o->gW P nt ops (iso j) (pur j) (B j) o (E j) (Hh j) (Vv j) (E (j+1)) (Hh (j+1))) {base} {w0} {rho} {w} {a:Act} (hp:PR P base w0 rho (Hh 0) w) (ht:TR (mu rho (Hh 0) w) nt (E 0) a.tmps):
 ∀ i,i<=ops.size->(∃ (rho':Nat->Option Nat) (w':World) (a':Act),PR P base w0 rho' (Hh i) w'/\TR (mu rho' (Hh i) w') nt (E i) a'.tmps)/\∀ j,j<i->(Hh j).n<=(Hh (j+1)).n/\(Hh (j+1)).bz<=(Hh j).bz/\(¬ jt iso pur j->Part (Hh j) (Hh (j+1))/\(Hh (j+1)).bz=(Hh j).bz):=by
 intro i
 induction i with
 | zero=>grind
 | succ i ih=>
  intro hi
  obtain ⟨⟨rho1,w1,a1,p1,t1⟩,h1⟩:=ih (by omega)
  have hlt:i<ops.size:=by omega
  have ho:=Ya hlt
  obtain ⟨d,hd,he,hs⟩:=hst i _ ho
  have key:(∃ (rho':Nat->Option Nat) (w':World) (a':Act),PR P base w0 rho' (Hh (i+1)) w'/\TR (mu rho' (Hh (i+1)) w') nt (E (i+1)) a'.tmps)/\(Hh i).n<=(Hh (i+1)).n/\(Hh (i+1)).bz<=(Hh i).bz/\(¬ jt iso pur i->Part (Hh i) (Hh (i+1))/\(Hh (i+1)).bz=(Hh i).bz):=by
   have hself:Part (Hh i) (Hh i):=⟨YB _,λ_ _=>rfl,p1.out⟩
   rcases hs with ⟨_,hv,hH⟩|⟨_,_,hH,hop⟩|⟨_,hpu,his,hop⟩|⟨_,_,_,H1,H1',g1,g2,g3,hop,g4,g5,g6,g7⟩
   .rw [hH,he,hv]
    exact ⟨⟨rho1,w1,a1.put (ops[i]).dst undef,p1,rB t1 hd pY⟩,YB _,YB _,λ_=>⟨hself,rfl⟩⟩
   .obtain ⟨a2,w2,cv,rfl,rho2,v2,p2,x2⟩:=uk (hop (Hh i) (λ_ _=>rfl) none base w0 rho1 w1 a1 p1 (t1.or _))
    rw [hH,he]
    exact ⟨⟨rho2,w2,_,p2,rB (t1.mono x2.mu) hd v2⟩,YB _,YB _,λ_=>⟨hself,rfl⟩⟩
   .obtain ⟨a2,w2,cv,rfl,rho2,v2,p2,x2⟩:=uk (hop none base w0 rho1 w1 a1 p1 (t1.or _))
    rw [he]
    exact ⟨⟨rho2,w2,_,p2,rB (t1.mono x2.mu) hd v2⟩,x2.n,x2.bz,λhn=>absurd ⟨his,hpu⟩ hn⟩
   .have p1':=p1.KJ g1 g2 (by omega)
    have m1:(mu rho1 (Hh i) w1).le (mu rho1 H1 w1):=⟨λb c ⟨h1,h2⟩=>⟨by omega,λha=>h2 (by simp_all)⟩,λ_ _ h=>h⟩
    obtain ⟨a2,w2,cv,rfl,rho2,v2,p2,x2⟩:=uk (hop none base w0 rho1 w1 a1 p1' ((t1.mono m1).or _))
    have hn:(Hh i).n<=(Hh (i+1)).n:=by have:=x2.n;omega
    have p3:=p2.KJ g5 g6 (by have:=p1.wn;omega)
    have m3:(mu rho2 H1' w2).le (mu rho2 (Hh (i+1)) w2):=⟨λb c ⟨h1,h2⟩=>⟨by omega,λha=>h2 (by simp_all)⟩,λ_ _ h=>h⟩
    rw [he]
    refine ⟨⟨rho2,w2,_,p3,rB ((t1.mono m1).mono (M.le_trans x2.mu m3)) hd (VR.mono m3 _ _ v2)⟩,hn,by omega,λ_=>⟨⟨hn,λb hb=>?_,p1.out⟩,g7⟩⟩
    rw [g6,(x2.cG b (by omega) (by omega)).1,g2]
  grind
theorem UO {n} (h:Lw n iso pur Hh):∀ T,T<=n->∀ k,k<=T->(∀ j,k<=j->j<T->¬ jt iso pur j)->Part (Hh k) (Hh T)/\(Hh T).bz=(Hh k).bz:=by
 intro T
 induction T with
 | zero=>
  intro hT k hk _
  have:k=0:=by omega
  subst this
  exact ⟨⟨YB _,λ_ _=>rfl,h.out 0 hT⟩,rfl⟩
 | succ T ih=>
  intro hT k hk hj
  by_cases hkT:k=T+1
  .subst hkT;exact ⟨⟨YB _,λ_ _=>rfl,h.out _ hT⟩,rfl⟩
  .obtain ⟨h1,h2⟩:=ih (by omega) k (by omega) λj h1 h2=>hj j h1 (by omega)
   obtain ⟨h3,h4⟩:=h.pG T (by omega) (hj T (by omega) (by omega))
   exact ⟨h1.trans h3,h4.trans h2⟩
theorem de {n} (h:Lw n iso pur Hh):∀ T,T<=n->∀ k,k<=T->(Hh k).n<=(Hh T).n/\(Hh T).bz<=(Hh k).bz:=by
 intro T
 induction T with
 | zero=>
  simp
 | succ T ih=>
  intro hT k hk
  by_cases hkT:k=T+1
  .simp_all
  .obtain ⟨h1,h2⟩:=ih (by omega) k (by omega)
   obtain ⟨h3,h4⟩:=h.le T (by omega)
   omega
theorem AP (iso pur) (n):∀ m T,n-T=m->T<=n->∃ T',T<=T'/\T'<=n/\(T'<n->jt iso pur T')/\∀ j,T<=j->j<T'->¬ jt iso pur j:=by
 intro m
 induction m with
 | zero=>intro T h1 h2;exact ⟨T,YB _,h2,λh=>by omega,λj h3 h4=>by omega⟩
 | succ m ih=>
  intro T h1 h2
  by_cases hh:jt iso pur T
  .grind
  grind
def L5 (ops:Array Oper) (k:Nat):Option Slot:=(ops[k]?.bind (·.dst)).map bg
structure Mid (P:Program) (nt:Nat) (ops:Array Oper) (iso pur al:Nat->Bool) (E:Nat->Env) (Hh:Nat->Heap) (Vv:Nat->V) (base:Nat) (w0:World) (rho0:Nat->Option Nat) (w00:World) (ds:List Deferred) (listed:Array Bool) (a:Act) (w:World) (T:Nat) (rho:Nat->Option Nat) (Hx:Heap):Prop where
 size:listed.size=ops.size
 closed:te ops listed
 le:T<=ops.size
 RW:T<ops.size->jt iso pur T
 not:¬ dN listed T
 MR:∀ i,i<T->jt iso pur i->dN listed i
 xn:Hx.n=(Hh ops.size).n
 xw:Hx.bz=(Hh T).bz
 Zp:∀ b,b<(Hh T).n->Hx.get b=(Hh T).get b
 xhi:∀ b,(Hh T).n<=b->b<Hx.n->(Hx.get b).alive
 pr:PR P base w0 rho Hx w
 ext:Ext rho0 (Hh 0) w00 rho Hx w
 tr:TR (mu rho Hx w) nt (jC (L5 ops) Vv (E 0) (λk=>listed.getD k false) ops.size) a.tmps
 defers:a.defers=ds
 bound:∀ b c,rho b=some c->∀ k,k<T->¬ dN listed k->¬ ((Hh k).n<=b/\b<(Hh (k+1)).n)
 kn:∀ b c,rho b=some c->∀ k,k<=T->(∀ j,k<=j->j<T->¬ jt iso pur j)->b<(Hh k).n->Kn P (Hh k) b
 Kz:∀ b c,rho b=some c->(Hh T).n<=b->w00.heap.size<=c/\∃ i,T<=i/\i<ops.size/\dN listed i/\al i=true/\b=(Hh i).n/\∃ (bl:eK) (ob:Obj),oE (Hh i) bl (Hh (i+1))/\bl.alive/\(∀ m,BR P m bl ob)/\Hx.get b=bl
section walk
variable {al:Nat->Bool} {base:Nat} {w0:World} {rho0:Nat->Option Nat} {w00:World} {ds:List Deferred} {rd:Option Nat} {Q:Exit->Act->World->Prop}
 (hst:∀ j o,ops[j]? = some o->gW P nt ops (iso j) (pur j) (B j) o (E j) (Hh j) (Vv j) (E (j+1)) (Hh (j+1)))
 (hE:Dx ops) (hap:jN ops (Region.before ops)=true)
 (hiso:∀ i j,jt iso pur i->i≠j->pur j=false->j<ops.size->((Region.before ops).getD i 0).testBit j=true\/((Region.before ops).getD j 0).testBit i=true\/al j=true)
 (hhal:∀ i,jt iso pur i->al i=false)
 (hal:∀ i o,ops[i]? = some o->al i=true->(GW nt (E i) ops o false/\Vv i = .cH []/\Hh (i+1)=Hh i)\/(qV P nt (E i) o (Hh i) (Vv i) (Hh (i+1))/\∀ k,k<ops.size->jt iso pur k->i<k->jG (Region.before ops) i k=false->(Hh i).n<(Hh k).n->(Hh (k+1)).get (Hh i).n=(Hh k).get (Hh i).n))
 (hhp:Lw ops.size iso pur Hh) (hnt:nt<=512) (hd0:∀ b c,rho0 b=some c->b<(Hh 0).n) (hc0:∀ b c,rho0 b=some c->c<w00.heap.size)
 (hB:∀ i b,i<ops.size->B i=some b->b<(Hh 0).n)
 (hkp:∀ i k b,i<ops.size->k<ops.size->B i=some b->jt iso pur k->jG (Region.before ops) i k=false->b<(Hh k).n->(Hh (k+1)).get b=(Hh k).get b)
 (hke:∀ i,i<ops.size->∀ t,t<nt->∃ m c,VR m (ae (bg t) (E i)) c/\∀ b c',m.b b c'->b<(Hh i).n)
 (hQ:∀ a' w' rho',a'.defers=ds->PR P base w0 rho' (Hh ops.size) w'->TR (mu rho' (Hh ops.size) w') nt (E ops.size) a'.tmps->Ext rho0 (Hh 0) w00 rho' (Hh ops.size) w'->Q .normal a' w')
include hst in
theorem Rs:∀ k,k<ops.size->E (k+1)=dJ (L5 ops k) (Vv k) (E k):=λk hk=>by
 have ho:=Ya hk
 obtain ⟨d,hd,he,_⟩:=hst k _ ho
 rw [he,(pj hd).1]
 simp [L5,ho]
include hst hnt in
theorem U7 {k t} (hk:k<ops.size) (ht:t<nt) (h:L5 ops k=some (bg t)):∃ o,ops[k]? = some o/\o.dst=some t:=by
 have ho:=Ya hk
 obtain ⟨d,hd,he,_⟩:=hst k _ ho
 obtain ⟨h1,h2⟩:=pj hd
 refine ⟨_,ho,?_⟩
 unfold L5 at h
 rw [ho,YC0,Ye]at h
 obtain ⟨t',h3,h4⟩:=h
 have:=h2 t' h3
 rw [h3,fO (YD this hnt) (YD ht hnt) h4]
include hst hE hap hnt in
theorem view {listed} {i} {o} (hC:te ops listed) (ho:ops[i]? = some o) (hi:¬ dN listed i) (hr:∀ e ∈ o.after.toList,Region.binds .any e=true->dN listed e.on) {t:Nat} (ht:t ∈ vR ops o) (hlt:t<nt):
 ae (bg t) (jC (L5 ops) Vv (E 0) (λk=>listed.getD k false) ops.size)=ae (bg t) (E i):=by
 have hin:=(YN.1 ho).1
 refine Mb (Nat.le_of_lt hin) (Rs hst) λk hk hd=>?_
 obtain ⟨ok,hok,hdk⟩:=U7 hst hnt hk hlt hd
 by_cases hki:k=i
 .subst hki
  exact ⟨λh=>absurd h hi,λh=>by omega⟩
 .have h1:=D7 hap hok ho hki hdk ht
  split at h1
  .rename_i h2
   exact ⟨λ_=>h2,λ_=>ep hE hC i k (YE λo' ho'=>by simp_all) h1⟩
  .rename_i h2
   exact ⟨λhs=>absurd (ep hE hC k i (YG hs) h1) hi,λh=>absurd h h2⟩
include hst hE hap hnt in
theorem TV {listed} {i} {o} (hsz:listed.size=ops.size) (hC:te ops listed) (ho:ops[i]? = some o) (hi:¬ dN listed i) {m} {a:Act} {cv} (ht:TR m nt (jC (L5 ops) Vv (E 0) (λk=>listed.getD k false) ops.size) a.tmps) (hv:VR m (Vv i) cv):
 TR m nt (jC (L5 ops) Vv (E 0) (λk=>(listed.setIfInBounds i true).getD k false) ops.size) (a.put o.dst cv).tmps:=by
 have hin:=(YN.1 ho).1
 obtain ⟨d,hd,_⟩:=hst i _ ho
 have hdo:L5 ops i=d:=by rw [(pj hd).1];simp [L5,ho]
 refine (rB ht hd hv).congr λs=>?_
 rw [<- hdo]
 refine Ry hin (by simpa [dN] using hi) (λk=>dc (by omega)) (λk hk hik hs s' h1 h2=>?_) s
 unfold L5 at h1 h2
 have hok:=Ya hk
 rw [hok,YC0,Ye]at h1
 rw [ho,YC0,Ye]at h2
 obtain ⟨tk,h3,h4⟩:=h1
 obtain ⟨ti,h5,h6⟩:=h2
 obtain ⟨dk,hdk,_⟩:=hst k _ hok
 have hti:=(pj hd).2 ti h5
 have htk:=(pj hdk).2 tk h3
 have:=fO (YD hti hnt) (YD htk hnt) (h6.trans h4.symm)
 have h7:=D7 hap ho hok (by omega) h5 (show ti ∈ vR ops ops[k] from QC _ (by simp_all))
 rw [if_pos hik]at h7
 exact hi (ep hE hC k i (YG hs) h7)
theorem Js {listed} {i} {o} (hi:i<listed.size) (hC:te ops listed) (ho:ops[i]? = some o) (hr:∀ e ∈ o.after.toList,Region.binds .any e=true->dN listed e.on):te ops (listed.setIfInBounds i true):=λj hj o' ho' e he hb=>by
 rw [dc hi]at hj ⊢
 rcases hj with rfl|hj
 .simp_all
 .exact YE (hC j hj o' ho' e he hb)
theorem count_set {l:List Bool} {i} (hi:l[i]? = some false):(l.set i true).count false+1=l.count false:=by
 grind
include hst hE hap hiso hhal hal hhp hnt hd0 hc0 hke hB hkp hQ in
theorem walk (h0out:∀ b,(Hh 0).n<=b->(Hh 0).get b = .dead):∀ (fuel:Nat) (listed:Array Bool) (a:Act) (w:World) (T:Nat) (rho:Nat->Option Nat) (Hx:Heap),Mid P nt ops iso pur al E Hh Vv base w0 rho0 w00 ds listed a w T rho Hx->listed.toList.count false=fuel->wpAnyIn (WF rd) 0 P .any ops Q fuel listed a w:=by
 have hN:∀ T,T<=ops.size->(Hh T).n<=(Hh ops.size).n:=λT hT=>(de hhp ops.size (YB _) T hT).1
 have h0N:∀ T,T<=ops.size->(Hh 0).n<=(Hh T).n:=λT hT=>(de hhp T hT 0 (Yf _)).1
 have fin:∀ (listed:Array Bool) (a:Act) (w:World) (T:Nat) (rho:Nat->Option Nat) (Hx:Heap),Mid P nt ops iso pur al E Hh Vv base w0 rho0 w00 ds listed a w T rho Hx->(∀ i,i<ops.size->dN listed i)->Q .normal a w:=λlisted a w T rho Hx hM hall=>by
  have hT:T=ops.size:=by
   rcases Yh T ops.size with h|h
   .exact absurd (hall T h) hM.not
   .have:=hM.le;omega
  subst hT
  have hg:∀ b,(Hh ops.size).get b=Hx.get b:=λb=>by
   rcases Yh b (Hh ops.size).n with h|h
   .exact (hM.Zp b h).symm
   .rw [hhp.out _ (YB _) b h,hM.pr.out b (by rw [hM.xn];exact h)]
  have hm:(mu rho Hx w).le (mu rho (Hh ops.size) w):=⟨λb c hx=>⟨by rw [<- hM.xn];exact hx.1,by rw [hg];exact hx.2⟩,λ_ _ h=>h⟩
  refine hQ a w rho hM.defers (hM.pr.KJ hM.xn.symm hg (hhp.wn _ (YB _))) ((hM.tr.mono hm).congr λs=>?_) (hM.ext.re hd0 hc0 h0out (h0N _ (YB _)) hM.xw.symm (λb _=>hg b) (λ_ _=>rfl) (λb c _ h=>YG h) (λ_ _=>rfl) hM.ext.size)
  exact (Mb (YB _) (Rs hst) λk hk _=>⟨λ_=>hk,λ_=>hall k hk⟩).symm
 have hready:∀ (listed:Array Bool),Region.ready .any ops listed=[]->listed.size=ops.size->∀ i,i<ops.size->dN listed i:=λlisted hr hsz i=>by
  induction i using Qy with
  | _ i ih=>
   intro hi
   by_cases hb:dN listed i
   .exact hb
   .have ho:ops[i]? = some ops[i]:=Ya hi
    have hmem:i ∈ Region.ready .any ops listed:=mem_ready.2 ⟨by
     have hex:listed[i]? = some listed[i]:=Ya (by omega)
     unfold dN at hb
     rw [Yk,hex]at hb ⊢
     simpa using hb,_,ho,λe he hbd=>ih e.on (hE i _ ho e (by simpa using he) hbd) (by have:=hE i _ ho e (by simpa using he) hbd;omega)⟩
    rw [hr]at hmem
    cases hmem
 intro fuel
 induction fuel with
 | zero=>
  intro listed a w T rho Hx hM hc
  have hall:∀ i,i<ops.size->dN listed i:=λi hi=>by
   have hlt:i<listed.size:=by rw [hM.size];exact hi
   have hex:listed[i]? = some listed[i]:=Ya hlt
   unfold dN
   rw [Yk,hex,Yl]
   cases hv:listed[i] with
   | true=>rfl
   | false=>
    have:false ∈ listed.toList:=by rw [<- hv];simp
    rw [List.count_eq_zero]at hc
    exact absurd this hc
  refine ⟨?_,fin listed a w T rho Hx hM hall⟩
  refine List.eq_nil_iff_forall_not_mem.2 λi hi=>?_
  obtain ⟨h1,o,ho,_⟩:=mem_ready.1 hi
  have hb:=hall i (YN.1 ho).1
  have hlt:i<listed.size:=by rw [hM.size];exact (YN.1 ho).1
  have hex:listed[i]? = some listed[i]:=Ya hlt
  unfold dN at hb
  rw [Yk,hex,Yl]at hb h1
  rw [hb]at h1
  cases h1
 | succ fuel ih=>
  intro listed a w T rho Hx hM hc
  refine ⟨λhr=>fin listed a w T rho Hx hM (hready listed hr hM.size),λi hi=>?_⟩
  obtain ⟨h1,o,ho,hr0⟩:=mem_ready.1 hi
  have hin:i<ops.size:=(YN.1 ho).1
  have hil:i<listed.size:=by rw [hM.size];exact hin
  have hex:listed[i]? = some listed[i]:=Ya hil
  have hv:listed[i]=false:=by rw [Yk,hex,Yl]at h1;exact h1
  have hnb:¬ dN listed i:=by unfold dN;rw [Yk,hex,Yl,hv];simp
  have hr:∀ e ∈ o.after.toList,Region.binds .any e=true->dN listed e.on:=λe he hb=>hr0 e (by simpa using he) hb
  have hc':(listed.setIfInBounds i true).toList.count false=fuel:=by
   have:=count_set (l:=listed.toList) (i:=i) (by simpa [hv] using hex)
   rw [Array.toList_setIfInBounds]
   omega
  have hsz':(listed.setIfInBounds i true).size=ops.size:=by simpa using hM.size
  have hC':=Js hil hM.closed ho hr
  have hview:∀ t,t ∈ o.looksAt ops->t<nt->ae (bg t) (jC (L5 ops) Vv (E 0) (λk=>listed.getD k false) ops.size)=ae (bg t) (E i):=λt ht hlt=>view hst hE hap hnt hM.closed ho hnb hr (List.mem_append_right _ ht) hlt
  have hgt:GT nt (mu rho Hx w) (E i) ops o a.tmps:=ady hM.tr hview
  have hor:OR (mu rho Hx w) nt (E i) a o:=aeM hM.tr hview
  have hput:∀ {m:M} {cv:Value},TR m nt (jC (L5 ops) Vv (E 0) (λk=>listed.getD k false) ops.size) a.tmps->VR m (Vv i) cv->TR m nt (jC (L5 ops) Vv (E 0) (λk=>(listed.setIfInBounds i true).getD k false) ops.size) (a.put o.dst cv).tmps:=λht hv=>TV hst hE hap hnt hM.size hM.closed ho hnb ht hv
  have hbi:∀ k,((Region.before ops).getD i 0).testBit k=true->dN listed k:=λk hk=>ep hE hM.closed i k (YE λo' ho'=>by rw [ho]at ho';cases ho';exact hr) hk
  have hTn:∀ j,j≠T->pur j=false->j<ops.size->T<ops.size->¬ dN listed j->(∀ k,((Region.before ops).getD j 0).testBit k=true->dN listed k)->j<T\/(al j=true/\T<j):=λj h2 h3 h4 h5 h6 h7=>by
   rcases hiso T j (hM.RW h5) (Ne.symm h2) h3 h4 with h8|h8|h8
   .exact YG (gz hE T j h8)
   .exact absurd (h7 T h8) hM.not
   .rcases Yh j T with hjT|hjT
    .exact YG hjT
    .exact YE ⟨h8,by omega⟩
  have hpx:Part (Hh T) Hx:=⟨by rw [hM.xn];exact hN T hM.le,hM.Zp,hhp.out T hM.le⟩
  have low:∀ (H1:Heap),Part H1 Hx->(Hh i).n<=H1.n->OR (mu (cutAt H1.n rho) H1 w) nt (E i) a o:=λH1 hp1 hn1 x hx ar har=>by
   have v2:=hor x hx ar har
   have hkn:∃ m c,VR m (ay ar (E i)) c/\∀ b c',m.b b c'->b<H1.n:=by
    unfold aH at har
    split at har
    .split at har
     .rename_i t ht
      cases har
      obtain ⟨m,c,q1,q2⟩:=hke i hin t ht
      exact ⟨m,c,q1,λb c' hm=>YD (q2 b c' hm) hn1⟩
     .cases har
    .simp only [Ye]at har
     obtain ⟨u,hu,rfl⟩:=har
     exact ⟨⟨λ_ _=>False,λ_ _=>False⟩,_,tJ hu,λ_ _ h=>h.elim⟩
    .cases har
     exact ⟨⟨λ_ _=>False,λ_ _=>False⟩,_,by simp only [ay,VR];exact ⟨#[],rfl,by simp only [cm]⟩,λ_ _ h=>h.elim⟩
    .cases har
   obtain ⟨m,c,q1,q2⟩:=hkn
   exact VR.mono (GR q2 hp1) _ _ (VR.meet _ _ _ q1 v2)
  obtain ⟨d,hd,he,hs⟩:=hst i o ho
  unfold wpOpIn
  simp only [ho]
  by_cases hh:jt iso pur i
  .have hiT:i=T:=by
    by_cases hiT:i=T
    .exact hiT
    .exfalso
     have hlt:i<T:=by
      rcases Yh T ops.size with h|h
      .rcases hTn i hiT hh.2 hin h hnb hbi with h'|h'
       .exact h'
       .have h'':=h'.1;rw [hhal i hh]at h'';cases h''
      .omega
     exact hnb (hM.MR i hlt hh)
   subst hiT
   have prT:PR P base w0 (cutAt (Hh i).n rho) (Hh i) w:=hM.pr.part hpx (hhp.wn i hM.le) λb c hr hb=>hM.kn b c hr i (YB _) (λj h1 h2=>by omega) hb
   have orT:=low (Hh i) hpx (YB _)
   have adv:∀ (rho':Nat->Option Nat) (w':World) (cv:Value),PR P base w0 rho' (Hh (i+1)) w'->Ext (cutAt (Hh i).n rho) (Hh i) w rho' (Hh (i+1)) w'->VR (mu rho' (Hh (i+1)) w') (Vv i) cv->wpAnyIn (WF rd) 0 P .any ops Q fuel (listed.setIfInBounds i true) (a.put o.dst cv) w':=λrho' w' cv p1 x1 v1=>by
    obtain ⟨T',t1,t2,t3,t4⟩:=AP iso pur ops.size _ (i+1) rfl hin
    obtain ⟨b1,b2⟩:=UO hhp T' t2 (i+1) t1 t4
    have hiN:=(de hhp (i+1) (by omega) i (by omega)).1
    obtain ⟨Hy,y1,y2,y3,y4⟩:=Cf (λb=>if b<(Hh T').n then (Hh T').get b else Hx.get b) (Hh ops.size).n (Hh T').bz
    have wait:∀ b c,rho b=some c->(Hh i).n<=b->(Hh (i+1)).n<=b/\w00.heap.size<=c/\∃ i0,i+1<=i0/\i0<ops.size/\dN listed i0/\al i0=true/\b=(Hh i0).n/\∃ (bl:eK) (ob:Obj),oE (Hh i0) bl (Hh (i0+1))/\bl.alive/\(∀ m,BR P m bl ob)/\Hx.get b=bl:=λb c hr hb=>by
     obtain ⟨g0,i0,g1,g2,g3,g4,g5,g6⟩:=hM.Kz b c hr hb
     have hne:i0≠i:=λh=>by subst h;rw [hhal _ hh]at g4;cases g4
     have hle:i+1<=i0:=by omega
     exact ⟨by rw [g5];exact (de hhp i0 (by omega) (i+1) hle).1,g0,i0,hle,g2,g3,g4,g5,g6⟩
    have pnd:∀ b c,rho b=some c->(Hh i).n<=b->Hy.get b=Hx.get b/\b<(Hh ops.size).n/\w'.heap[c]? = w.heap[c]?/\∀ b0,rho' b0≠some c:=λb c hr hb=>by
     obtain ⟨_,_,i0,g1,g2,_,_,g5,bl,ob,g6,_,_,g7⟩:=wait b c hr hb
     have hbN:b<(Hh ops.size).n:=by
      have:=hN (i0+1) (by omega)
      have:=g6.n
      omega
     have hcs:=(hM.pr.jP b c hr).2.2.1
     refine ⟨?_,hbN,x1.fr c hcs λb0 hb0=>?_,λb0 hb0=>?_⟩
     .rw [y3 b hbN]
      split
      .rename_i hlt
       have h2:i0+1<=T':=by
        rcases Yh i0 T' with h|h
        .exact h
        .have:=(de hhp i0 (by omega) T' h).1;omega
       obtain ⟨q1,_⟩:=UO hhp T' t2 (i0+1) h2 λj h3 h4=>t4 j (by omega) h4
       rw [q1.get b (by have:=g6.n;omega),g7,g5,g6.get]
      .rfl
     .obtain ⟨h3,h4⟩:=dM hb0
      have:=hM.pr.inj b0 b c h4 hr
      omega
     .rcases Yh b0 (Hh i).n with h|h
      .have h3:=(dM (x1.old b0 c h hb0)).2
       have:=hM.pr.inj b0 b c h3 hr
       omega
      .rcases x1.new b0 c h hb0 with h3|⟨b2,h3,_⟩
       .omega
       .obtain ⟨h4,h5⟩:=dM h3
        have:=hM.pr.inj b2 b c h5 hr
        omega
    have hTN:=hN T' t2
    have hyget:∀ b,b<(Hh (i+1)).n->Hy.get b=(Hh (i+1)).get b:=λb hb=>by
     have:=b1.n
     rw [y3 b (by omega),if_pos (by omega),b1.get b hb]
    generalize hrho2:(λb=>if b<(Hh (i+1)).n then rho' b else rho b)=rho2
    have r2lo:∀ b,b<(Hh (i+1)).n->rho2 b=rho' b:=λb hb=>by rw [<- hrho2];exact if_pos hb
    have r2hi:∀ b,(Hh (i+1)).n<=b->rho2 b=rho b:=λb hb=>by rw [<- hrho2];exact if_neg (by omega)
    have m1:(mu rho' (Hh (i+1)) w').le (mu rho2 Hy w'):=⟨λb c ⟨g1,g2⟩=>⟨by rw [y1];have:=b1.n;omega,λha=>by rw [r2lo b g1];exact g2 (by rw [<- hyget b g1];exact ha)⟩,λ_ _ h=>h⟩
    have mX:(mu rho Hx w).le (mu rho2 Hy w'):=by
     refine ⟨λb c ⟨g1,g2⟩=>?_,x1.mu.2⟩
     rcases Yh b (Hh i).n with h|h
     .exact m1.1 b c (x1.mu.1 b c ⟨h,λha=>by rw [si h];exact g2 (by rw [hM.Zp b h];exact ha)⟩)
     .have hr:=g2 (hM.xhi b h g1)
      exact ⟨by rw [y1,<- hM.xn];exact g1,λ_=>by rw [r2hi b (wait b c hr h).1];exact hr⟩
    have cross:∀ b b' c,rho' b=some c->rho b'=some c->(Hh (i+1)).n<=b'->False:=λb b' c h1 h2 h3=>(pnd b' c h2 (by omega)).2.2.2 b h1
    have p2:PR P base w0 rho2 Hy w':=by
     refine ⟨p1.below,p1.cQ,by rw [y1,y2];have:=hhp.wn T' t2;omega,λb c hrb=>?_,λb b' c h1 h2=>?_,λb c hrb=>?_,λb hb=>y4 b (by rw [<- y1];exact hb),p1.gl.1,p1.gl.2.1,λb c hrb=>by
      rcases Yh b (Hh (i+1)).n with h|h
      .rw [r2lo b h]at hrb;exact p1.gl.2.2 b c hrb
      .rw [r2hi b h]at hrb;exact hM.pr.gl.2.2 b c hrb⟩
     .rcases Yh b (Hh (i+1)).n with h|h
      .rw [r2lo b h]at hrb
       obtain ⟨g1,g2,g3,g4⟩:=p1.jP b c hrb
       exact ⟨by rw [y1];have:=b1.n;omega,g2,g3,by rw [hyget b h];exact g4⟩
      .rw [r2hi b h]at hrb
       obtain ⟨g1,g2,g3,g4⟩:=hM.pr.jP b c hrb
       exact ⟨by rw [y1,<- hM.xn];exact g1,g2,YD g3 x1.size,by rw [(pnd b c hrb (by omega)).1];exact g4⟩
     .rcases Yh b (Hh (i+1)).n with h|h<;>rcases Yh b' (Hh (i+1)).n with h'|h'
      .rw [r2lo b h]at h1;rw [r2lo b' h']at h2;exact p1.inj b b' c h1 h2
      .rw [r2lo b h]at h1;rw [r2hi b' h']at h2;exact (cross b b' c h1 h2 h').elim
      .rw [r2hi b h]at h1;rw [r2lo b' h']at h2;exact (cross b' b c h2 h1 h).elim
      .rw [r2hi b h]at h1;rw [r2hi b' h']at h2;exact hM.pr.inj b b' c h1 h2
     .rcases Yh b (Hh (i+1)).n with h|h
      .rw [r2lo b h]at hrb
       obtain ⟨ob,g1,g2⟩:=p1.db b c hrb
       exact ⟨ob,g1,by rw [hyget b h];exact g2.mono m1⟩
      .rw [r2hi b h]at hrb
       obtain ⟨ob,g1,g2⟩:=hM.pr.db b c hrb
       obtain ⟨q1,_,q2,_⟩:=pnd b c hrb (by omega)
       exact ⟨ob,by rw [q2];exact g1,by rw [q1];exact g2.mono mX⟩
    have e1:Ext rho0 (Hh 0) w00 (cutAt (Hh i).n rho) (Hh i) w:=hM.ext.re hd0 hc0 h0out (h0N i hM.le) hM.xw.symm (λb hb=>(hM.Zp b (by have:=h0N i hM.le;omega)).symm) (λb hb=>si (by have:=h0N i hM.le;omega)) (λb c _ h=>YG (dM h).2) (λ_ _=>rfl) hM.ext.size
    have e2:=Ext.trans hd0 e1 x1
    have h01:=h0N (i+1) (by omega)
    have x3:Ext rho0 (Hh 0) w00 rho2 Hy w':=e2.re hd0 hc0 h0out (by rw [y1];exact h0N _ (YB _)) (by rw [y2,b2]) (λb hb=>hyget b (by omega)) (λb hb=>r2lo b (by omega)) (λb c hb hr=>by
     rcases Yh b (Hh (i+1)).n with h|h
     .exact YG (by rw [<- r2lo b h];exact hr)
     .rw [r2hi b h]at hr
      exact YE (wait b c hr (by omega)).2.1) (λ_ _=>rfl) e2.size
    refine ih _ _ _ T' rho2 Hy ⟨hsz',hC',t2,t3,λhb=>?_,λj hj hjh=>?_,y1,y2,λb hb=>by rw [y3 b (by omega),if_pos hb],λb hb hb'=>?_,p2,x3,hput (hM.tr.mono mX) (VR.mono m1 _ _ v1),(put_defers _ _ _).trans hM.defers,λb c hrb k hk hnk=>?_,λb c hrb k hk hkj hbk=>?_,λb c hrb hb=>?_⟩ hc'
    .rw [dc hil]at hb
     rcases hb with hb|hb
     .omega
     .rcases Yh T' ops.size with h|h
      .have hp:=t3 h
       rcases hiso T' i hp (by omega) hh.2 hin with h8|h8|h8
       .exact hnb (ep hE hM.closed T' i (YG hb) h8)
       .have:=gz hE i T' h8;omega
       .rw [hhal i hh]at h8;cases h8
      .unfold dN at hb
       rw [Yk,Array.getElem?_eq_none (by rw [hM.size];exact h)]at hb
       simp at hb
    .rw [dc hil]
     by_cases hji:j=i
     .exact YG hji
     .rcases Yh j i with h|h
      .exact YE (hM.MR j h hjh)
      .exact absurd hjh (t4 j (by omega) hj)
    .rw [y1]at hb'
     rw [y3 b hb',if_neg (by omega)]
     exact hM.xhi b (by have:=b1.n;omega) (by rw [hM.xn];exact hb')
    .rw [dc hil]at hnk
     have hki:k≠i:=λh=>hnk (YG h)
     rintro ⟨g1,g2⟩
     rcases Yh b (Hh (i+1)).n with hb|hb
     .rw [r2lo b hb]at hrb
      rcases Yh k i with h|h
      .have hn1:=(de hhp i hM.le (k+1) (by omega)).1
       exact hM.bound b c (dM (x1.old b c (by omega) hrb)).2 k h (λh=>hnk (YE h)) ⟨g1,g2⟩
      .have hn1:=(de hhp k (by omega) (i+1) (by omega)).1
       omega
     .rw [r2hi b hb]at hrb
      obtain ⟨_,_,i0,q1,q2,q3,_,q5,bl,ob,q6,_⟩:=wait b c hrb (by omega)
      have hk0:k≠i0:=λh=>hnk (YE (h ▸ q3))
      have:=q6.n
      rcases Yh k i0 with h|h
      .have:=(de hhp i0 (by omega) (k+1) (by omega)).1;omega
      .have:=(de hhp k (by omega) (i0+1) (by omega)).1;omega
    .rcases Yh b (Hh (i+1)).n with hb|hb
     .rw [r2lo b hb]at hrb
      rcases Yh i k with h|h
      .exact (p1.kn hrb).part (UO hhp k (by omega) (i+1) h λj h1 h2=>t4 j h1 (by omega)).1 hb
      .exact absurd hh (hkj i h (by omega))
     .rw [r2hi b hb]at hrb
      obtain ⟨_,_,i0,q1,q2,_,_,q5,bl,ob,q6,_,q7,_⟩:=wait b c hrb (by omega)
      have hk1:i0+1<=k:=by
       rcases Yh i0 k with h|h
       .exact h
       .have:=(de hhp i0 (by omega) k h).1;omega
      obtain ⟨q8,_⟩:=UO hhp k (by omega) (i0+1) hk1 λj h3 h4=>t4 j (by omega) (by omega)
      exact ⟨⟨λ_ _=>False,λ_ _=>False⟩,ob,by rw [q8.get b (by have:=q6.n;omega),q5,q6.get];exact q7 _,λ_ _ h=>h.elim⟩
    .have hb1:(Hh (i+1)).n<=b:=by have:=b1.n;omega
     rw [r2hi b hb1]at hrb
     obtain ⟨_,q0,i0,q1,q2,q3,q4,q5,bl,ob,q6,q7,q8,q9⟩:=wait b c hrb (by omega)
     refine ⟨q0,i0,?_,q2,(dc hil).2 (YE q3),q4,q5,bl,ob,q6,q7,q8,by rw [(pnd b c hrb (by omega)).1];exact q9⟩
     rcases Yh i0 T' with h|h
     .have:=(de hhp T' t2 (i0+1) h).1
      have:=q6.n
      omega
     .exact h
   rcases hs with ⟨hw,hv,hH⟩|⟨_,hpu,_⟩|⟨hw,hpu,his,hop⟩|⟨_,_,his,_⟩
   .simp only [hw _ _ hgt,YT,if_false]
    refine ⟨λ_ _=>trivial,adv (cutAt (Hh i).n rho) w undef (by rw [hH];exact prT) (by rw [hH];exact Ext.refl prT.lt) (by rw [hv];exact pY)⟩
   .rw [hh.2]at hpu;cases hpu
   .simp only [hw _ _ hgt,if_true]
    refine kq (hop rd base w0 _ w a prT orT) λa1 w1 hk=>?_
    obtain ⟨cv,rfl,rho1,v1,p1,x1⟩:=hk
    exact adv rho1 w1 cv p1 x1 v1
   .rw [hh.1]at his;cases his
  .have hiT:i≠T:=λh=>by subst h;exact hh (hM.RW hin)
   have hnot':¬ dN (listed.setIfInBounds i true) T:=λh=>by
    rw [dc hil]at h
    exact h.elim (λh=>hiT h.symm) hM.not
   have hbeen':∀ j,j<T->jt iso pur j->dN (listed.setIfInBounds i true) j:=λj hj hjh=>by rw [dc hil];exact YE (hM.MR j hj hjh)
   have adv:∀ (rho':Nat->Option Nat) (w':World) (cv:Value),PR P base w0 rho' Hx w'->Ext rho0 (Hh 0) w00 rho' Hx w'->(mu rho Hx w).le (mu rho' Hx w')->VR (mu rho' Hx w') (Vv i) cv->(∀ b c,rho' b=some c->rho b=some c\/(i<T/\(∀ j,i<=j->j<T->¬ jt iso pur j)/\(Hh i).n<=b/\b<(Hh (i+1)).n/\Kn P (Hh (i+1)) b))->wpAnyIn (WF rd) 0 P .any ops Q fuel (listed.setIfInBounds i true) (a.put o.dst cv) w':=λrho' w' cv p1 x1 m1 v1 hb=>by
    refine ih _ _ _ T rho' Hx ⟨hsz',hC',hM.le,hM.RW,hnot',hbeen',hM.xn,hM.xw,hM.Zp,hM.xhi,p1,x1,hput (hM.tr.mono m1) v1,(put_defers _ _ _).trans hM.defers,λb c hrb k hk hnk=>?_,λb c hrb k hk hkj hbk=>?_,λb c hrb hbT=>?_⟩ hc'
    .rw [dc hil]at hnk
     rcases hb b c hrb with h|⟨h1,_,h2,h3,_⟩
     .exact hM.bound b c h k hk λh=>hnk (YE h)
     .rintro ⟨g1,g2⟩
      have hki:k≠i:=λh=>hnk (YG h)
      have hTs:=hM.le
      rcases Yh k i with h|h
      .have:=(de hhp i (by omega) (k+1) (by omega)).1;omega
      .have:=(de hhp k (by omega) (i+1) (by omega)).1;omega
    .rcases hb b c hrb with h|⟨h1,h0,h2,h3,h4⟩
     .exact hM.kn b c h k hk hkj hbk
     .have hTs:=hM.le
      have hik:i+1<=k:=by
       rcases Yh i k with h|h
       .exact h
       .have:=(de hhp i (by omega) k h).1;omega
      exact h4.part (UO hhp k (by omega) (i+1) hik λj g1 g2=>h0 j (by omega) (by omega)).1 h3
    .rcases hb b c hrb with h|⟨h1,_,_,h3,_⟩
     .obtain ⟨q0,i0,q1,q2,q3,q4⟩:=hM.Kz b c h hbT
      exact ⟨q0,i0,q1,q2,(dc hil).2 (YE q3),q4⟩
     .have hTs:=hM.le
      have:=(de hhp T hTs (i+1) h1).1
      omega
   rcases hs with ⟨hw,hv,hH⟩|⟨hw,hpu,hH,hop⟩|⟨hw,hpu,his,hop⟩|⟨hw,hpu,his,H1,H1',g1,g2,g3,hop,g4,g5,g6,g7⟩
   .simp only [hw _ _ hgt,YT,if_false]
    exact ⟨λ_ _=>trivial,adv rho w undef hM.pr hM.ext ⟨λ_ _ h=>h,λ_ _ h=>h⟩ (by rw [hv];exact pY) λb c h=>YG h⟩
   .simp only [hw _ _ hgt,if_true]
    have hget:∀ b,B i=some b->∀ hi lo,lo<=hi->hi<=ops.size->(∀ k,lo<=k->k<hi->jt iso pur k->jG (Region.before ops) i k=false)->(Hh hi).get b=(Hh lo).get b:=λb hb hi=>by
     induction hi with
     | zero=>
      intro lo h1 _ _
      rw [show lo=0 by omega]
     | succ k ihk=>
      intro lo h1 h2 h3
      by_cases hlk:lo=k+1
      .rw [hlk]
      .have hbn:b<(Hh k).n:=by
        have:=hB i b hin hb
        have:=(de hhp k (by omega) 0 (Yf _)).1
        omega
       rw [<- ihk lo (by omega) (by omega) λq g1 g2=>h3 q g1 (by omega)]
       by_cases hhk:jt iso pur k
       .exact hkp i k b hin (by omega) hb hhk (h3 k (by omega) (by omega) hhk) hbn
       .exact (hhp.pG k (by omega) hhk).1.get b hbn
    have hok:∀ b,B i=some b->Hx.get b=(Hh i).get b:=λb hb=>by
     have hbT:b<(Hh T).n:=by
      have:=hB i b hin hb
      have:=h0N T hM.le
      omega
     rw [hM.Zp b hbT]
     rcases Yh i T with hlt|hge
     .refine hget b hb T i (by omega) hM.le λk g1 g2 g3=>?_
      have hki:k≠i:=λh=>by subst h;rw [g3.2]at hpu;cases hpu
      have hbk:=hM.MR k g2 g3
      unfold jG
      rw [QB]
      refine ⟨?_,?_⟩
      .cases hx:((Region.before ops).getD i 0).testBit k with
       | false=>rfl
       | true=>have:=gz hE i k hx;omega
      .cases hx:((Region.before ops).getD k 0).testBit i with
       | false=>rfl
       | true=>exact absurd (ep hE hM.closed k i (YG hbk) hx) hnb
     .refine (hget b hb i T hge (by omega) λk g1 g2 g3=>?_).symm
      have hnk:¬ dN listed k:=λhbk=>by
       by_cases hkT:k=T
       .subst hkT;exact hM.not hbk
       .rcases hiso T k (hM.RW (by omega)) (Ne.symm hkT) g3.2 (by omega) with h8|h8|h8
        .have:=gz hE T k h8;omega
        .exact hM.not (ep hE hM.closed k T (YG hbk) h8)
        .rw [hhal k g3]at h8;cases h8
      unfold jG
      rw [QB]
      refine ⟨?_,?_⟩
      .cases hx:((Region.before ops).getD i 0).testBit k with
       | false=>rfl
       | true=>exact absurd (hbi k hx) hnk
      .cases hx:((Region.before ops).getD k 0).testBit i with
       | false=>rfl
       | true=>have:=gz hE k i hx;omega
    refine kq (hop Hx hok rd base w0 rho w a hM.pr hor) λa1 w1 hk=>?_
    obtain ⟨cv,rfl,rho1,v1,p1,x1⟩:=hk
    exact adv rho1 w1 cv p1 (Ext.trans hd0 hM.ext x1) x1.mu v1 λb c h=>YG (x1.old b c (p1.lt b c h) h)
   .exact absurd ⟨his,hpu⟩ hh
   .simp only [hw _ _ hgt,if_true]
    by_cases hno:i<T/\∀ j,i<=j->j<T->¬ jt iso pur j
    .obtain ⟨hlt,hno⟩:=hno
     obtain ⟨b1',b2⟩:=UO hhp T hM.le i (by omega) hno
     obtain ⟨b3',b4⟩:=UO hhp T hM.le (i+1) hlt λj h2 h3=>hno j (by omega) h3
     have b1:=b1'.trans hpx
     have b3:=b3'.trans hpx
     have hnn:=(hhp.le i hin).1
     have hp1:Part H1 Hx:=⟨by rw [g1];exact b1.n,λb hb=>by rw [g2];exact b1.get b (by omega),λb hb=>by rw [g2];exact b1.out b (by omega)⟩
     have pc:PR P base w0 (cutAt H1.n rho) H1 w:=hM.pr.part hp1 (by omega) λb c hrb hb=>by
      obtain ⟨m,o',q1,q2⟩:=hM.kn b c hrb i (by omega) hno (by omega)
      exact ⟨m,o',by rw [g2];exact q1,λb' c' hm=>by rw [g1];exact q2 b' c' hm⟩
     have oc:OR (mu (cutAt H1.n rho) H1 w) nt (E i) a o:=low H1 hp1 (by omega)
     refine kq (hop rd base w0 _ w a pc oc) λa1 w1 hk=>?_
     obtain ⟨cv,rfl,rho1,v1,p1,x1⟩:=hk
     rw [g1]at x1
     obtain ⟨p2,m1,m2,e1,e2,e3⟩:=hM.pr.merge (Hi:=Hh i) (Hi':=Hh (i+1)) b1 b3 hnn (λb c hrb=>by
      rcases Yh b (Hh T).n with hbT|hbT
      .have:=hM.bound b c hrb i hlt hnb
       omega
      .have:=b3'.n
       omega) g1 p1 x1 g4 g5 g6 rfl
     have hN0:=(de hhp i (by omega) 0 (Yf _)).1
     refine adv _ w1 cv p2 (hM.ext.after hd0 hc0 (hhp.out 0 (Yf _)) hN0 e1 (λb c h=>(e2 b c h).imp id λh=>h.2.2.1) e3 x1.size) m1 (VR.mono m2 _ _ v1) λb c h=>?_
     rcases e2 b c h with h|⟨h2,h3,h4,h5⟩
     .exact YG h
     .refine YE ⟨hlt,hno,h2,h3,?_⟩
      obtain ⟨m,o',q1,q2⟩:=p1.kn h5
      exact ⟨m,o',by rw [g6];exact q1,λb' c' hm=>by rw [g5];exact q2 b' c' hm⟩
    .have hali:al i=true:=by
      rcases (show i<T\/(al i=true/\T<i) by
       rcases Yh T ops.size with h|h
       .exact hTn i hiT hpu hin h hnb hbi
       .exact YG (by omega)) with hlt|⟨h,_⟩
      .by_cases ha:al i=true
       .exact ha
       .exact absurd ⟨hlt,λj h2 h3 hj=>by
         have hbj:=hM.MR j h3 hj
         have hji:j≠i:=λh=>by subst h;exact hnb hbj
         rcases hiso j i hj hji hpu hin with h8|h8|h8
         .exact hnb (ep hE hM.closed j i (YG hbj) h8)
         .have:=gz hE i j h8;omega
         .exact ha h8⟩ hno
      .exact h
     rcases hal i o ho hali with ⟨hw2,_⟩|⟨⟨bl,k1,k2,k3,_,k4⟩,klate⟩
     .have h1:=hw _ _ hgt
      rw [hw2 _ _ hgt]at h1
      cases h1
     obtain ⟨ob,k4,k5⟩:=k4 _ a hor
     refine kq (k5 rd w) λa1 w1 hk=>?_
     obtain ⟨rfl,rfl⟩:=hk
     have hcase:T<i\/(i<T/\∀ k,i+1<=k->k<=T->(Hh k).get (Hh i).n=bl):=by
      rcases Yh T i with h|h
      .exact YG h
      .refine YE ⟨by omega,λk=>?_⟩
       induction k with
       | zero=>intro h1 _;omega
       | succ k ihk=>
        intro h1 h2
        by_cases hki:k=i
        .subst hki;exact k2.get
        .have hTs:=hM.le
         have hnk:(Hh i).n<(Hh k).n:=by
          have:=(de hhp k (by omega) (i+1) (by omega)).1
          have:=k2.n
          omega
         rw [<- ihk (by omega) (by omega)]
         by_cases hhk:jt iso pur k
         .refine klate k (by omega) hhk (by omega) ?_ hnk
          have hbk:=hM.MR k (by omega) hhk
          unfold jG
          rw [QB]
          refine ⟨?_,?_⟩
          .cases hx:((Region.before ops).getD i 0).testBit k with
           | false=>rfl
           | true=>have:=gz hE i k hx;omega
          .cases hx:((Region.before ops).getD k 0).testBit i with
           | false=>rfl
           | true=>exact absurd (ep hE hM.closed k i (YG hbk) hx) hnb
         .exact (hhp.pG k (by omega) hhk).1.get _ hnk
     have hearly:T<i->(Hh T).n<=(Hh i).n:=λh=>(de hhp i (by omega) T (by omega)).1
     have hlateN:i<T->(Hh i).n<(Hh T).n:=λh=>by
      have:=(de hhp T hM.le (i+1) (by omega)).1
      have:=k2.n
      omega
     have hb0N:(Hh i).n<(Hh ops.size).n:=by
      have:=hN (i+1) (by omega)
      have:=k2.n
      omega
     have hfree:∀ c,rho (Hh i).n≠some c:=λc hr=>by
      rcases hcase with hlt|⟨hlt,_⟩
      rotate_left
      .exact hM.bound _ c hr i hlt hnb ⟨YB _,by have:=k2.n;omega⟩
      obtain ⟨_,i0,q1,q2,q3,_,q5,bl',ob',q6,_⟩:=hM.Kz _ c hr (hearly hlt)
      have hne:i0≠i:=λh=>hnb (h ▸ q3)
      rcases Yh i0 i with h|h
      .have:=(de hhp i (by omega) (i0+1) h).1
       have:=q6.n
       omega
      .have:=(de hhp i0 (by omega) (i+1) (by omega)).1
       have:=k2.n
       omega
     have halive:(Hh i).n<Hx.n->(Hx.get (Hh i).n).alive:=λhlx=>by
      rcases hcase with hlt|⟨hlt,hkeep⟩
      .exact hM.xhi _ (hearly hlt) hlx
      .rw [hM.Zp _ (hlateN hlt),hkeep T (by omega) (YB _)]
       exact k3
     obtain ⟨Hy,y1,y2,y3,y4⟩:=Cf (λb=>if b=(Hh i).n then bl else Hx.get b) (Hh ops.size).n Hx.bz
     have hy0:Hy.get (Hh i).n=bl:=by rw [y3 _ hb0N,if_pos rfl]
     have hyo:∀ b,b≠(Hh i).n->Hy.get b=Hx.get b:=λb hb=>by
      rcases Yh b (Hh ops.size).n with h|h
      .rw [y3 b h,if_neg hb]
      .rw [y4 b h,hM.pr.out b (by rw [hM.xn];exact h)]
     have hold:∀ c,c<w.heap.size->(w.alloc ob).heap[c]? = w.heap[c]?:=λc hc=>Below.heap_alloc _ _ _ hc
     generalize hrho2:(λb=>if b=(Hh i).n then some w.heap.size else rho b)=rho2
     have r20:rho2 (Hh i).n=some w.heap.size:=by rw [<- hrho2];exact if_pos rfl
     have r2o:∀ b,b≠(Hh i).n->rho2 b=rho b:=λb hb=>by rw [<- hrho2];exact if_neg hb
     have mX:(mu rho Hx w).le (mu rho2 Hy (w.alloc ob)):=by
      refine ⟨λb c ⟨q1,q2⟩=>⟨by rw [y1,<- hM.xn];exact q1,λha=>?_⟩,λc z ⟨cs,e,fr,q1,q2⟩=>⟨cs,e,fr,by rw [hold c (YN.1 q1).1];exact q1,q2⟩⟩
      by_cases hb:b=(Hh i).n
      .subst hb
       exact absurd (q2 (halive q1)) (hfree c)
      .rw [r2o b hb]
       exact q2 (by rw [<- hyo b hb];exact ha)
     have p2:PR P base w0 rho2 Hy (w.alloc ob):=by
      refine ⟨oK hM.pr.below rfl rfl rfl (by simp) λk hk=>hold k (by have:=hM.pr.cQ;omega),by have:=hM.pr.cQ;simp;omega,by rw [y1,y2,<- hM.xn];exact hM.pr.wn,λb c hrb=>?_,λb b' c h1 h2=>?_,λb c hrb=>?_,λb hb=>y4 b (by rw [<- y1];exact hb),vA hM.pr.gl.1 λc hc=>hold c (hM.pr.gl.2.1 c hc),λc hc=>by have:=hM.pr.gl.2.1 c hc;simp;omega,λb c hrb hc=>by
       by_cases hb:b=(Hh i).n
       .subst hb
        rw [r20]at hrb
        cases hrb
        have:=hM.pr.gl.2.1 _ hc
        omega
       .rw [r2o b hb]at hrb
        exact hM.pr.gl.2.2 b c hrb hc⟩
      .by_cases hb:b=(Hh i).n
       .subst hb
        rw [r20]at hrb
        cases hrb
        exact ⟨by rw [y1];exact hb0N,hM.pr.cQ,by simp,by rw [hy0];exact k3⟩
       .rw [r2o b hb]at hrb
        obtain ⟨q1,q2,q3,q4⟩:=hM.pr.jP b c hrb
        exact ⟨by rw [y1,<- hM.xn];exact q1,q2,by simp;omega,by rw [hyo b hb];exact q4⟩
      .by_cases hb:b=(Hh i).n<;>by_cases hb':b'=(Hh i).n
       .omega
       .subst hb
        rw [r20]at h1
        cases h1
        rw [r2o b' hb']at h2
        have:=(hM.pr.jP b' _ h2).2.2.1
        omega
       .subst hb'
        rw [r20]at h2
        cases h2
        rw [r2o b hb]at h1
        have:=(hM.pr.jP b _ h1).2.2.1
        omega
       .rw [r2o b hb]at h1
        rw [r2o b' hb']at h2
        exact hM.pr.inj b b' c h1 h2
      .by_cases hb:b=(Hh i).n
       .subst hb
        rw [r20]at hrb
        cases hrb
        exact ⟨ob,World.alloc_heap_new w _,by rw [hy0];exact k4 _⟩
       .rw [r2o b hb]at hrb
        obtain ⟨o',q1,q2⟩:=hM.pr.db b c hrb
        exact ⟨o',by rw [hold c (hM.pr.jP b c hrb).2.2.1];exact q1,by rw [hyo b hb];exact q2.mono mX⟩
     have h0i:=h0N i (by omega)
     have x3:Ext rho0 (Hh 0) w00 rho2 Hy (w.alloc ob):=hM.ext.re hd0 hc0 h0out (by rw [y1];exact h0N _ (YB _)) y2 (λb hb=>hyo b (by omega)) (λb hb=>r2o b (by omega)) (λb c _ hr=>by
      by_cases hb:b=(Hh i).n
      .subst hb
       rw [r20]at hr
       cases hr
       exact YE hM.ext.size
      .exact YG (by rw [<- r2o b hb];exact hr)) (λc hc=>hold c (YD hc hM.ext.size)) (by have:=hM.ext.size;simp;omega)
     refine ih _ _ _ T rho2 Hy ⟨hsz',hC',hM.le,hM.RW,hnot',hbeen',y1,y2.trans hM.xw,λb hb=>by
      by_cases hbb:b=(Hh i).n
      .subst hbb
       rcases hcase with hlt|⟨hlt,hkeep⟩
       .have:=hearly hlt;omega
       .rw [hy0,hkeep T (by omega) (YB _)]
      .rw [hyo b hbb];exact hM.Zp b hb,λb hb hb'=>?_,p2,x3,hput (hM.tr.mono mX) ?_,(put_defers _ _ _).trans hM.defers,λb c hrb k hk hnk=>?_,λb c hrb k hk hkj hbk=>?_,λb c hrb hbT=>?_⟩ hc'
     .by_cases hbb:b=(Hh i).n
      .subst hbb;rw [hy0];exact k3
      .rw [hyo b hbb]
       exact hM.xhi b hb (by rw [hM.xn,<- y1];exact hb')
     .rw [k1]
      simp only [VR]
      exact ⟨_,rfl,by rw [y1];exact hb0N,λ_=>r20⟩
     .rw [dc hil]at hnk
      by_cases hb:b=(Hh i).n
      .rintro ⟨q1,q2⟩
       have hki:k≠i:=λh=>hnk (YG h)
       have hTs:=hM.le
       rcases Yh k i with h|h
       .have:=(de hhp i (by omega) (k+1) (by omega)).1;omega
       .have:=(de hhp k (by omega) (i+1) (by omega)).1
        have:=k2.n
        omega
      .rw [r2o b hb]at hrb
       exact hM.bound b c hrb k hk λh=>hnk (YE h)
     .by_cases hb:b=(Hh i).n
      .rcases hcase with hlt|⟨hlt,hkeep⟩
       .have:=(de hhp T hM.le k hk).1
        have:=hearly hlt
        omega
       .have hik:i+1<=k:=by
         rcases Yh i k with h|h
         .exact h
         .have:=(de hhp i (by omega) k h).1;omega
        subst hb
        exact ⟨⟨λ_ _=>False,λ_ _=>False⟩,ob,by rw [hkeep k hik hk];exact k4 _,λ_ _ h=>h.elim⟩
      .rw [r2o b hb]at hrb
       exact hM.kn b c hrb k hk hkj hbk
     .by_cases hb:b=(Hh i).n
      .subst hb
       rw [r20]at hrb
       cases hrb
       have hTi:T<i:=hcase.resolve_right λh=>by have:=hlateN h.1;omega
       exact ⟨hM.ext.size,i,by omega,hin,(dc hil).2 (YG rfl),hali,rfl,bl,ob,k2,k3,k4,hy0⟩
      .rw [r2o b hb]at hrb
       obtain ⟨q0,i0,q1,q2,q3,q4,q5,bl',ob',q6,q7,q8,q9⟩:=hM.Kz b c hrb hbT
       exact ⟨q0,i0,q1,q2,(dc hil).2 (YE q3),q4,q5,bl',ob',q6,q7,q8,by rw [hyo b hb];exact q9⟩
end walk
end
end Go.Ev
end

