/- EvC: a part of the evaluator,of its logic,or of the laws' walk in it. -/
import Derived.Test.YtalmhjlkdhlbiaaGreatDoorEvB
import Derived.OrdersIn
open Nat renaming le_refl → YA,lt_of_lt_of_le → YC,ble → YS,add → YX,lt_or_ge → Yf,mul → Yg,zero_le → Yk,le_trans → Ym,shiftLeft → Yp,blt → Yv,strongRecOn → Qy,lt_succ_self → YC2,lt_succ_of_lt → YG1,min → YJ4
open Or renaming inr → YE,inl → YG
open List renaming mem_cons_of_mem → YH,mem_cons_self → YI,mem_cons → YT,getElem?_map → Yh,all_eq_true → WL,mem_zipIdx_iff_getElem? → WM,getElem?_cons_zero → WU,mem_append_left → QH,foldl_cons → QU
open Array renaming getElem?_eq_some_iff → YK,getElem?_eq_getElem → YQ,getD_eq_getD_getElem? → Yj,getElem?_toList → Yo,foldl_toList → YA0
open Bool renaming false_eq_true → YU,and_eq_true → Yu,or_eq_false_iff → Wu,or_eq_true → YI3
open Option renaming map_eq_some_iff → YY,getD_some → Yn,bind_some → YC1
set_option linter.unusedVariables false
set_option linter.unusedSimpArgs false
set_option linter.unusedSectionVars false
section
namespace Go.Ev
open Go.RowKit
section
variable {P:Program} {nt:Nat} {o:Oper} {id:Nat} {ph:dg} {e:Env} {H:Heap} {k:K}
theorem SQ {a b} {f} (h:Kh a b f=1):f (YJ4 a b)=1:=by
 rcases bQ h with ⟨h1,h2⟩|⟨h1,h2⟩
 .simp_all
 .have:¬ a<=b:=λhle=>by rw [Nat.ble_eq_true_of_le hle]at h1;cases h1
  grind
theorem X0 {asL} {ts} (hop:o.op = .call {callee:=.builtin .copy,args:=asL,argTypes:=ts }) (h:aN (af P nt o) id ph e H k=1):Good P nt o e H k:=by
 simp only [af,hop,dh]at h
 have hnd:∀ c,o.op ≠ .defer c:=by simp [hop]
 split at h
 .rename_i d s t tr hx hts
  obtain ⟨p,q,rfl,hp',hq'⟩:=B8 hx
  have hts':ts[0]? = some t:=by rw [<- Yo,hts];rfl
  split at h
  .rename_i el hel
   split at h
   .rename_i size hs
    obtain ⟨i,hi,hisz⟩:∃ i,P.info? el=some i/\i.size=size:=by
     unfold pV at hs
     simp only [YY]at hs
     omega
    have hsz:∀ w,(sizeOf el).run P w = .ok size w:=λw=>by simp [sizeOf,typeInfo,hi,hisz]
    have h':Nt size d s id ph e H k=1:=h
    unfold Nt at h'
    rw [ai,ai]at h'
    have key:∀ (v) (H'),(∀ (base) (w0) (rho) (w) (cs cx),PR P base w0 rho H w->VR (mu rho H w) (aA d e) cs->VR (mu rho H w) (aA s e) cx->∃ cv w',(Builtin.copy_ ts o.type #[cs,cx]).run P w = .ok cv w'/\Left P base w0 rho H w v H' cv w')->eM P nt o e H v H':=λv H' hh=>
     eM.of_run hnd λbase w0 rho w a hp ho=>by
      obtain ⟨cv,w',h1,h2⟩:=hh base w0 rho w _ _ hp (ho p (by simp [hop,Op.operands,Call.operands]) d hp') (ho q (by simp [hop,Op.operands,Call.operands]) s hq')
      refine ⟨cv,w',?_,h2⟩
      rw [eU hop a.eval]
      simp [builtin,h1]
    rcases eA h' with ⟨b,off,dl,cp,sz,hsv,h1⟩|⟨hsv,h1⟩
    .obtain ⟨sl,h2,hlen⟩:=Om h1
     have h3:=SQ h2
     obtain ⟨n0,l,h4,hN⟩:=oG h3
     obtain ⟨h5,h6⟩:=kC h4
     have hrun:∀ {base} {w0 w} {rho} {cx} (c o' cap) (sp),PR P base w0 rho H w->VR (mu rho H w) (aA s e) cx->∃ cl:List Value,cj (mu rho H w) (l.take (YJ4 sl dl*size)) cl/\∀ w',(storeCells ⟨c,o',sp⟩ cl 0).run P w = .ok () w'->(Builtin.copy_ ts o.type #[.slice (some ⟨c,o',sp⟩) dl cap,cx]).run P w = .ok (.int .i64 (YJ4 sl dl)) w':=by
      intro base w0 w rho cx c o' cap sp hp vx
      have e1:=hlen _ _ vx w
      have e2:=hN.1 _ _ vx w
      rw [e1]at e2
      cases e2
      obtain ⟨hll,h7⟩:=hN.2 hp vx
      obtain ⟨cl,g1,g2⟩:=h7 (YJ4 sl dl) (Nat.min_le_left _ _)
      exact ⟨cl,g2,λw' hw'=>by simp [Builtin.copy_,hts',run_underlying (pL hel),e1,hsz,g1,hw',goInt]⟩
     cases hmin:YJ4 sl dl with
     | zero=>
      rw [hmin]at h6
      have h7:=h6
      refine ⟨_,_,key _ _ λbase w0 rho w cs cx hp vs vx=>?_,h7⟩
      rw [hsv]at vs
      obtain ⟨c,cap,o',sp,rfl,hm,_⟩:=vs
      obtain ⟨cl,g1,g2⟩:=hrun c o' cap sp hp vx
      rw [hmin,Nat.zero_mul,List.take_zero]at g1
      subst g1
      refine ⟨_,w,g2 w rfl,rho,?_,hp,Ext.refl hp.lt⟩
      rw [hmin]
      exact oU (by omega)
     | succ m=>
      rw [hmin]at h6
      have h7:=h6
      obtain ⟨H',h8,h9⟩:=kX h7
      have hone:=xD h7
      obtain ⟨hlt,h8⟩:=pF h8
      refine ⟨_,_,key _ _ λbase w0 rho w cs cx hp vs vx=>?_,h8⟩
      rw [hsv]at vs
      obtain ⟨c,cap,o',sp,rfl,hm,hle,hcp,ho'⟩:=vs
      obtain ⟨rfl,rfl⟩:o'=off/\sp=none:=by
       grind
      obtain ⟨cl,g1,g2⟩:=hrun c _ cap none hp vx
      rw [hmin]at g1
      obtain ⟨w',p1,p2,p3⟩:=h9 hp hm hone g1
      refine ⟨_,w',g2 w' p1,rho,?_,p2,p3⟩
      rw [hmin]
      exact oU hlt
    .obtain ⟨n0,l,h4,hN⟩:=oG h1
     refine ⟨_,_,key _ _ λbase w0 rho w cs cx hp vs vx=>?_,h4⟩
     rw [hsv]at vs
     subst vs
     have e1:=hN.1 _ _ vx w
     obtain ⟨hll,h7⟩:=hN.2 hp vx
     obtain ⟨cl,g1,g2⟩:=h7 0 (Yk _)
     have hm0:YJ4 n0 0=0:=Nat.min_zero _
     exact ⟨_,w,by simp [Builtin.copy_,hts',run_underlying (pL hel),e1,hsz,g1],rho,oU (by omega),hp,Ext.refl hp.lt⟩
   .exact (au h).elim
  .exact (au h).elim
 .exact (au h).elim
end
end Go.Ev
end
section
namespace Go.Ev
open Go.RowKit
section
variable {P:Program} {nt:Nat} {o:Oper} {id:Nat} {ph:dg} {e:Env} {H:Heap} {k:K}
theorem sJ (hc:af P nt o = .bad) (h:aN (af P nt o) id ph e H k=1):Good P nt o e H k:=by
 rw [hc]at h
 exact (au h).elim
theorem eu (hph:iM P ph) (h:aN (af P nt o) id ph e H k=1):Good P nt o e H k:=by
 cases hop:o.op with
 | move x=>exact Pr (.inl hop) h
 | assign x=>exact Pr (.inr hop) h
 | pick c x y=>exact X3 hop h
 | alloc t=>exact TC hop h
 | box t x=>exact abJ hop h
 | build t ps=>exact TE hop h
 | buildSlice t l ps=>exact Bz hop h
 | insert t m x y=>exact uy (.inr hop) h
 | mapUpdate t m x y=>exact uy (.inl hop) h
 | load t x=>exact X1 hop h
 | store t x y=>exact TJ hop h
 | nilCheck x=>exact X2 hop h
 | binOp op xt x y yt=>exact TD hop h
 | unOp op xt x=>exact X4 hop h
 | convert s d x=>exact KS hop h
 | makeInterface t x=>exact uR hop h
 | typeAssert x xt t ok=>exact BA hop h
 | makeFunc f first caps=>
  cases f with
  | func f=>exact Hz hop h
  | _=>exact sJ (by simp only [af,hop]) h
 | makeMap t r=>
  cases r with
  | none=>exact KU hop h
  | some r=>exact sJ (by simp only [af,hop]) h
 | makeSlice t l c=>exact Ek hop h
 | slice t x lo hi mx=>exact TH hop h
 | fieldAddr t x f=>exact Ei hop h
 | field t x f=>exact TF hop h
 | indexAddr t x i=>exact Ej hop h
 | index t x i=>exact TG hop h
 | lookup t m x ok=>exact Pq hop h
 | extract x i=>exact KT hop h
 | call c=>
  obtain ⟨callee,asL,ts⟩:=c
  cases callee with
  | value x=>
   cases x with
   | func f=>exact Hv hph hop h
   | tmp t=>exact KR hph hop h
   | _=>exact sJ (by simp only [af,hop]) h
  | builtin b=>
   cases b with
   | len=>exact abL hop h
   | cap=>exact abK hop h
   | append=>exact Po hop h
   | copy=>exact X0 hop h
   | delete=>exact Pp hop h
   | max=>exact abM (mx:=true) hop h
   | min=>exact abM (mx:=false) hop h
   | _=>exact sJ (by simp only [af,hop,dh]) h
  | _=>exact sJ (by simp only [af,hop]) h
 | _=>exact sJ (by simp only [af,hop]) h
end
end Go.Ev
end
section
namespace Go.Ev
open Go.RowKit
theorem jI {F} {n} {P} {o:Oper} {a} {w} {K K'} {Q} (h:o.wpIn F n P a w K (λ_ _ _=>False)) (hk:∀ a w,K a w->K' a w):o.wpIn F n P a w K' Q:=by
 refine ⟨h.1,?_⟩
 have h:=h.2
 generalize (o.semAt F.round a.eval).run P w=r at *
 cases r with
 | ok x w'=>
  cases x<;>simp only [Oper.uponIn]at h ⊢
  case value v=>simp_all
  case skip=>simp_all
  case defer d=>simp_all
  case enter f args=>
   refine ⟨h.1,CallsIn.mono h.2 λe w'' he=>?_⟩
   cases e with
   | returned u=>simp_all
   | panicked c=>simp_all
   | outgrown=>obtain ⟨_,_,h⟩:=he;simp_all
  case row row args=>exact ⟨h.1,RowsIn.mono h.2 λu w'' he=>hk _ _ he⟩
  case round l f tmps assign body=>
   refine ⟨h.1,RoundIn.mono h.2 λe w'' he=>?_⟩
   cases e with
   | returned u=>simp_all
   | panicked c=>simp_all
   | outgrown=>obtain ⟨_,_,h⟩:=he;simp_all
 | halt x w'=>
  cases x<;>simp only [Oper.uponIn]at h ⊢
theorem Xu {x} {b} {t f} (h:EY x b t f=1):(x = .bool b/\t=1)\/(x ≠ .bool b/\f=1):=by
 cases x<;>first|exact YE ⟨(by simp),h⟩|skip
 rename_i c
 cases c<;>cases b<;>first|exact YG ⟨rfl,h⟩|exact YE ⟨(by simp),h⟩
theorem TX {m} {x} {b} (h:VR m x (.bool b)):x = .bool b:=by
 cases x<;>simp only [VR]at h<;>first|rfl|rfl|rfl|simp_all|rfl
theorem oW {m}:VR m (.cE []) undef:=by
 exact ⟨#[],rfl,by rfl⟩
def GT (nt:Nat) (m:M) (e:Env) (ops:Array Oper) (o:Oper) (tmps:Array Value):Prop:=∀ j b o' d,o.guard=some (j,b)->ops[j]? = some o'->o'.dst=some d->d<nt->∃ v,tmps[d]? = some v/\VR m (aa (aX d) e) v
def GW (nt:Nat) (e:Env) (ops:Array Oper) (o:Oper) (b:Bool):Prop:=∀ (m:M) (tmps:Array Value),GT nt m e ops o tmps->Region.wanted o (yielded ops tmps)=b
theorem TR.gt {m:M} {nt:Nat} {e:Env} {tmps:Array Value} (h:TR m nt e tmps) (ops:Array Oper) (o:Oper):GT nt m e ops o tmps:=λj b o' d _ _ _ hlt=>by
 have hs:=h.size
 have hlt':d<tmps.size:=by rw [hs];exact hlt
 exact ⟨_,YQ hlt',h.get d _ (YQ hlt')⟩
theorem sh {nt} {e} {ops} {o} {g} (hg:guardOf nt ops o.guard=some g) {t f} (h:sg g e t f=1):
 (t=1/\GW nt e ops o true)\/(f=1/\GW nt e ops o false):=by
 unfold guardOf at hg
 split at hg
 .rename_i hn
  cases hg
  exact YG ⟨h,λm tmps ht=>by simp [Region.wanted,hn]⟩
 .rename_i j b hn
  split at hg
  .rename_i o' ho'
   split at hg
   .rename_i d hd
    split at hg
    .rename_i hlt
     cases hg
     have h':gV (aX d) e (λv=>EY v b t f)=1:=h
     rw [dX]at h'
     rcases Xu h' with ⟨h1,h2⟩|⟨h1,h2⟩
     .refine YG ⟨h2,λm tmps ht=>?_⟩
      obtain ⟨c,hex,h3⟩:=ht j b o' d hn ho' hd hlt
      rw [h1]at h3
      simp only [VR]at h3
      simp [Region.wanted,hn,yielded,ho',hd,hex,h3]
     .refine YE ⟨h2,λm tmps ht=>?_⟩
      obtain ⟨c,hex,h3⟩:=ht j b o' d hn ho' hd hlt
      have h4:yielded ops tmps j≠some b:=by
       simp only [yielded,ho',YC1,hd,hex]
       split
       .rename_i c hc
        rw [Option.some.injEq]at hc
        rw [hc]at h3
        intro he
        cases he
        exact h1 (TX h3)
       simp
      simp [Region.wanted,hn,h4]
    simp_all
   simp_all
  simp_all
def dK (d:Option Slot) (v:V) (e:Env):Env:=match d with
 | none=>e
 | some s=>kJ s v e
theorem cw (d) (v) (e) (k):bX d v e k=k (dK d v e):=by
 cases d with
 | none=>rfl
 | some s=>exact rX s v e k
theorem qK {m} {nt} {e} {a:Act} (h:TR m nt e a.tmps) {dst} {d} (hd:rE nt dst=some d) {v} {c} (hv:VR m v c):TR m nt (dK d v e) (a.put dst c).tmps:=by
 unfold rE at hd
 split at hd
 .cases hd;exact h
 .split at hd
  .rename_i hlt
   cases hd
   exact h.put hlt hv
  simp_all
theorem put_defers (a:Act) (dst) (c):(a.put dst c).defers=a.defers:=by cases dst<;>rfl
def RS (P:Program) (nt:Nat) (ops:Array Oper) (l:List Oper) (e:Env) (H:Heap) (e':Env) (H':Heap):Prop:=
 ∀ (rd:Option Nat) (base:Nat) (w0:World) (rho:Nat->Option Nat) (w:World) (a:Act),PR P base w0 rho H w->TR (mu rho H w) nt e a.tmps->
  ∀ (Q:Exit->Act->World->Prop),(∀ a' w' rho',a'.defers=a.defers->PR P base w0 rho' H' w'->TR (mu rho' H' w') nt e' a'.tmps->Ext rho H w rho' H' w'->Q .normal a' w')->wpListIn (WF rd) 0 P ops Q l a w
theorem wC {P} {nt} {ph} {ops} {base} {pl al} {bf} (hph:iM P ph):∀ (l) (i) (r) (e) (H) (k),du P nt base ops pl al bf l i=some r->iQ ph r e H k=1->
 ∃ e' H',RS P nt ops l e H e' H'/\k e' H'=1
 | [],i,r,e,H,k,hc,h=>by
  simp only [du,Option.some.injEq]at hc
  subst hc
  exact ⟨e,H,λrd base w0 rho w a hp ht Q hq=>hq a w rho rfl hp ht (Ext.refl hp.lt),h⟩
 | o :: l,i,r,e,H,k,hc,h=>by
  simp only [du]at hc
  split at hc
  .rename_i d g r' hd hg hr
   cases hc
   have h':=h
   rcases sh hg h' with ⟨h1,h2⟩|⟨h1,h2⟩
   .obtain ⟨v,H1,h3,h4⟩:=eu hph h1
    replace h4:bX d v e (λe'=>iQ ph r' e' H1 k)=1:=h4
    rw [cw]at h4
    obtain ⟨e',H',h5,h6⟩:=wC hph l (i+1) r' _ _ k hr h4
    refine ⟨e',H',λrd base w0 rho w a hp ht Q hq=>?_,h6⟩
    simp only [wpListIn,h2 _ _ (ht.gt ops o),if_true]
    refine jI (h3 rd base w0 rho w a hp (ht.or o)) λa1 w1 hk=>?_
    obtain ⟨cv,rfl,rho1,v1,p1,x1⟩:=hk
    exact h5 rd base w0 rho1 w1 _ p1 (qK (ht.mono x1.mu) hd v1) Q λa' w' rho' q1 q2 q3 q4=>hq a' w' rho' (q1.trans (put_defers _ _ _)) q2 q3 (Ext.trans hp.lt x1 q4)
   .rw [cw]at h1
    obtain ⟨e',H',h5,h6⟩:=wC hph l (i+1) r' _ _ k hr h1
    refine ⟨e',H',λrd base w0 rho w a hp ht Q hq=>?_,h6⟩
    simp only [wpListIn,h2 _ _ (ht.gt ops o),YU,if_false]
    refine ⟨λ_ _=>trivial,?_⟩
    exact h5 rd base w0 rho w _ hp (qK ht hd oW) Q λa' w' rho' q1 q2 q3 q4=>hq a' w' rho' (q1.trans (put_defers _ _ _)) q2 q3 q4
  .cases hc
end Go.Ev
end
section
namespace Go.Ev
open Go.RowKit
def aD {α:Type} (f:(α->R)->R):Prop:=(∃ a,∀ k,f k=k a)\/∀ k,f k≠1
section
variable {α β:Type} {id:Nat}
theorem aD.ret (a:α):aD λk=>k a:=YG ⟨a,λ_=>rfl⟩
theorem aD.no (c:Nat):aD λ_:α->R=>no c:=YE λk h=>au h
theorem aD.bind {f:(β->R)->R} {g:β->(α->R)->R} (h:aD f) (hg:∀ b,aD (g b)):aD λk=>f λb=>g b k:=by
 rcases h with ⟨b,hb⟩|h
 .rcases hg b with ⟨a,ha⟩|h
  .exact YG ⟨a,λk=>(hb _).trans (ha k)⟩
  .exact YE λk=>by show f _≠1;rw [hb];exact h k
 .exact YE λk=>h _
theorem aD.aE {b:Bool} {f g:(α->R)->R} (hf:aD f) (hg:aD g):aD λk=>Ev.aE b (f k) (g k):=by
 cases b
 .exact hg
 .exact hf
theorem aD.aI {a:Arg} {e:Env} {g:V->(α->R)->R} (hg:∀ b,aD (g b)):aD λk=>Ev.aI a e λb=>g b k:=by
 simp only [ai];exact hg _
theorem aD.nZ {l:List Arg} {e:Env} {g:List V->(α->R)->R} (hg:∀ b,aD (g b)):aD λk=>Ev.nZ l e λb=>g b k:=by
 simp only [gH];exact hg _
theorem aD.av {n:Nat} {g:Nat->(α->R)->R} (hg:∀ b,aD (g b)):aD λk=>Ev.av n λb=>g b k:=by
 simp only [ay];exact hg _
theorem aD.cC {x:V} {g:Nat->Nat->(α->R)->R} (hg:∀ a b,aD (g a b)):aD λk=>Ev.cC id x λa b=>g a b k:=by
 cases x<;>first|exact YE λk h=>au h|exact hg _ _
theorem aD.eF {x:V} {g:Bool->(α->R)->R} (hg:∀ a,aD (g a)):aD λk=>Ev.eF id x λa=>g a k:=by
 cases x<;>first|exact YE λk h=>au h|exact hg _
theorem aD.ec {x:V} {g:Nat->Nat->(α->R)->R} (hg:∀ a b,aD (g a b)):aD λk=>Ev.ec id x λa b=>g a b k:=by
 cases x<;>first|exact YE λk h=>au h|exact hg _ _
theorem aD.dQ {x:V} {g:Nat->Nat->(α->R)->R} (hg:∀ a b,aD (g a b)):aD λk=>Ev.dQ id x λa b=>g a b k:=by
 cases x<;>first|exact YE λk h=>au h|exact hg _ _
theorem aD.lF {x:V} {g:Nat->Nat->Nat->Nat->Nat->(α->R)->R} (hg:∀ a b c d e,aD (g a b c d e)):aD λk=>Ev.lF id x λa b c d e=>g a b c d e k:=by
 cases x<;>first|exact YE λk h=>au h|exact hg _ _ _ _ _
theorem aD.bz {x:V} {g:Nat->Nat->Nat->Nat->Nat->(α->R)->R} {z:(α->R)->R} (hg:∀ a b c d e,aD (g a b c d e)) (hz:aD z):aD λk=>Ev.bz id x (λa b c d e=>g a b c d e k) (z k):=by
 cases x<;>first|exact YE λk h=>au h|exact hg _ _ _ _ _|exact hz
theorem aD.jj {x:V} {g:List V->(α->R)->R} (hg:∀ a,aD (g a)):aD λk=>Ev.jj id x λa=>g a k:=by
 cases x<;>first|exact YE λk h=>au h|exact hg _
theorem aD.yk {x:V} {g:List V->(α->R)->R} (hg:∀ a,aD (g a)):aD λk=>Ev.yk id x λa=>g a k:=by
 cases x<;>first|exact YE λk h=>au h|exact hg _
theorem aD.dO {x:V} {g:List V->(α->R)->R} (hg:∀ a,aD (g a)):aD λk=>Ev.dO id x λa=>g a k:=by
 cases x<;>first|exact hg _|exact YE λk h=>au h
theorem aD.vIf {t:Nat} {x:V} {g:V->(α->R)->R} (hg:∀ a,aD (g a)):aD λk=>Ev.vIf id t x λa=>g a k:=by
 cases x<;>first|exact YE λk h=>au h|exact aD.aE (hg _) (aD.no 0)
theorem KW {x}:aD (gf id x):=by
 cases x<;>first|exact YE λk h=>au h|exact YG ⟨_,λ_=>rfl⟩|skip
 rename_i b
 cases b<;>exact YG ⟨_,λ_=>rfl⟩
theorem aD.gf {x:V} {g:Nat->(α->R)->R} (hg:∀ a,aD (g a)):aD λk=>Ev.gf id x λa=>g a k:=aD.bind KW hg
theorem vE:∀ (l) (i),aD (nth id l i)
 | [],i=>YE λk h=>au h
 | v :: l,0=>YG ⟨v,λ_=>rfl⟩
 | v :: l,i+1=>vE l i
theorem aD.nth {l:List V} {i:Nat} {g:V->(α->R)->R} (hg:∀ a,aD (g a)):aD λk=>Ev.nth id l i λa=>g a k:=aD.bind (vE l i) hg
theorem jF:∀ (l) (i),aD (takeN id l i)
 | [],0=>YG ⟨[],λ_=>rfl⟩
 | [],_+1=>YE λk h=>au h
 | v :: l,0=>YG ⟨[],λ_=>rfl⟩
 | v :: l,i+1=>aD.bind (g:=λr k=>k (v :: r)) (jF l i) λr=>aD.ret _
theorem aD.takeN {l:List V} {i:Nat} {g:List V->(α->R)->R} (hg:∀ a,aD (g a)):aD λk=>Ev.takeN id l i λa=>g a k:=aD.bind (jF l i) hg
theorem jE:∀ (l) (i),aD (eY id l i)
 | [],0=>YG ⟨[],λ_=>rfl⟩
 | [],_+1=>YE λk h=>au h
 | v :: l,0=>YG ⟨v :: l,λ_=>rfl⟩
 | v :: l,i+1=>jE l i
theorem aD.eY {l:List V} {i:Nat} {g:List V->(α->R)->R} (hg:∀ a,aD (g a)):aD λk=>Ev.eY id l i λa=>g a k:=aD.bind (jE l i) hg
theorem xz:∀ (m l),aD (over id m l)
 | [],l=>YG ⟨l,λ_=>rfl⟩
 | x :: m,[]=>YE λk h=>au h
 | x :: m,y :: l=>aD.bind (g:=λr k=>k (x :: r)) (xz m l) λr=>aD.ret _
theorem tI {m}:∀ (l) (i),aD (setAt id m l i)
 | [],0=>xz (id:=id) m []
 | [],_+1=>YE λk h=>au h
 | v :: l,0=>xz (id:=id) m (v :: l)
 | v :: l,i+1=>aD.bind (g:=λr k=>k (v :: r)) (tI l i) λr=>aD.ret _
theorem aD.gj {x:Option Arg} {e:Env} {d:Nat} {g:Nat->(α->R)->R} (hg:∀ a,aD (g a)):aD λk=>Ev.gj id x e d λa=>g a k:=by
 cases x with
 | none=>exact hg d
 | some a=>exact aD.aI λv=>aD.cC λkd n=>aD.aE (aD.aE (hg n) (aD.no 0)) (aD.no 0)
theorem aD.idx {i:Arg} {e:Env} {len:Nat} {g:Nat->(α->R)->R} (hg:∀ a,aD (g a)):aD λk=>Ev.idx id i e len λa=>g a k:=
 aD.aI λv=>aD.cC λkd n=>aD.aE (aD.aE (aD.aE (hg n) (aD.no 0)) (aD.no 0)) (aD.no 0)
theorem zE {e}:∀ (ps) (z),aD (jU id e ps z)
 | [],z=>YG ⟨z,λ_=>rfl⟩
 | (off,size,a):: ps,z=>aD.aI λv=>aD.dO λl=>aD.aE (aD.bind (tI z off) λz'=>zE ps z') (aD.no 0)
end
theorem Pz {id} (f) (a b):aD (iA id f a b):=by
 cases f<;>first
  | exact aD.av λn=>aD.ret n
  | exact aD.aE (aD.av λn=>aD.ret n) (aD.aE (aD.ret 0) (aD.no 0))
  | exact aD.aE (aD.aE (aD.av λn=>aD.ret n) (aD.aE (aD.ret 0) (aD.no 0))) (aD.no 0)
  | exact aD.aE (aD.aE (aD.aE (aD.no 0) (aD.av λn=>aD.ret n)) (aD.no 0)) (aD.no 0)
theorem aD.iA {α:Type} {id:Nat} {f:BF} {a b:Nat} {g:Nat->(α->R)->R} (hg:∀ a,aD (g a)):aD λk=>Ev.iA id f a b λa=>g a k:=aD.bind (Pz f a b) hg
theorem aD.jU {α:Type} {id:Nat} {e:Env} {ps:List (Nat × Nat × Arg)} {z:List V} {g:List V->(α->R)->R} (hg:∀ a,aD (g a)):aD λk=>Ev.jU id e ps z λa=>g a k:=aD.bind (zE ps z) hg
theorem HB {id} (c) (x y):aD (Gw id c x y):=by
 match c with
 | 0=>exact aD.eF (id:=id) λa=>aD.eF λb=>aD.aE (aD.ret b) (aD.aE (aD.ret false) (aD.ret true))
 | 1=>exact aD.cC (id:=id) λk1 a=>aD.cC λk2 b=>aD.aE (aD.ret _) (aD.no 0)
 | c+2=>exact aD.ec (id:=id) λl1 a=>aD.ec λl2 b=>aD.aE (aD.ret _) (aD.ret false)
theorem Ew {id}:∀ (cls) (l m),aD (lq id cls l m)
 | [],l,m=>YG ⟨true,λ_=>rfl⟩
 | c :: cls,[],m=>YE λk h=>au h
 | c :: cls,a :: l,[]=>YE λk h=>au h
 | c :: cls,a :: l,b :: m=>aD.bind (g:=λr k=>Ev.aE r (lq id cls l m k) (k false)) (HB c a b) λr=>aD.aE (Ew cls l m) (aD.ret false)
theorem aD.lq {α:Type} {id:Nat} {cls:List Nat} {l m:List V} {g:Bool->(α->R)->R} (hg:∀ a,aD (g a)):aD λk=>Ev.lq id cls l m λa=>g a k:=aD.bind (Ew cls l m) hg
theorem PA {P:Program} {nt:Nat} {c} {id} {ph} {e} (hp:bN c=true) (H):aD λk:V->R=>aN c id ph e H λv _=>k v:=by
 cases c<;>simp only [bN,YU]at hp
 case kU x=>exact aD.aI λv=>aD.ret v
 case jM cls neg x y=>exact aD.aI λx=>aD.jj λl=>aD.aI λy=>aD.jj λm=>aD.aE (aD.aE (aD.lq λb=>aD.aE (aD.aE (aD.ret _) (aD.ret _)) (aD.ret _)) (aD.no 0)) (aD.no 0)
 case pick c x y=>exact aD.aI λc=>aD.eF λb=>aD.aE (aD.aI λv=>aD.ret v) (aD.aI λv=>aD.ret v)
 case build z ps=>exact aD.jU λl=>aD.ret _
 case OI x=>
  refine aD.aI λv=>?_
  cases v<;>first|exact aD.ret _|exact aD.no 0
 case bin=>exact aD.aI λx=>aD.cC λk1 a=>aD.aI λy=>aD.cC λk2 b=>aD.aE (aD.aE (aD.iA λr=>aD.ret _) (aD.no 0)) (aD.no 0)
 case cmp=>exact aD.aI λx=>aD.cC λk1 a=>aD.aI λy=>aD.cC λk2 b=>aD.aE (aD.aE (aD.aE (aD.ret _) (aD.ret _)) (aD.no 0)) (aD.no 0)
 case Ps=>exact aD.aI λx=>aD.ec λk1 a=>aD.aI λy=>aD.ec λk2 b=>aD.av λl=>aD.aE (aD.av λn=>aD.ret _) (aD.no 0)
 case Pv=>exact aD.aI λx=>aD.ec λk1 a=>aD.aI λy=>aD.ec λk2 b=>aD.aE (aD.aE (aD.aE (aD.ret _) (aD.ret _)) (aD.ret _)) (aD.ret _)
 case eqv=>exact aD.aI λx=>aD.gf λa=>aD.aI λy=>aD.gf λb=>aD.aE (aD.aE (aD.aE (aD.aE (aD.no 0) (aD.aE (aD.ret _) (aD.ret _))) (aD.ret _)) (aD.no 0)) (aD.no 0)
 case Oo=>exact aD.aI λx=>aD.eF λb=>aD.aE (aD.ret _) (aD.ret _)
 case qb src dst mode c x=>
  refine aD.aI λv=>?_
  cases mode with
  | zero=>exact aD.cC λk1 a=>aD.aE (aD.av λr=>aD.ret _) (aD.no 0)
  | succ m=>exact aD.cC λk1 a=>aD.aE (aD.aE (aD.ret _) (aD.av λr=>aD.ret _)) (aD.no 0)
 case mkI=>exact aD.aI λv=>aD.ret _
 case tas=>exact aD.aI λv=>aD.vIf λu=>aD.ret _
 case Zu=>exact aD.nZ λv=>aD.ret _
 case slS=>exact aD.aI λx=>aD.ec λlen n=>aD.gj λh=>aD.gj λl=>aD.aE (aD.aE (aD.av λd=>aD.av λr=>aD.ret _) (aD.no 0)) (aD.no 0)
 case slV size x lo hi mx=>
  refine aD.aI λv=>?_
  cases mx with
  | none=>
   exact aD.bz (λb o len cp sz=>by
    cases cp with
    | zero=>exact aD.gj λl=>aD.gj λh=>aD.aE (aD.av λd=>aD.aE (aD.aE (aD.av λo'=>aD.ret _) (aD.no 0)) (aD.no 0)) (aD.no 0)
    | succ q=>exact aD.gj λl=>aD.gj λh=>aD.aE (aD.av λd=>aD.aE (aD.aE (aD.ret _) (aD.av λo'=>aD.av λc'=>aD.ret _)) (aD.no 0)) (aD.no 0)) (aD.gj λl=>aD.gj λh=>aD.gj λm=>aD.aE (aD.aE (aD.aE (aD.ret _) (aD.no 0)) (aD.no 0)) (aD.no 0))
  | some m=>
   exact aD.bz (λb o len cp sz=>aD.gj λl=>aD.gj λh=>aD.aE (aD.av λd=>aD.gj λm=>aD.aE (aD.aE (aD.aE (aD.ret _) (aD.av λo'=>aD.av λc'=>aD.ret _)) (aD.no 0)) (aD.no 0)) (aD.no 0)) (aD.gj λl=>aD.gj λh=>aD.gj λm=>aD.aE (aD.aE (aD.aE (aD.ret _) (aD.no 0)) (aD.no 0)) (aD.no 0))
 case slA=>exact aD.aI λx=>aD.dQ λb o=>aD.gj λm=>aD.gj λh=>aD.gj λl=>aD.aE (aD.aE (aD.aE (aD.av λd=>aD.aE (aD.ret _) (aD.av λo'=>aD.av λc'=>aD.ret _)) (aD.no 0)) (aD.no 0)) (aD.no 0)
 case fW=>exact aD.aI λx=>aD.dQ λb o=>aD.av λo'=>aD.ret _
 case Xl=>exact aD.aI λx=>aD.jj λl=>aD.nth λv=>aD.ret _
 case Sy=>exact aD.aI λx=>aD.jj λl=>aD.eY λr=>aD.takeN λq=>aD.ret _
 case Xx=>exact aD.aI λx=>aD.dQ λb o=>aD.idx λn=>aD.av λo'=>aD.ret _
 case A0=>exact aD.aI λx=>aD.lF λb o _ _ _=>aD.idx λn=>aD.av λo'=>aD.ret _
 case ixS=>exact aD.aI λx=>aD.ec λb o=>aD.idx λn=>aD.av λo'=>aD.ret _
 case ixG=>exact aD.aI λx=>aD.jj λl=>aD.idx λn=>aD.aE (aD.eY λr=>aD.takeN λq=>aD.ret _) (aD.nth λv=>aD.ret _)
 case NW=>exact aD.aI λx=>aD.yk λl=>aD.nth λv=>aD.ret _
theorem tF {c} {id} {ph} {e} (hp:bN c=true) (H H2) (k):aN c id ph e H k=aN c id ph e H2 λv _=>k v H:=by
 cases c<;>simp only [bN,YU]at hp<;>rfl
theorem xj {P} {nt} {o} {id} {ph} {e} {H} {k} (hph:iM P ph) (hp:bN (af P nt o)=true) (h:aN (af P nt o) id ph e H k=1):∃ v,(∀ H2,eM P nt o e H2 v H2)/\k v H=1:=by
 rcases PA (P:=P) (nt:=nt) hp H with ⟨v,hv⟩|hv
 .have hv':∀ k:V->R,(aN (af P nt o) id ph e H λv _=>k v)=k v:=hv
  refine ⟨v,λH2=>?_,?_⟩
  .classical
   have h2:aN (af P nt o) id ph e H2 (λv' H'=>if v'=v/\H'=H2 then 1 else 0)=1:=by
    rw [tF hp H2 H]
    simp_all
   obtain ⟨v',H',h3,h4⟩:=eu hph h2
   simp_all
  .rw [tF hp H H]at h
   simp_all
 .rw [tF hp H H]at h
  simp_all
end Go.Ev
end
section
namespace Go.Ev
open Go.RowKit
def gq (P:Program) (nt:Nat) (ops:Array Oper) (iso pur:Bool) (B:Option Nat) (o:Oper) (e:Env) (H:Heap) (v:V) (e':Env) (H':Heap):Prop:=
 ∃ d,rE nt o.dst=some d/\e'=dK d v e/\
  ((GW nt e ops o false/\v = .cE []/\H'=H)\/
   (GW nt e ops o true/\pur=true/\H'=H/\∀ H2:Heap,(∀ b,B=some b->H2.get b=H.get b)->eM P nt o e H2 v H2)\/
   (GW nt e ops o true/\pur=false/\iso=true/\eM P nt o e H v H')\/
   (GW nt e ops o true/\pur=false/\iso=false/\∃ H1 H1':Heap,H1.n=H.n/\(∀ b,H1.get b=H.get b)/\H1.bC=H.n/\eM P nt o e H1 v H1'/\H.n<=H1'.bC/\H'.n=H1'.n/\(∀ b,H'.get b=H1'.get b)/\H'.bC=H.bC))
def qj (P:Program) (nt:Nat) (e:Env) (o:Oper) (H:Heap) (v:V) (H':Heap):Prop:=∃ (bl:ee),v = .ptr H.n 0/\nI H bl H'/\bl.alive/\bl ≠ .mark/\∀ (m:M) (a:Act),OR m nt e a o->∃ ob:Obj,(∀ m,BR P m bl ob)/\
 ∀ (rd:Option Nat) (w:World),o.wpIn (WF rd) 0 P a w (λa' w'=>a'=a.put o.dst (.pointer (some ⟨w.heap.size,0,none⟩))/\w'=w.alloc ob) (λ_ _ _=>False)
theorem qj.ops {P:Program} {nt:Nat} {o:Oper} {e:Env} {H H':Heap} {v:V} (h:qj P nt e o H v H'):eM P nt o e H v H':=λrd base w0 rho w a hp ho=>by
 obtain ⟨bl,rfl,hN,ha,hm,hx⟩:=h
 obtain ⟨ob,hb,hx⟩:=hx _ a ho
 refine jI (hx rd w) λa' w' hk=>?_
 obtain ⟨rfl,rfl⟩:=hk
 obtain ⟨p1,p2⟩:=hp.alloc (w':=w.alloc ob) (o:=ob) hN.n hN.bC hN.get hN.tC ha ⟨rfl,rfl,rfl⟩ (by simp) (World.alloc_heap_new w _) (λj hj=>Below.heap_alloc _ _ _ hj) (hb _)
 exact ⟨_,rfl,_,by simp only [VR];exact ⟨_,rfl,by rw [hN.n];omega,λ_=>by simp⟩,p1,p2⟩
theorem Rx {P} {op} {t} {c} {x y}:kG (iN P op t c x y)=false:=by
 unfold iN
 (repeat' split)<;>rfl
theorem Vx {k} {op} {x y}:kG (mU k op x y)=false:=by
 unfold mU
 (repeat' split)<;>rfl
theorem Vw {P} {op} {xt yt} {x y}:kG (pt P op xt yt x y)=false:=by
 unfold pt lO lP
 (repeat' split)<;>first|rfl|exact Vx|exact Rx
theorem Ry {k k'} {x}:kG (sV k k' x)=false:=by
 unfold sV
 (repeat' split)<;>rfl
theorem Fp {P} {nt} {b} {asL} {ts}:kG (dh P nt b asL ts)=false:=by
 unfold dh
 (repeat' split)<;>rfl
theorem ZX {P} {nt} {o} {id} {ph} {e} {H} {k} (hal:kG (af P nt o)=true) (h:aN (af P nt o) id ph e H k=1):∃ v H',qj P nt e o H v H'/\k v H'=1:=by
 have hop:∃ t,o.op = .alloc t:=by
  unfold af at hal
  split at hal<;>first
   | grind
   | (revert hal; (repeat' split)<;>first | (rw [Vw];simp) | (rw [Ry];simp) | (rw [Fp];simp) | simp [kG])
 obtain ⟨t,hop⟩:=hop
 simp only [af,hop]at h
 have hnd:∀ c,o.op ≠ .defer c:=by simp [hop]
 have key:∀ (z) (bl),qi P t=some z->rowOf bl=some z->(∀ len n,bl = .bytes len n->n<256 ^ len)->bl ≠ .mark->(cA H bl λn H=>k (.ptr n 0) H)=1->∃ v H',qj P nt e o H v H'/\k v H'=1:=by
  intro z bl hz bM hcan hmk h'
  obtain ⟨H',h1,h2⟩:=dr h'
  obtain ⟨i,zv,hi,hzv,hvr,hone⟩:=me hz
  refine ⟨_,H',⟨bl,rfl,h2,(gi bM).1,hmk,λm a _=>⟨.cells zv.cells t,λm=>lH bM hcan (ie.exact (hvr _) hone),λrd w=>⟨ig P o a w rd,?_⟩⟩⟩,h1⟩
  rw [semAt_eq hnd]
  have hex:(execOp a.eval o).run P w = .ok (.value (.pointer (some ⟨w.heap.size,0,none⟩))) (w.alloc (.cells zv.cells t)):=by
   simp [execOp,hop,Instr.alloc,zeroValue,typeInfo,hi,hzv,newVar,newRow]
  rw [hex]
  exact ⟨rfl,rfl⟩
 split at h
 .rename_i z n el hz hu
  split at h
  .rename_i hc
   simp only [Yu,beq_iff_eq]at hc
   have hzz:=Ju hc.1
   rw [hc.2]at hzz
   exact key z (.bytes n 0) hz (by rw [hzz];rfl) (λlen m e=>by grind) (by simp) h
  .exact key z (.cells z) hz rfl (λlen m e=>by cases e) (by simp) h
 .exact key _ (.cells _) (by omega) rfl (λlen m e=>by cases e) (by simp) h
 .exact (au h).elim
def oE {α:Type} (a:α) (f:Nat->α):Nat->α
 | 0=>a
 | j+1=>f j
theorem yG {P} {nt} {ph} {ops} {base} {pl al} {bf} (hph:iM P ph):∀ (l) (i) (r) (e) (H) (k),du P nt base ops pl al bf l i=some r->bJ ph r e H k=1->
 ∃ (E:Nat->Env) (Hh:Nat->Heap) (Vv:Nat->V),E 0=e/\Hh 0=H/\(∀ j o,l[j]? = some o->gq P nt ops (dy pl al bf (i+j)) (bN (af P nt o)) none o (E j) (Hh j) (Vv j) (E (j+1)) (Hh (j+1)))/\(∀ j o,l[j]? = some o->kG (af P nt o)=true->dy pl al bf (i+j)=false->(GW nt (E j) ops o false/\Vv j = .cE []/\Hh (j+1)=Hh j)\/qj P nt (E j) o (Hh j) (Vv j) (Hh (j+1)))/\k (E l.length) (Hh l.length)=1
 | [],i,r,e,H,k,hc,h=>by
  simp only [du,Option.some.injEq]at hc
  subst hc
  exact ⟨λ_=>e,λ_=>H,λ_=>.iS,rfl,rfl,λj o hj=>by simp at hj,λj o hj=>by simp at hj,h⟩
 | o :: l,i,r,e,H,k,hc,h=>by
  simp only [du]at hc
  split at hc
  .rename_i d g r' hd hg hr
   cases hc
   have fin:∀ (v) (H1),gq P nt ops (dy pl al bf i) (bN (af P nt o)) none o e H v (dK d v e) H1->(kG (af P nt o)=true->dy pl al bf i=false->(GW nt e ops o false/\v = .cE []/\H1=H)\/qj P nt e o H v H1)->bJ ph r' (dK d v e) H1 k=1->∃ (E:Nat->Env) (Hh:Nat->Heap) (Vv:Nat->V),E 0=e/\Hh 0=H/\(∀ j o',(o :: l)[j]? = some o'->gq P nt ops (dy pl al bf (i+j)) (bN (af P nt o')) none o' (E j) (Hh j) (Vv j) (E (j+1)) (Hh (j+1)))/\(∀ j o',(o :: l)[j]? = some o'->kG (af P nt o')=true->dy pl al bf (i+j)=false->(GW nt (E j) ops o' false/\Vv j = .cE []/\Hh (j+1)=Hh j)\/qj P nt (E j) o' (Hh j) (Vv j) (Hh (j+1)))/\k (E (o :: l).length) (Hh (o :: l).length)=1:=λv H1 hs ha hev=>by
    obtain ⟨E,Hh,Vv,h1,h2,h3,h5,h4⟩:=yG hph l (i+1) r' _ _ k hr hev
    refine ⟨oE e E,oE H Hh,oE v Vv,rfl,rfl,λj o' hj=>?_,λj o' hj q1 q2=>?_,h4⟩
    rotate_left
    .cases j with
     | zero=>
      simp only [WU,Option.some.injEq]at hj
      subst hj
      show (GW nt e ops o false/\v = .cE []/\Hh 0=H)\/qj P nt e o H v (Hh 0)
      grind
     | succ j=>
      have:=h5 j o' (by grind) q1
      rw [show i+1+j=i+(j+1) by omega]at this
      exact this q2
    cases j with
    | zero=>
     simp only [WU,Option.some.injEq]at hj
     subst hj
     show gq P nt ops (dy pl al bf (i+0)) _ none o e H v (E 0) (Hh 0)
     grind
    | succ j=>
     have:=h3 j o' (by grind)
     rw [show i+1+j=i+(j+1) by omega]at this
     exact this
   have h':sg g e (Nat.rec (aN (af P nt o) 0 ph e H λv H'=>bX d v e λe'=>bJ ph r' e' H' k) (λ_ _=>Heap.rec (λn bC t=>aN (af P nt o) 0 ph e (.mk n n t) λv H'=>Heap.rec (λn' wlo' t'=>aE (YS n wlo') (bX d v e λe'=>bJ ph r' e' (.mk n' bC t') k) (no 0)) H') H) (if (bN (af P nt o) || dy pl al bf i)=true then 0 else 1)) (bX d (.cE []) e λe'=>bJ ph r' e' H k)=1:=h
   rcases sh hg h' with ⟨h1,h2⟩|⟨h1,h2⟩
   .by_cases hpu:bN (af P nt o)=true
    .rw [if_pos (by simp [hpu])]at h1
     obtain ⟨v,h3,h4⟩:=xj hph hpu (show aN (af P nt o) 0 ph e H (λv H'=>bX d v e λe'=>bJ ph r' e' H' k)=1 from h1)
     have h4':=h4
     rw [cw]at h4'
     exact fin v H ⟨d,hd,rfl,YE (YG ⟨h2,hpu,rfl,λH2 _=>h3 H2⟩)⟩ (λq=>absurd q (by cases hcc:af P nt o<;>rw [hcc]at hpu<;>simp [kG,bN]at hpu ⊢)) h4'
    .by_cases his:dy pl al bf i=true
     .rw [if_pos (by simp [his])]at h1
      obtain ⟨v,H1,h3,h4⟩:=eu hph (show aN (af P nt o) 0 ph e H (λv H'=>bX d v e λe'=>bJ ph r' e' H' k)=1 from h1)
      have h4':bX d v e (λe'=>bJ ph r' e' H1 k)=1:=h4
      rw [cw]at h4'
      exact fin v H1 ⟨d,hd,rfl,YE (YE (YG ⟨h2,by grind,his,h3⟩))⟩ (λ_ q=>absurd (his.symm.trans q) (by simp)) h4'
     .rw [if_neg (by grind)]at h1
      cases H with
      | mk n bC t=>
       have h1':aN (af P nt o) 0 ph e (.mk n n t) (λv H'=>Heap.rec (λn' wlo' t'=>aE (YS n wlo') (bX d v e λe'=>bJ ph r' e' (.mk n' bC t') k) (no 0)) H')=1:=h1
       by_cases hal:kG (af P nt o)=true
       .obtain ⟨v,H1,h3,h4⟩:=ZX hal h1'
        cases H1 with
        | mk n' wlo' t'=>
         have h4':=h4
         obtain ⟨h5,h6⟩:=aL h4'
         rw [cw]at h6
         obtain ⟨bl,g1,g2,g3⟩:=h3
         exact fin v (.mk n' bC t') ⟨d,hd,rfl,YE (YE (YE ⟨h2,by grind,by grind,.mk n n t,.mk n' wlo' t',rfl,λ_=>rfl,rfl,qj.ops ⟨bl,g1,g2,g3⟩,cq h5,rfl,λ_=>rfl,rfl⟩))⟩ (λ_ _=>YE ⟨bl,g1,⟨g2.n,rfl,g2.get,g2.tC⟩,g3⟩) h6
       .obtain ⟨v,H1,h3,h4⟩:=eu hph h1'
        cases H1 with
        | mk n' wlo' t'=>
         have h4':=h4
         obtain ⟨h5,h6⟩:=aL h4'
         rw [cw]at h6
         exact fin v (.mk n' bC t') ⟨d,hd,rfl,YE (YE (YE ⟨h2,by grind,by grind,.mk n n t,.mk n' wlo' t',rfl,λ_=>rfl,rfl,h3,cq h5,rfl,λ_=>rfl,rfl⟩))⟩ (λq=>absurd q hal) h6
   .rw [cw]at h1
    exact fin _ H ⟨d,hd,rfl,YG ⟨h2,rfl,rfl⟩⟩ (λ_ _=>YG ⟨h2,rfl,rfl⟩) h1
  .cases hc
end Go.Ev
end
section
namespace Go.Ev
open Go.RowKit
section
variable {ops:Array Oper}
def dA (acc:Array Nat) (o:Oper):Array Nat:=acc.push (o.after.foldl (λs e=>if Region.binds .any e then s ||| 2 ^ e.on ||| acc.getD e.on 0 else s) 0)
theorem yx (acc:Array Nat) (i):∀ (l:List Edge) (s),(l.foldl (λs e=>if Region.binds .any e then s ||| 2 ^ e.on ||| acc.getD e.on 0 else s) s).testBit i=true->s.testBit i=true\/∃ e ∈ l,Region.binds .any e=true/\(i=e.on\/(acc.getD e.on 0).testBit i=true)
 | [],s,h=>YG h
 | e :: l,s,h=>by
  rcases yx acc i l _ h with h|⟨e',h1,h2⟩
  .grind
  grind
theorem nR:∀ (l:List Oper) (acc),(l.foldl dA acc).size=acc.size+l.length/\∀ j,j<acc.size->(l.foldl dA acc)[j]? = acc[j]?
 | [],acc=>⟨rfl,λ_ _=>rfl⟩
 | o :: l,acc=>by
  obtain ⟨h1,h2⟩:=nR l (dA acc o)
  have hs:(dA acc o).size=acc.size+1:=by simp [dA]
  rw [QU]
  refine ⟨by simp;omega,λj hj=>?_⟩
  rw [h2 j (by omega)]
  unfold dA
  grind
theorem lL:∀ (l:List Oper) (acc) (j i) (o),l[j]? = some o->((l.foldl dA acc).getD (acc.size+j) 0).testBit i=true->
 ∃ e ∈ o.after.toList,Region.binds .any e=true/\(i=e.on\/(e.on<acc.size+j/\((l.foldl dA acc).getD e.on 0).testBit i=true))
 | [],acc,j,i,o,hj,_=>by simp_all
 | o' :: l,acc,0,i,o,hj,h=>by
  simp only [WU,Option.some.injEq]at hj
  subst hj
  rw [QU]at h ⊢
  obtain ⟨h1,h2⟩:=nR l (dA acc o')
  have hs:(dA acc o').size=acc.size+1:=by simp [dA]
  have hg:(l.foldl dA (dA acc o'))[acc.size]? = (dA acc o')[acc.size]?:=h2 _ (by omega)
  have hv:(dA acc o')[acc.size]? = some (o'.after.foldl (λs e=>if Region.binds .any e then s ||| 2 ^ e.on ||| acc.getD e.on 0 else s) 0):=by simp [dA]
  rw [Nat.add_zero,Yj,hg,hv,Yn,<- YA0]at h
  rcases yx acc i _ _ h with h|⟨e,h3,h4,h5⟩
  .simp_all
  .refine ⟨e,h3,h4,h5.imp id λh6=>?_⟩
   have hlt:e.on<acc.size:=by
    grind
   refine ⟨by omega,?_⟩
   rw [Yj,h2 _ (by omega)]
   unfold dA
   rw [Array.getElem?_push,if_neg (by omega),<- Yj]
   omega
 | o' :: l,acc,j+1,i,o,hj,h=>by
  have hs:(dA acc o').size=acc.size+1:=by simp [dA]
  have:=lL l (dA acc o') j i o (by simp_all)
  grind
theorem JC:Region.before ops=ops.toList.foldl dA #[]:=by
 unfold Region.before
 rw [<- YA0]
 rfl
theorem tQ {j i} (h:((Region.before ops).getD j 0).testBit i=true):∃ o,ops[j]? = some o/\∃ e ∈ o.after.toList,Region.binds .any e=true/\(i=e.on\/(e.on<j/\((Region.before ops).getD e.on 0).testBit i=true)):=by
 rw [JC]at h ⊢
 obtain ⟨h1,_⟩:=nR ops.toList #[]
 have hj:j<ops.toList.length:=by
  grind
 have ho:=List.getElem?_eq_getElem hj
 refine ⟨_,by rw [<- Yo];omega,?_⟩
 have:=lL ops.toList #[] j i _ ho
 simp_all
def BX (ops:Array Oper):Prop:=∀ j o,ops[j]? = some o->∀ e ∈ o.after.toList,Region.binds .any e=true->e.on<j
theorem rF (h:kT ops=true):BX ops:=λj o hj e he hb=>by
 unfold kT at h
 rw [WL]at h
 have h1:=h (o,j) (WM.2 (by simp_all))
 grind
theorem fY (hE:BX ops):∀ (j i),((Region.before ops).getD j 0).testBit i=true->i<j:=by
 intro j
 induction j using Qy with
 | _ j ih=>
  intro i h
  obtain ⟨o,h1,e,h2,h3,h4⟩:=tQ h
  have h5:=hE j o h1 e h2 h3
  grind
def dM (listed:Array Bool) (i:Nat):Prop:=listed.getD i false=true
def sD (ops:Array Oper) (listed:Array Bool):Prop:=∀ j,dM listed j->∀ o,ops[j]? = some o->∀ e ∈ o.after.toList,Region.binds .any e=true->dM listed e.on
theorem eh {listed} (hE:BX ops) (hC:sD ops listed):∀ (j i),(dM listed j\/∀ o,ops[j]? = some o->∀ e ∈ o.after.toList,Region.binds .any e=true->dM listed e.on)->((Region.before ops).getD j 0).testBit i=true->dM listed i:=by
 intro j
 induction j using Qy with
 | _ j ih=>
  intro i hj h
  obtain ⟨o,h1,e,h2,h3,h4⟩:=tQ h
  have h5:=hj.elim (λhb=>hC j hb o h1 e h2 h3) λhr=>hr o h1 e h2 h3
  grind
theorem da {listed} {i} (hi:i<listed.size) {j}:dM (listed.setIfInBounds i true) j↔j=i\/dM listed j:=by
 unfold dM
 simp only [Yj]
 grind
theorem B6 {bf} (h:jm ops bf=true) {i j} {oi oj} (hi:ops[i]? = some oi) (hj:ops[j]? = some oj) (hne:i≠j) {d} (hd:oi.dst=some d) (hm:d ∈ vD ops oj):if i<j then (bf.getD j 0).testBit i=true else (bf.getD i 0).testBit j=true:=by
 unfold jm at h
 rw [WL]at h
 have h1:=h (oi,i) (WM.2 (by simp_all))
 rw [WL]at h1
 have h2:=h1 (oj,j) (WM.2 (by simp_all))
 simp_all
end
def jf (D:Nat->Option Slot) (Vv:Nat->V) (e0:Env) (S:Nat->Bool):Nat->Env
 | 0=>e0
 | k+1=>if S k then dK (D k) (Vv k) (jf D Vv e0 S k) else jf D Vv e0 S k
theorem fp {s} {d} {v} {e}:aa s (dK d v e)=if d=some s then v else aa s e:=by
 cases d with
 | none=>rfl
 | some d=>
  show aa s (kJ d v e)=_
  rw [eO]
  grind
theorem IU {D} {Vv} {E:Nat->Env} {S} {n i} (hi:i<=n) (hE:∀ k,k<n->E (k+1)=dK (D k) (Vv k) (E k)) {s} (h:∀ k,k<n->D k=some s->(S k=true↔k<i)):aa s (jf D Vv (E 0) S n)=aa s (E i):=by
 have h1:∀ m,m<=i->aa s (jf D Vv (E 0) S m)=aa s (E m):=by
  intro m
  induction m with
  | zero=>intro _;rfl
  | succ m ih=>
   intro hm
   rw [hE m (by omega),fp]
   simp only [jf]
   by_cases hd:D m=some s
   .rw [if_pos hd,if_pos ((h m (by omega) hd).2 (by omega)),fp,if_pos hd]
   .split
    .rw [fp,if_neg hd];grind
    grind
 have h2:∀ m,i<=m->m<=n->aa s (jf D Vv (E 0) S m)=aa s (E i):=by
  intro m
  induction m with
  | zero=>
   simp_all
  | succ m ih=>
   by_cases h5:i=m+1
   .simp_all
   .simp only [jf]
    split
    .rw [fp]
     grind
    grind
 simp_all
theorem NP {D} {Vv} {e0} {S S'} {n i} (hi:i<n) (h0:S i=false) (h1:∀ k,S' k=true↔k=i\/S k=true) (h:∀ k,k<n->i<k->S k=true->∀ s,D k=some s->D i≠some s) (s):
 aa s (jf D Vv e0 S' n)=aa s (dK (D i) (Vv i) (jf D Vv e0 S n)):=by
 have hS:∀ k,k≠i->S' k=S k:=λk hk=>by
  grind
 have g1:∀ m,m<=i->jf D Vv e0 S' m=jf D Vv e0 S m:=by
  intro m
  induction m with
  | zero=>intro _;rfl
  | succ m ih=>intro hm;simp only [jf,hS m (by omega),ih (by omega)]
 have g2:∀ m,i<m->m<=n->aa s (jf D Vv e0 S' m)=aa s (dK (D i) (Vv i) (jf D Vv e0 S m)):=by
  intro m
  induction m with
  | zero=>simp
  | succ m ih=>
   intro h3 h4
   by_cases h5:m=i
   .subst h5
    have hs:=(h1 m).2 (YG rfl)
    simp only [jf,hs,if_true,h0,YU,if_false,g1 m (YA _)]
   .have ih:=ih (by omega) (by omega)
    simp only [jf,hS m h5]
    split
    .rw [fp,ih,fp,fp,fp]
     grind
    omega
 simp_all
theorem yF {D} {Vv} {e0} {S} (h:∀ k,S k=false):∀ n,jf D Vv e0 S n=e0
 | 0=>rfl
 | n+1=>by simp only [jf,h,YU,if_false];exact yF h n
end Go.Ev
end
section
namespace Go.Ev
open Go.RowKit
def aW {α:Type} (Q:α->Prop) (f:(α->R)->R):Prop:=(∃ a,Q a/\∀ k,f k=k a)\/∀ k,f k≠1
section
variable {α β:Type} {id:Nat} {Q:α->Prop}
theorem aW.ret {a:α} (h:Q a):aW Q λk=>k a:=YG ⟨a,h,λ_=>rfl⟩
theorem aW.no (c:Nat):aW Q λ_:α->R=>no c:=YE λk h=>au h
theorem aW.bind {f:(β->R)->R} {g:β->(α->R)->R} (h:aD f) (hg:∀ b,aW Q (g b)):aW Q λk=>f λb=>g b k:=by
 rcases h with ⟨b,hb⟩|h
 .rcases hg b with ⟨a,hq,ha⟩|h
  .exact YG ⟨a,hq,λk=>(hb _).trans (ha k)⟩
  .exact YE λk=>by show f _≠1;rw [hb];exact h k
 .exact YE λk=>h _
theorem aW.lM {S:β->Prop} {f:(β->R)->R} {g:β->(α->R)->R} (h:aW S f) (hg:∀ b,S b->aW Q (g b)):aW Q λk=>f λb=>g b k:=by
 rcases h with ⟨b,hs,hb⟩|h
 .rcases hg b hs with ⟨a,hq,ha⟩|h
  .exact YG ⟨a,hq,λk=>(hb _).trans (ha k)⟩
  .exact YE λk=>by show f _≠1;rw [hb];exact h k
 .exact YE λk=>h _
theorem aW.aE {b:Bool} {f g:(α->R)->R} (hf:aW Q f) (hg:aW Q g):aW Q λk=>Ev.aE b (f k) (g k):=by
 cases b
 .exact hg
 .exact hf
theorem aW.aI {a:Arg} {e:Env} {g:V->(α->R)->R} (hg:aW Q (g (aA a e))):aW Q λk=>Ev.aI a e λb=>g b k:=by
 simp only [ai];exact hg
theorem aW.av {n:Nat} {g:Nat->(α->R)->R} (hg:∀ b,aW Q (g b)):aW Q λk=>Ev.av n λb=>g b k:=by
 simp only [ay];exact hg _
theorem aW.get {f:(α->R)->R} (h:aW Q f) {k:α->R} (h1:f k=1):∃ a,Q a/\k a=1/\∀ k',f k'=k' a:=by
 rcases h with ⟨a,hq,ha⟩|h
 .exact ⟨a,hq,(ha k).symm.trans h1,ha⟩
 .exact absurd h1 (h k)
end
def Fr (ob:Option Nat) (H H':Heap):Prop:=∀ b,b<H.n->ob≠some b->H'.get b=H.get b
theorem Od (x):∀ (t:HT) (k),aW (λt':HT=>t'.get k=x/\∀ j,j≠k->t'.get j=t.get j) (λc=>t.set x k c):=by
 intro t k
 by_cases h:∃ c:HT->R,t.set x k c=1
 .obtain ⟨c,h⟩:=h
  have key:∀ (t:HT) (k) (c),t.set x k c=1->∃ t',∀ c',t.set x k c'=c' t':=by
   intro t
   induction t with
   | e=>
    intro k c h
    cases k with
    | zero=>exact ⟨_,λc'=>rfl⟩
    | succ k=>exact (au h).elim
   | n u l r ihl ihr=>
    intro k c h
    cases k with
    | zero=>exact ⟨_,λc'=>rfl⟩
    | succ k=>
     have e:∀ c',HT.set x (.n u l r) (k+1) c'=Nat.rec (l.set x (k/2) λl'=>c' (.n u l' r)) (λ_ _=>r.set x (k/2) λr'=>c' (.n u l r')) (k%2):=λc'=>rfl
     rw [e]at h
     rcases (by omega:k%2=0\/k%2=1) with hk|hk
     .rw [hk]at h
      obtain ⟨t',ht⟩:=ihl _ _ h
      exact ⟨_,λc'=>by rw [e,hk];exact ht _⟩
     .rw [hk]at h
      obtain ⟨t',ht⟩:=ihr _ _ h
      exact ⟨_,λc'=>by rw [e,hk];exact ht _⟩
  obtain ⟨t',ht⟩:=key t k c h
  obtain ⟨t2,_,h3,h4⟩:=HT.HF t k (λq=>open Classical in if q=t' then 1 else 0) (by rw [ht];simp)
  have:t2=t':=by
   simp_all
  subst this
  exact YG ⟨t2,⟨h3,h4⟩,ht⟩
 .exact YE λc hc=>h ⟨c,hc⟩
theorem rV {id} (H) (b) (x):aW (λH'=>Fr (some b) H H'/\H'.n=H.n) (λk=>cV id H b x k):=by
 cases H with
 | mk n bC t=>
  refine aW.aE (aW.lM (Od x t b) λt' ht=>?_) (aW.no 0)
  refine aW.aE (aW.ret ⟨λb' hb hne=>?_,rfl⟩) (aW.ret ⟨λb' hb hne=>?_,rfl⟩)
  .exact ht.2 b' λh=>hne (by rw [h])
  .exact ht.2 b' λh=>hne (by rw [h])
theorem l9 (H) (x):aW (λp:Nat × Heap=>Fr none H p.2/\H.n<=p.2.n) (λk=>cA H x λn H'=>k (n,H')):=by
 cases H with
 | mk n bC t=>
  refine aW.lM (Od x t n) λt' ht=>?_
  refine aW.ret ⟨λb hb _=>ht.2 b ?_,Nat.le_succ n⟩
  have:b<n:=hb
  omega
theorem Fr.trans {ob:Option Nat} {H H1 H2:Heap} (h:Fr ob H H1) (k:Fr none H1 H2) (hn:H.n<=H1.n):Fr ob H H2:=λb hb hne=>(k b (YC hb hn) (by simp)).trans (h b hb hne)
theorem Fr.any {ob:Option Nat} {H H1:Heap} (h:Fr none H H1):Fr ob H H1:=λb hb _=>h b hb (by simp)
section
variable {id:Nat} {α:Type}
theorem xy (l):(∀ k,bq id l k=k)\/∀ k,bq id l k≠1:=by
 induction l with
 | nil=>exact YG λk=>rfl
 | cons v l ih=>
  have e:∀ k,bq id (v :: l) k=dZ id v (bq id l k):=λ_=>rfl
  rcases ih with ih|ih
  .cases v<;>first|exact YG λk=>by exact ih k|exact YE λk h=>au h
  .refine YE λk h=>?_
   rw [e]at h
   exact ih k (wK h).2
theorem aW.bq {Q:α->Prop} {l:List V} {f:(α->R)->R} (hf:aW Q f):aW Q λk=>Ev.bq id l (f k):=by
 rcases xy (id:=id) l with h|h
 .simp only [h];exact hf
 .exact YE λk=>h _
theorem zF (v):(∀ k,dZ id v k=k)\/∀ k,dZ id v k≠1:=by
 cases v<;>first|exact YG λk=>rfl|exact YE λk h=>au h
theorem aW.dZ {Q:α->Prop} {v:V} {f:(α->R)->R} (hf:aW Q f):aW Q λk=>Ev.dZ id v (f k):=by
 rcases zF (id:=id) v with h|h
 .simp only [h];exact hf
 .exact YE λk=>h _
theorem tH:∀ (l),aD (λk:Nat × Nat->R=>ib id l λa b=>k (a,b))
 | []=>YG ⟨(0,0),λ_=>rfl⟩
 | v :: l=>by
  have e:∀ k:Nat × Nat->R,(ib id (v :: l) λa b=>k (a,b))=cC id v λkd x=>Ev.aE (Nat.beq kd 4) (ib id l λlen n=>Ev.av (YX x (Yg 256 n)) λn'=>Ev.av (Nat.succ len) λlen'=>k (len',n')) (no 0):=λ_=>rfl
  simp only [e]
  refine aD.cC λkd x=>aD.aE ?_ (aD.no 0)
  exact aD.bind (g:=λp k=>Ev.av (YX x (Yg 256 p.2)) λn'=>Ev.av (Nat.succ p.1) λlen'=>k (len',n')) (tH l) λp=>aD.av λn'=>aD.av λlen'=>aD.ret _
theorem BB {Q} {bl} {kc:List V->(α->R)->R} {kb:Nat->Nat->(α->R)->R} (h1:∀ l,aW Q (kc l)) (h2:∀ a b,aW Q (kb a b)):aW Q λk=>ri id bl (λl=>kc l k) (λa b=>kb a b k):=by
 cases bl<;>first|exact h1 _|exact h2 _ _|exact YE λk h=>au h
theorem Et {bl} {kc:List V->(α->R)->R} {kb:Nat->Nat->(α->R)->R} (h1:∀ l,aD (kc l)) (h2:∀ a b,aD (kb a b)):aD λk=>ri id bl (λl=>kc l k) (λa b=>kb a b k):=by
 cases bl<;>first|exact h1 _|exact h2 _ _|exact YE λk h=>au h
theorem qO (H) (b off) (m):aW (λH'=>Fr (some b) H H'/\H'.n=H.n) (λk=>ez id H b off m k):=by
 unfold ez
 simp only [aV]
 refine BB (λl=>?_) (λlen x=>?_)
 .exact aW.bq (aW.bind (tI l off) λl'=>rV H b _)
 .exact aW.bind (g:=λp k=>Ev.aE (YS (YX off p.1) len)
   (Ev.av (YX (Nat.mod x (Nat.pow 256 off)) (Yp (YX p.2 (Yp (Nat.shiftRight x (Yg 8 (YX off p.1))) (Yg 8 p.1))) (Yg 8 off))) λx'=>cV id H b (.bytes len x') k) (no 0)) (tH m) λp=>aW.aE (aW.av λx'=>rV H b _) (aW.no 0)
theorem oQ (len):∀ n,aD (pM len n):=λn=>YG ⟨_,λk=>iG len n k⟩
theorem KV (H) (b off n):aD (dU id H b off n):=by
 unfold dU
 simp only [aV]
 refine Et (λl=>?_) (λlen x=>?_)
 .exact aD.bind (jE l off) λr=>jF r n
 .exact aD.aE (oQ n _) (aD.no 0)
theorem HA {v} {f:(α->R)->R} (hf:aD f):aD λk=>Ev.dZ id v (f k):=by
 rcases zF (id:=id) v with h|h
 .simp_all
 .exact YE λk=>h _
theorem Es {l} {f:(α->R)->R} (hf:aD f):aD λk=>Ev.bq id l (f k):=by
 rcases xy (id:=id) l with h|h
 .simp_all
 .exact YE λk=>h _
theorem Eu {bl} {kc:List V->(α->R)->R} {kb:Nat->Nat->(α->R)->R} {kv:List V->(α->R)->R} (h1:∀ l,aD (kc l)) (h2:∀ a b,aD (kb a b)) (h3:∀ l,aD (kv l)):aD λk=>Zp id bl (λl=>kc l k) (λa b=>kb a b k) (λl=>kv l k):=by
 cases bl<;>first|exact h1 _|exact h2 _ _|exact h3 _|exact YE λk h=>au h
theorem TK (H) (b off):aD (Jk id H b off):=by
 unfold Jk
 simp only [aV]
 refine Eu (λl=>vE l off) (λlen n=>?_) (λl=>?_)
 .exact aD.aE (aD.av λx=>aD.ret _) (aD.no 0)
 .exact aD.bind (vE l off) λv=>HA (aD.ret _)
theorem Jn (H) (b off n):aD (D6 id H b off n):=by
 unfold D6
 simp only [aV]
 refine Eu (λl=>?_) (λlen x=>?_) (λl=>?_)
 .exact aD.bind (jE l off) λr=>jF r n
 .exact aD.aE (oQ n _) (aD.no 0)
 .exact aD.bind (jE l off) λr=>aD.bind (jF r n) λq=>Es (aD.ret _)
theorem zG (H) (b off n):aD (lX id H b off n):=by
 unfold lX
 simp only [aV]
 refine Et (λl=>?_) (λlen x=>?_)
 .exact aD.bind (jE l off) λr=>aD.bind (jF r n) λq=>aD.bind (g:=λp k=>k p.2) (tH q) λp=>aD.ret _
 .exact aD.aE (aD.av λx=>aD.ret _) (aD.no 0)
theorem BD (size) (H) (x):aD (λk:Nat × List V->R=>de id size H x λn l=>k (n,l)):=by
 cases x<;>first|exact YE λk h=>au h|exact YG ⟨_,λk=>rfl⟩|skip
 .rename_i l n
  exact aD.aE (aD.bind (oQ l n) λm=>aD.ret _) (aD.no 0)
 .rename_i b o l c s
  cases l with
  | zero=>exact YG ⟨_,λk=>rfl⟩
  | succ l=>exact aD.bind (Jn H b o _) λm=>aD.ret _
theorem BC (H) (x):aD (λk:Nat × Nat->R=>xa id H x λn l=>k (n,l)):=by
 cases x<;>first|exact YE λk h=>au h|exact YG ⟨_,λk=>rfl⟩|skip
 rename_i b o l c s
 exact aD.bind (zG H b o _) λm=>aD.ret _
def pU:V->Option Nat
 | .ptr b _=>some b
 | .slice b _ _ _ _=>some b
 | _=>none
def Q7 (ob:Option Nat) (H:Heap) (p:V × Heap):Prop:=Fr ob H p.2
theorem Py {size n b o len cp sz} {new} {H}:aW (Q7 (some b) H) (λk:V × Heap->R=>qZ id size n new b o len cp sz H λv H'=>k (v,H')):=by
 refine aW.bq (aW.av λneed=>aW.aE ?_ (aW.no 0))
 cases cp with
 | zero=>
  refine aW.aE (aW.aE ?_ (aW.no 0)) (aW.no 0)
  simp only [aV,eG]
  refine BB (λl=>?_) (λ_ _=>aW.no 0)
  refine aW.aE (aW.lM (rV H b .dead) λH1 h1=>?_) (aW.no 0)
  exact aW.lM (f:=λk=>cA H1 (.cells (l ++ new)) λn H'=>k (n,H')) (g:=λp (k:V × Heap->R)=>k (V.slice p.1 0 need 0 size,p.2)) (l9 H1 _) λp hp=>aW.ret (h1.1.trans hp.1 (by omega))
 | succ q=>
  refine aW.aE ?_ ?_
  .exact aW.lM (qO H b _ new) λH1 h1=>aW.ret h1.1
  .refine aW.bind (KV H b o _) λl=>aW.bq ?_
   simp only [eG]
   exact aW.lM (f:=λk=>cA H (.cells (l ++ new)) λn H'=>k (n,H')) (g:=λp (k:V × Heap->R)=>k (V.slice p.1 0 need 0 size,p.2)) (l9 H _) λp hp=>aW.ret hp.1.any
theorem Px {n new b o len cp sz} {H}:aW (Q7 (some b) H) (λk:V × Heap->R=>Jy id n new b o len cp sz H λv H'=>k (v,H')):=by
 refine aW.av λneed=>aW.aE ?_ (aW.no 0)
 cases cp with
 | zero=>
  refine aW.aE (aW.aE ?_ (aW.no 0)) (aW.no 0)
  simp only [aV]
  refine BB (λ_=>aW.no 0) (λln m=>?_)
  refine aW.aE (aW.av λm'=>?_) (aW.no 0)
  refine aW.lM (rV H b .dead) λH1 h1=>?_
  exact aW.lM (f:=λk=>cA H1 (.bytes need m') λn H'=>k (n,H')) (g:=λp (k:V × Heap->R)=>k (V.slice p.1 0 need 0 1,p.2)) (l9 H1 _) λp hp=>aW.ret (h1.1.trans hp.1 (by omega))
 | succ q=>
  refine aW.aE (aW.no 0) ?_
  refine aW.bind (zG H b o _) λm=>aW.av λm'=>?_
  exact aW.lM (f:=λk=>cA H (.bytes need m') λn H'=>k (n,H')) (g:=λp (k:V × Heap->R)=>k (V.slice p.1 0 need 0 1,p.2)) (l9 H _) λp hp=>aW.ret hp.1.any
theorem PI {c} (hc:AZ c=true) {ph} {e} {H}:aW (Q7 (pU (aA (qu c) e)) H) (λk:V × Heap->R=>aN c id ph e H λv H'=>k (v,H')):=by
 cases c<;>simp only [AZ,YU]at hc
 .rename_i a x
  show aW (Q7 (pU (aA a e)) H) (λk=>vd a x id ph e H λv H'=>k (v,H'))
  refine aW.aI ?_
  cases aA a e<;>first|exact YE λk h=>au h|skip
  rename_i b o
  refine aW.aI (aW.dZ ?_)
  exact aW.lM (qO H b o _) λH1 h1=>aW.ret h1.1
 .rename_i n a x
  show aW (Q7 (pU (aA a e)) H) (λk=>ve n a x id ph e H λv H'=>k (v,H'))
  refine aW.aI ?_
  cases aA a e<;>first|exact YE λk h=>au h|skip
  rename_i b o
  refine aW.aI ?_
  cases aA x e<;>first|exact YE λk h=>au h|skip
  refine aW.aE ?_ (aW.no 0)
  exact aW.lM (qO H b o _) λH1 h1=>aW.ret h1.1
 .rename_i u size s x
  have key:∀ (f:Nat->Nat->Nat->Nat->Nat->Nat->(V × Heap->R)->R) (z:Nat->(V × Heap->R)->R) (n),(∀ b o len cp sz,aW (Q7 (some b) H) (f n b o len cp sz))->(aW (Q7 none H) (z n))->
   aW (Q7 (pU (aA s e)) H) (λk=>bz id (aA s e) (λb o len cp sz=>Nat.rec (k (aA s e,H)) (λ_ _=>f n b o len cp sz k) n) (Nat.rec (k (aA s e,H)) (λ_ _=>z n k) n)):=λf z n hf hz=>by
   cases hs:aA s e<;>first|exact YE λk h=>au h|skip
   .rename_i b o len cp sz
    cases n with
    | zero=>exact aW.ret λ_ _ _=>rfl
    | succ n=>exact hf b o len cp sz
   .cases n with
    | zero=>exact aW.ret λ_ _ _=>rfl
    | succ n=>exact hz
  cases u with
  | true=>
   show aW (Q7 (pU (aA s e)) H) (λk=>IP s x id e H λv H'=>k (v,H'))
   refine aW.aI (aW.aI ?_)
   refine aW.bind (g:=λp (k:V × Heap->R)=>bz id (aA s e) (λb o len cp sz=>Nat.rec (k (aA s e,H)) (λ_ _=>Jy id p.1 p.2 b o len cp sz H λv H'=>k (v,H')) p.1)
    (Nat.rec (k (aA s e,H)) (λ_ _=>Ev.aE (YS p.1 1073741824) (cA H (.bytes p.1 p.2) λb' H=>k (V.slice b' 0 p.1 0 1,H)) (no 0)) p.1)) (BC H _) λp=>?_
   refine key (λn b o len cp sz k=>Jy id n p.2 b o len cp sz H λv H'=>k (v,H')) (λn k=>Ev.aE (YS n 1073741824) (cA H (.bytes n p.2) λb' H=>k (V.slice b' 0 n 0 1,H)) (no 0)) p.1 (λb o len cp sz=>Px) ?_
   refine aW.aE ?_ (aW.no 0)
   exact aW.lM (f:=λk=>cA H (.bytes p.1 p.2) λn H'=>k (n,H')) (g:=λq (k:V × Heap->R)=>k (V.slice q.1 0 p.1 0 1,q.2)) (l9 H _) λq hq=>aW.ret hq.1
  | false=>
   show aW (Q7 (pU (aA s e)) H) (λk=>IQ size s x id e H λv H'=>k (v,H'))
   refine aW.aI (aW.aI ?_)
   refine aW.bind (g:=λp (k:V × Heap->R)=>bz id (aA s e) (λb o len cp sz=>Nat.rec (k (aA s e,H)) (λ_ _=>qZ id size p.1 p.2 b o len cp sz H λv H'=>k (v,H')) p.1)
    (Nat.rec (k (aA s e,H)) (λ_ _=>Ev.bq id p.2 (Ev.aE (YS p.1 1073741824) (cA H (.cells p.2) λb' H=>k (V.slice b' 0 p.1 0 size,H)) (no 0))) p.1)) (BD size H _) λp=>?_
   refine key (λn b o len cp sz k=>qZ id size n p.2 b o len cp sz H λv H'=>k (v,H')) (λn k=>Ev.bq id p.2 (Ev.aE (YS n 1073741824) (cA H (.cells p.2) λb' H=>k (V.slice b' 0 n 0 size,H)) (no 0))) p.1 (λb o len cp sz=>Py) ?_
   refine aW.bq (aW.aE ?_ (aW.no 0))
   exact aW.lM (f:=λk=>cA H (.cells p.2) λn H'=>k (n,H')) (g:=λq (k:V × Heap->R)=>k (V.slice q.1 0 p.1 0 size,q.2)) (l9 H _) λq hq=>aW.ret hq.1
end
end Go.Ev
end
section
namespace Go.Ev
open Go.RowKit
theorem qY {id} {x} {f} (h:mS id x f=1):f (pU x)=1:=by
 cases x<;>first|exact (au h).elim|exact h
theorem sI {id bf b}:∀ {l} {k},dw id bf b l k=1->(∀ p ∈ l,bf.testBit p.1=false->b≠p.2)/\k=1
 | [],k,h=>⟨λp hp=>(by cases hp),h⟩
 | (i,c):: l,k,h=>by
  have h2:(Nat.testBit bf i=true\/b≠c)/\dw id bf b l k=1:=by
   rcases bQ (show aE (Nat.testBit bf i) (dw id bf b l k) (aE (Nat.beq b c) (no 0) (dw id bf b l k))=1 from h) with ⟨h3,h4⟩|⟨h3,h4⟩
   .simp_all
   .rcases bQ h4 with ⟨_,h6⟩|⟨h5,h6⟩
    .exact (au h6).elim
    .refine ⟨YE λe=>?_,h6⟩
     simp_all
  obtain ⟨h3,h4⟩:=sI h2.2
  grind
theorem XW {id b off} {H H2} (h:H2.get b=H.get b) (k):Jk id H2 b off k=Jk id H b off k:=by
 unfold Jk
 rw [aV,aV,h]
theorem XZ {id b off n} {H H2} (h:H2.get b=H.get b) (k):D6 id H2 b off n k=D6 id H b off n k:=by
 unfold D6
 rw [aV,aV,h]
theorem Ok {c} (hc:Dq c=true) {id} {ph} {e} {H} {k} {b} (hb:pU (aA (qu c) e)=some b) (h:aN c id ph e H k=1):∃ v,k v H=1/\∀ H2:Heap,H2.get b=H.get b->∀ k2:K,aN c id ph e H2 k2=k2 v H2:=by
 cases c<;>simp only [Dq,YU]at hc
 .rename_i a
  have e1:∀ (H2) (k2),aN (.dm a) id ph e H2 k2=dQ id (aA a e) λb o=>Jk id H2 b o λv=>k2 v H2:=λH2 k2=>by
   show qB a id ph e H2 k2=_
   unfold qB
   rw [ai]
  rw [e1]at h
  obtain ⟨b',off,hx,h1⟩:=fF h
  have hbb:=by
   have hb':pU (aA a e)=some b:=hb
   rw [hx]at hb'
   simpa [pU] using hb'
  subst hbb
  rcases TK (id:=id) H b' off with ⟨v,hv⟩|hv
  .refine ⟨v,by simp_all,λH2 h2 k2=>?_⟩
   rw [e1,hx]
   show Jk id H2 b' off (λv=>k2 v H2)=_
   rw [XW h2,hv]
  simp_all
 .rename_i n a
  have e1:∀ (H2) (k2),aN (.cM n a) id ph e H2 k2=dQ id (aA a e) λb o=>D6 id H2 b o n λl=>k2 (.agg l) H2:=λH2 k2=>by
   show qC n a id ph e H2 k2=_
   unfold qC
   rw [ai]
  rw [e1]at h
  obtain ⟨b',off,hx,h1⟩:=fF h
  have hbb:=by
   have hb':pU (aA a e)=some b:=hb
   rw [hx]at hb'
   simpa [pU] using hb'
  subst hbb
  rcases Jn (id:=id) H b' off n with ⟨l,hv⟩|hv
  .refine ⟨.agg l,by simp_all,λH2 h2 k2=>?_⟩
   rw [e1,hx]
   show D6 id H2 b' off n (λl=>k2 (.agg l) H2)=_
   rw [XZ h2,hv]
  simp_all
theorem Dt {l} {bf} {i j} (h:gI l bf i=true) (hj:l[j]? = some false) (hne:i≠j):jh bf i j=true:=by
 unfold gI at h
 rw [WL]at h
 have:=h (false,j) (WM.2 hj)
 unfold jh
 grind
theorem Ku (bf) (i j):jh bf i j=jh bf j i:=by unfold jh;grind
def kj (cs:List kP) (bf:Array Nat) (x:Nat):Bool:=bN (cs.getD x .bad) || qF cs bf x
theorem L0 {P} {op} {t} {c} {x y}:qd (iN P op t c x y)=false:=by
 unfold iN
 (repeat' split)<;>rfl
theorem Rw {k} {op} {x y}:qd (mU k op x y)=false:=by
 unfold mU
 (repeat' split)<;>rfl
theorem Rv {P} {op} {xt yt} {x y}:qd (pt P op xt yt x y)=false:=by
 unfold pt lO lP
 (repeat' split)<;>first|rfl|exact Rw|exact L0
theorem L1 {k k'} {x}:qd (sV k k' x)=false:=by
 unfold sV
 (repeat' split)<;>rfl
theorem B5 {P} {nt} {b} {asL} {ts}:qd (dh P nt b asL ts)=false:=by
 unfold dh
 (repeat' split)<;>rfl
theorem Lk {m m'} {v} {cv} (hk:Kd v v) (h:VR m v cv):VR m' v cv:=by
 rcases hk with ⟨k,a,b,rfl,_⟩|⟨l,a,q,b,rfl,_⟩
 .simpa only [VR] using h
 .simpa only [VR] using h
theorem xO {m m'}:∀ {l} {cs},(∀ v ∈ l,Kd v v)->cj m l cs->cj m' l cs
 | [],_,_,h=>by simpa only [cj] using h
 | v :: l,cs,hk,h=>by
  obtain ⟨c,r,h1,h2,h3⟩:=h
  exact ⟨c,r,h1,Lk (hk v (YI ..)) h2,xO (λx hx=>hk x (YH _ hx)) h3⟩
theorem VN {P:Program} {nt:Nat} {o:Oper} {id:Nat} {ph:dg} {e:Env} {H:Heap} {k:K} (hal:qd (af P nt o)=true) (h:aN (af P nt o) id ph e H k=1):
 ∃ l H',nI H (.cells l) H'/\k (.ptr H.n 0) H'=1/\((∀ v ∈ l,Kd v v)->∀ (G G':Heap),nI G (.cells l) G'->qj P nt e o G (.ptr G.n 0) G'):=by
 have hop:∃ t x,o.op = .box t x:=by
  unfold af at hal
  split at hal<;>first
   | grind
   | (exfalso;revert hal; (repeat' split)<;>first | (rw [Rv];simp;done) | (rw [L1];simp;done) | (rw [B5];simp;done) | simp [qd])
 obtain ⟨t,x,hop⟩:=hop
 simp only [af,hop]at h
 have mem:x ∈ o.op.operands:=by simp [hop,Op.operands]
 have hnd:∀ c,o.op ≠ .defer c:=by simp [hop]
 split at h
 .rename_i x' hx
  have h':Nq x' id ph e H k=1:=h
  unfold Nq at h'
  rw [ai]at h'
  obtain ⟨l,h1,h2⟩:=oT h'
  obtain ⟨h3,h4⟩:=ef h1
  obtain ⟨H',h5,h6⟩:=dr h4
  refine ⟨l,H',h6,h5,λhcl G G' hN=>⟨.cells l,rfl,hN,trivial,by simp,λm a ho=>⟨.cells (a.eval x).cells t,λm'=>lH (row:=l) rfl (λlen m e=>by cases e) (ie.exact (xO hcl (h2 _ _ (ho x mem x' hx))) h3),λrd w=>⟨ig P o a w rd,?_⟩⟩⟩⟩
  rw [semAt_eq hnd]
  have hex:(execOp a.eval o).run P w = .ok (.value (.pointer (some ⟨w.heap.size,0,none⟩))) (w.alloc (.cells (a.eval x).cells t)):=by
   simp [execOp,hop,Instr.box,newVar,newRow]
  rw [hex]
  exact ⟨rfl,rfl⟩
 .exact (au h).elim
theorem MV {id} {l} {k} (h:yw id (.cells l) k=1):(∀ v ∈ l,Kd v v)/\k=1:=by
 have h':List.rec k (λv _ ih=>isKey id v ih) l=1:=h
 clear h
 induction l with
 | nil=>simp_all
 | cons v l ih=>
  obtain ⟨h1,h2⟩:=Dp (show isKey id v (List.rec k (λv _ ih=>isKey id v ih) l)=1 from h')
  simp_all
theorem I1 {cs} {bf} {i} (h:jW cs bf i=true):qd (cs.getD i .bad)=true:=by
 unfold jW at h
 simp_all
theorem HH {c} (h:AZ c=true):bN c=false:=by cases c<;>first|rfl|cases h
theorem Dy {cs} {bf} {i} (h:jW cs bf i=true):nD cs bf i=false:=by
 cases hx:nD cs bf i with
 | false=>rfl
 | true=>
  have ha:=I1 h
  unfold nD at hx
  rw [Yu,YI3]at hx
  have hs:AZ (cs.getD i .bad)=false:=by
   cases hc:cs.getD i .bad<;>rw [hc]at ha<;>first|rfl|cases ha
  have hi:=hx.2.resolve_left (by simp_all)
  unfold jW at h
  rw [Yu,List.any_eq_true]at h
  obtain ⟨_,⟨q,j⟩,hq,hb⟩:=h
  simp only [Yu,Bool.not_eq_true']at hb
  obtain ⟨⟨h1,h2⟩,h3⟩:=hb
  have hij:i<j:=by simp_all
  have hjq:=WM.1 hq
  have:=Dt hi (by rw [Yh,hjq];simp [HH h1]) (by omega)
  simp_all
def Vn (P:Program) (nt:Nat) (ops:Array Oper) (cs:List kP) (bf:Array Nat) (n0:Nat) (l:List Oper) (i:Nat) (e:Env) (H:Heap) (fl st:List (Nat × Nat)) (k:Env->Heap->R):Prop:=
 ∃ (E:Nat->Env) (Hh:Nat->Heap) (Vv:Nat->V) (B:Nat->Option Nat),E 0=e/\Hh 0=H/\(∀ j o,l[j]? = some o->gq P nt ops (nD cs bf (i+j)) (kj cs bf (i+j)) (B j) o (E j) (Hh j) (Vv j) (E (j+1)) (Hh (j+1)))/\k (E l.length) (Hh l.length)=1/\
 (∀ j b,j<l.length->B j=some b->b<n0/\(∃ c,cs[i+j]? = some c/\bN c=false)/\∀ p ∈ st,(bf.getD (i+j) 0).testBit p.1=false->b≠p.2)/\
 (∀ j,j<l.length->nD cs bf (i+j)=true->kj cs bf (i+j)=false->∀ p ∈ fl,(bf.getD (i+j) 0).testBit p.1=false->p.2<(Hh j).n->(Hh (j+1)).get p.2=(Hh j).get p.2)/\
 (∀ j1 j2 b,j1<l.length->j2<l.length->B j1=some b->nD cs bf (i+j2)=true->kj cs bf (i+j2)=false->jh bf (i+j1) (i+j2)=false->b<(Hh j2).n->(Hh (j2+1)).get b=(Hh j2).get b)/\
 (∀ j o,l[j]? = some o->jW cs bf (i+j)=true->(GW nt (E j) ops o false/\Vv j = .cE []/\Hh (j+1)=Hh j)\/(qj P nt (E j) o (Hh j) (Vv j) (Hh (j+1))/\∀ j2,j<j2->j2<l.length->nD cs bf (i+j2)=true->kj cs bf (i+j2)=false->jh bf (i+j) (i+j2)=false->(Hh j).n<(Hh j2).n->(Hh (j2+1)).get (Hh j).n=(Hh j2).get (Hh j).n))
theorem yH {P:Program} {nt:Nat} {ph:dg} {ops:Array Oper} {base n0:Nat} {cs:List kP} {bf:Array Nat} (hph:iM P ph) (hbl:∀ x y,(bf.getD x 0).testBit y=true->y<x):∀ (l:List Oper) (i:Nat) (r:List uG) (e:Env) (H:Heap) (fl st:List (Nat × Nat)) (k:Env->Heap->R),ik P nt base ops cs bf l i=some r->(∀ j o,l[j]? = some o->cs[i+j]? = some (af P nt o))->(∀ p ∈ fl,p.1<i/\∃ c,cs[p.1]? = some c/\bN c=false)->bD ph n0 r e H fl st k=1->Vn P nt ops cs bf n0 l i e H fl st k
 | [],i,r,e,H,fl,st,k,hc,_,_,h=>by
  simp only [ik,Option.some.injEq]at hc
  subst hc
  exact ⟨λ_=>e,λ_=>H,λ_=>.iS,λ_=>none,rfl,rfl,λj o hj=>by simp at hj,h,λj b hj=>by simp at hj,λj hj=>by simp at hj,λj1 j2 b hj=>by simp at hj,λj o hj=>by simp at hj⟩
 | o :: l,i,r,e,H,fl,st,k,hc,hcs,hfl,h=>by
  simp only [ik]at hc
  split at hc
  .rename_i d g r' hd hg hr
   cases hc
   have hci:cs[i]? = some (af P nt o):=by simpa using hcs 0 o rfl
   have hcd:cs.getD i .bad=af P nt o:=by rw [List.getD_eq_getElem?_getD,hci];rfl
   have hcs':∀ j o',l[j]? = some o'->cs[i+1+j]? = some (af P nt o'):=λj o' hj=>by
    have:=hcs (j+1) o' (by simpa using hj)
    rwa [show i+(j+1)=i+1+j by omega]at this
   have hpi:kj cs bf i=(bN (af P nt o) || qF cs bf i):=by unfold kj;rw [hcd]
   have fin:∀ (v:V) (H1:Heap) (B0:Option Nat) (fl' st':List (Nat × Nat)),gq P nt ops (nD cs bf i) (kj cs bf i) B0 o e H v (dK d v e) H1->
    (∀ b,B0=some b->b<n0/\bN (af P nt o)=false/\(∀ p ∈ st,(bf.getD i 0).testBit p.1=false->b≠p.2)/\(i,b) ∈ fl'/\kj cs bf i=true)->
    (nD cs bf i=true->kj cs bf i=false->∀ p ∈ fl,(bf.getD i 0).testBit p.1=false->p.2<H.n->H1.get p.2=H.get p.2)->
    (nD cs bf i=true->kj cs bf i=false->∀ x b,i<x->(∃ c,cs[x]? = some c/\bN c=false)->(∀ p ∈ st',(bf.getD x 0).testBit p.1=false->b≠p.2)->jh bf x i=false->b<H.n->H1.get b=H.get b)->
    (∀ p ∈ fl',p.1<i+1/\∃ c,cs[p.1]? = some c/\bN c=false)->(∀ p ∈ fl,p ∈ fl')->(∀ p ∈ st,p ∈ st')->(jW cs bf i=true->(GW nt e ops o false/\v = .cE []/\H1=H)\/(qj P nt e o H v H1/\(i,H.n) ∈ fl'))->bD ph n0 r' (dK d v e) H1 fl' st' k=1->Vn P nt ops cs bf n0 (o :: l) i e H fl st k:=λv H1 B0 fl' st' hs hA hC hK hfl' s1 s2 hL hev=>by
    obtain ⟨E,Hh,Vv,B,h1,h2,h3,h4,h5,h6,h7,h8⟩:=yH hph hbl l (i+1) r' _ _ fl' st' k hr hcs' hfl' hev
    refine ⟨oE e E,oE H Hh,oE v Vv,oE B0 B,rfl,rfl,λj o' hj=>?_,h4,λj b hj hb=>?_,λj hj hi hp p hpm hbit hlt=>?_,λj1 j2 b hj1 hj2 hb hi hp hord hlt=>?_,λj o' hj hla=>?_⟩
    .cases j with
     | zero=>
      simp only [WU,Option.some.injEq]at hj
      subst hj
      show gq P nt ops (nD cs bf (i+0)) _ B0 o e H v (E 0) (Hh 0)
      rw [h1,h2]
      exact hs
     | succ j=>
      have:=h3 j o' (by simpa using hj)
      rw [show i+1+j=i+(j+1) by omega]at this
      exact this
    .cases j with
     | zero=>
      obtain ⟨q1,q2,q3,_⟩:=hA b hb
      exact ⟨q1,⟨_,by simpa using hci,q2⟩,q3⟩
     | succ j=>
      obtain ⟨q1,q2,q3⟩:=h5 j b (by simpa using hj) hb
      rw [show i+1+j=i+(j+1) by omega]at q2 q3
      exact ⟨q1,q2,λp hp=>q3 p (s2 p hp)⟩
    .cases j with
     | zero=>
      show (Hh 0).get p.2=H.get p.2
      rw [h2]
      exact hC hi hp p hpm hbit hlt
     | succ j=>
      have:=h6 j (by simpa using hj)
      rw [show i+1+j=i+(j+1) by omega]at this
      exact this hi hp p (s1 p hpm) hbit hlt
    .cases j2 with
     | zero=>
      cases j1 with
      | zero=>
       obtain ⟨_,_,_,_,q5⟩:=hA b hb
       exact absurd (hp.symm.trans q5) (by simp)
      | succ j1=>
       obtain ⟨_,q2,q3⟩:=h5 j1 b (by simpa using hj1) hb
       show (Hh 0).get b=H.get b
       rw [h2]
       exact hK hi hp (i+1+j1) b (by omega) q2 q3 (by rw [show i+1+j1=i+(j1+1) by omega];exact hord) hlt
     | succ j2=>
      cases j1 with
      | zero=>
       obtain ⟨_,_,_,q4,_⟩:=hA b hb
       have:=h6 j2 (by simpa using hj2)
       rw [show i+1+j2=i+(j2+1) by omega]at this
       refine this hi hp (i,b) q4 ?_ hlt
       unfold jh at hord
       rw [Wu]at hord
       exact hord.2
      | succ j1=>
       have:=h7 j1 j2 b (by simpa using hj1) (by simpa using hj2) hb
       rw [show i+1+j1=i+(j1+1) by omega,show i+1+j2=i+(j2+1) by omega]at this
       exact this hi hp hord hlt
    .cases j with
     | zero=>
      simp only [WU,Option.some.injEq]at hj
      subst hj
      rcases hL hla with ⟨q1,q2,q3⟩|⟨q1,q2⟩
      .exact YG ⟨q1,q2,by show Hh 0=H;rw [h2];exact q3⟩
      .refine YE ⟨by show qj P nt e o H v (Hh 0);rw [h2];exact q1,λj2 hj2 hjl hi hp hord hlt=>?_⟩
       cases j2 with
       | zero=>omega
       | succ j2=>
        have:=h6 j2 (by simpa using hjl)
        rw [show i+1+j2=i+(j2+1) by omega]at this
        refine this hi hp (i,H.n) q2 ?_ hlt
        unfold jh at hord
        rw [Wu]at hord
        exact hord.2
     | succ j=>
      have:=h8 j o' (by simpa using hj) (by rw [show i+1+j=i+(j+1) by omega];exact hla)
      refine this.imp id λhA=>⟨hA.1,λj2 hj2 hjl hi hp hord hlt=>?_⟩
      cases j2 with
      | zero=>omega
      | succ j2=>
       have:=hA.2 j2 (by omega) (by simpa using hjl)
       rw [show i+1+j2=i+(j2+1) by omega,show i+1+j=i+(j+1) by omega]at this
       exact this hi hp hord hlt
   have skip0:GW nt e ops o false->gq P nt ops (nD cs bf i) (kj cs bf i) none o e H (.cE []) (dK d (.cE []) e) H->bD ph n0 r' (dK d (.cE []) e) H fl st k=1->Vn P nt ops cs bf n0 (o :: l) i e H fl st k:=λhgw hs hev=>
    fin _ H none fl st hs (λb hb=>by cases hb) (λ_ _ _ _ _ _=>rfl) (λ_ _ _ _ _ _ _ _ _=>rfl) (λp hp=>⟨YG1 (hfl p hp).1,(hfl p hp).2⟩) (λ_ h=>h) (λ_ h=>h) (λ_=>YG ⟨hgw,rfl,rfl⟩) hev
   have hla:jW cs bf i=true->qd (af P nt o)=true:=λhl=>by have:=I1 hl;rwa [hcd]at this
   have hnoI:nD cs bf i=true->∀ {X:Prop},jW cs bf i=true->X:=λhi X hl=>by rw [Dy hl]at hi;cases hi
   have hfls:∀ p ∈ fl,p.1<i+1/\∃ c,cs[p.1]? = some c/\bN c=false:=λp hp=>⟨YG1 (hfl p hp).1,(hfl p hp).2⟩
   have h':sg g e (Nat.rec (motive:=λ_=>R)
    (aN (af P nt o) 0 ph e H λv H'=>bX d v e λe'=>bD ph n0 r' e' H' fl st k)
    (λt1 _=>Nat.rec (motive:=λ_=>R)
     (Heap.rec (motive:=λ_=>R) (λn bC t=>aN (af P nt o) 0 ph e (.mk n n t) λv H'=>Heap.rec (motive:=λ_=>R) (λn' wlo' t'=>aE (YS n wlo') (bX d v e λe'=>bD ph n0 r' e' (.mk n' bC t') fl st k) (no 0)) H') H)
     (λt2 _=>aI (qu (af P nt o)) e λa=>mS 0 a λob=>Nat.rec (motive:=λ_=>R)
      (Option.rec (motive:=λ_=>R) (no 0) (λb=>aE (Yv b n0) (dw 0 (bf.getD i 0) b st (aN (af P nt o) 0 ph e H λv H'=>bX d v e λe'=>bD ph n0 r' e' H ((i,b):: fl) st k)) (no 0)) ob)
      (λt3 _=>Nat.rec (motive:=λ_=>R)
       (Option.rec (motive:=λ_=>R) (aN (af P nt o) 0 ph e H λv H'=>bX d v e λe'=>bD ph n0 r' e' H' fl st k)
        (λb=>dw 0 (bf.getD i 0) b fl (aN (af P nt o) 0 ph e H λv H'=>bX d v e λe'=>bD ph n0 r' e' H' fl ((i,b):: st) k)) ob)
       (λ_ _=>Heap.rec (motive:=λ_=>R) (λn bC t=>aN (af P nt o) 0 ph e (.mk n n t) λv H'=>Heap.rec (motive:=λ_=>R) (λn' wlo' t'=>aE (YS n wlo') (yw 0 (HT.get t' n) (bX d v e λe'=>bD ph n0 r' e' (.mk n' bC t') ((i,n):: fl) st k)) (no 0)) H') H) t3) t2) t1) (kY cs bf (af P nt o) i))
    (bX d (.cE []) e λe'=>bD ph n0 r' e' H fl st k)=1:=h
   rcases sh hg h' with ⟨h1,h2⟩|⟨h1,h2⟩
   rotate_left
   .rw [cw]at h1
    exact skip0 h2 ⟨d,hd,rfl,YG ⟨h2,rfl,rfl⟩⟩ h1
   by_cases hf:qF cs bf i=true
   .have hld:Dq (af P nt o)=true:=by
     unfold qF at hf
     rw [Yu,hcd]at hf
     exact hf.1
    have hnp:bN (af P nt o)=false:=by cases hcc:af P nt o<;>rw [hcc]at hld<;>first|rfl|cases hld
    rw [show kY cs bf (af P nt o) i=2 by unfold kY;rw [if_pos hf]]at h1
    have h3:aI (qu (af P nt o)) e (λa=>mS 0 a λob=>Option.rec (motive:=λ_=>R) (no 0) (λb=>aE (Yv b n0) (dw 0 (bf.getD i 0) b st (aN (af P nt o) 0 ph e H λv H'=>bX d v e λe'=>bD ph n0 r' e' H ((i,b):: fl) st k)) (no 0)) ob)=1:=h1
    rw [ai]at h3
    have h4:=qY h3
    cases hob:pU (aA (qu (af P nt o)) e) with
    | none=>rw [hob]at h4;exact (au h4).elim
    | some b=>
     rw [hob]at h4
     obtain ⟨h5,h6⟩:=aL (show aE (Yv b n0) _ (no 0)=1 from h4)
     obtain ⟨h7,h8⟩:=sI h6
     obtain ⟨v,h9,h10⟩:=Ok hld hob h8
     have h9':bX d v e (λe'=>bD ph n0 r' e' H ((i,b):: fl) st k)=1:=h9
     rw [cw]at h9'
     have hpt:kj cs bf i=true:=by rw [hpi,hf];simp
     refine fin v H (some b) ((i,b):: fl) st ⟨d,hd,rfl,YE (YG ⟨h2,hpt,rfl,λH2 hH2=>?_⟩)⟩ (λb' hb'=>?_) (λ_ hp=>absurd (hp.symm.trans hpt) (by simp)) (λ_ hp=>absurd (hp.symm.trans hpt) (by simp)) (λp hp=>?_) (λp hp=>YH _ hp) (λ_ h=>h) (λhl=>by have:=hla hl;cases hcc:af P nt o<;>rw [hcc]at hld this<;>first|(cases this;done)|(cases hld;done)) h9'
     .have hev:=h10 H2 (hH2 b rfl) (λv' H'=>open Classical in if v'=v/\H'=H2 then 1 else 0)
      obtain ⟨v',H',q1,q2⟩:=eu hph (P:=P) (nt:=nt) (o:=o) (id:=0) (e:=e) (H:=H2) (by rw [hev];simp)
      have q3:v'=v/\H'=H2:=by
       by_cases hq:v'=v/\H'=H2
       .exact hq
       .simp [hq]at q2
      rw [<- q3.1]
      have:=q1
      rw [q3.2]at this
      exact this
     .cases hb'
      exact ⟨er h5,hnp,h7,YI ..,hpt⟩
     .rcases YT.1 hp with rfl|hp
      .exact ⟨YC2 i,_,hci,hnp⟩
      .exact hfls p hp
   .have hf':qF cs bf i=false:=by simpa using hf
    by_cases hpu:bN (af P nt o)=true
    .rw [show kY cs bf (af P nt o) i=0 by unfold kY;rw [if_neg hf,if_pos hpu]]at h1
     obtain ⟨v,h3,h4⟩:=xj hph hpu (show aN (af P nt o) 0 ph e H (λv H'=>bX d v e λe'=>bD ph n0 r' e' H' fl st k)=1 from h1)
     have h4':bX d v e (λe'=>bD ph n0 r' e' H fl st k)=1:=h4
     rw [cw]at h4'
     have hpt:kj cs bf i=true:=by rw [hpi,hpu];rfl
     exact fin v H none fl st ⟨d,hd,rfl,YE (YG ⟨h2,hpt,rfl,λH2 _=>h3 H2⟩)⟩ (λb hb=>by cases hb) (λ_ _ _ _ _ _=>rfl) (λ_ _ _ _ _ _ _ _ _=>rfl) hfls (λ_ h=>h) (λ_ h=>h) (λhl=>by have:=hla hl;cases hcc:af P nt o<;>rw [hcc]at hpu this<;>first|(cases this;done)|(cases hpu;done)) h4'
    .have hpf:kj cs bf i=false:=by rw [hpi,hf'];simpa using hpu
     have hpn:bN (af P nt o)=false:=by simpa using hpu
     by_cases his:nD cs bf i=true
     .by_cases hi0:gI (cs.map bN) bf i=true
      .rw [show kY cs bf (af P nt o) i=0 by unfold kY;rw [if_neg hf,if_neg hpu,if_pos his,if_pos hi0]]at h1
       obtain ⟨v,H1,h3,h4⟩:=eu hph (show aN (af P nt o) 0 ph e H (λv H'=>bX d v e λe'=>bD ph n0 r' e' H' fl st k)=1 from h1)
       have h4':bX d v e (λe'=>bD ph n0 r' e' H1 fl st k)=1:=h4
       rw [cw]at h4'
       have hno:∀ x,x≠i->(∃ c,cs[x]? = some c/\bN c=false)->jh bf i x=true:=λx hx ⟨c,hc1,hc2⟩=>Dt hi0 (by rw [Yh,hc1];simp [hc2]) (Ne.symm hx)
       refine fin v H1 none fl st ⟨d,hd,rfl,YE (YE (YG ⟨h2,hpf,his,h3⟩))⟩ (λb hb=>by cases hb) (λ_ _ p hp hbit _=>?_) (λ_ _ x b hx hxc _ hord _=>?_) hfls (λ_ h=>h) (λ_ h=>h) (λhl=>hnoI his hl) h4'
       .have hlt:=(hfl p hp).1
        have ho:=hno p.1 (by omega) (hfl p hp).2
        unfold jh at ho
        rw [hbit,Bool.false_or]at ho
        have:=hbl _ _ ho
        omega
       .rw [Ku,hno x (by omega) hxc]at hord
        cases hord
      .rw [show kY cs bf (af P nt o) i=3 by unfold kY;rw [if_neg hf,if_neg hpu,if_pos his,if_neg hi0]]at h1
       have hst:AZ (af P nt o)=true:=by
        have hi:=his
        unfold nD at hi
        rw [Yu,YI3,hcd]at hi
        exact hi.2.resolve_right hi0
       have h3:aI (qu (af P nt o)) e (λa=>mS 0 a λob=>Option.rec (motive:=λ_=>R) (aN (af P nt o) 0 ph e H λv H'=>bX d v e λe'=>bD ph n0 r' e' H' fl st k)
        (λb=>dw 0 (bf.getD i 0) b fl (aN (af P nt o) 0 ph e H λv H'=>bX d v e λe'=>bD ph n0 r' e' H' fl ((i,b):: st) k)) ob)=1:=h1
       rw [ai]at h3
       have h4:=qY h3
       have hfr:=PI (id:=0) hst (ph:=ph) (e:=e) (H:=H)
       have fire:∀ (fl' st':List (Nat × Nat)),aN (af P nt o) 0 ph e H (λv H'=>bX d v e λe'=>bD ph n0 r' e' H' fl' st' k)=1->∃ v H1,eM P nt o e H v H1/\Fr (pU (aA (qu (af P nt o)) e)) H H1/\bD ph n0 r' (dK d v e) H1 fl' st' k=1:=λfl' st' hev=>by
        obtain ⟨⟨v,H1⟩,q1,q2,q3⟩:=hfr.get (k:=λp:V × Heap=>bX d p.1 e λe'=>bD ph n0 r' e' p.2 fl' st' k) hev
        obtain ⟨v',H',q4,q5⟩:=eu hph (P:=P) (nt:=nt) (o:=o) (id:=0) (e:=e) (H:=H) (k:=λv' H'=>open Classical in if (v',H')=(v,H1) then 1 else 0) (by
         have:=q3 (λp=>open Classical in if p=(v,H1) then 1 else 0)
         rw [show (λv' H'=>open Classical in if (v',H')=(v,H1) then 1 else 0)=λv' H'=>(λp:V × Heap=>open Classical in if p=(v,H1) then (1:R) else 0) (v',H') from rfl,this]
         simp)
        have q6:(v',H')=(v,H1):=by
         by_cases hq:(v',H')=(v,H1)
         .exact hq
         .simp [hq]at q5
        cases q6
        have q2':bX d v e (λe'=>bD ph n0 r' e' H1 fl' st' k)=1:=q2
        rw [cw]at q2'
        exact ⟨v,H1,q4,q1,q2'⟩
       cases hob:pU (aA (qu (af P nt o)) e) with
       | none=>
        rw [hob]at h4
        obtain ⟨v,H1,q1,q2,q3⟩:=fire fl st h4
        rw [hob]at q2
        exact fin v H1 none fl st ⟨d,hd,rfl,YE (YE (YG ⟨h2,hpf,his,q1⟩))⟩ (λb hb=>by cases hb) (λ_ _ p hp hbit hlt=>q2 _ hlt (by simp)) (λ_ _ x b hx hxc _ hord hlt=>q2 _ hlt (by simp)) hfls (λ_ h=>h) (λ_ h=>h) (λhl=>hnoI his hl) q3
       | some b0=>
        rw [hob]at h4
        obtain ⟨h7,h8⟩:=sI (show dw 0 (bf.getD i 0) b0 fl _=1 from h4)
        obtain ⟨v,H1,q1,q2,q3⟩:=fire fl ((i,b0):: st) h8
        rw [hob]at q2
        refine fin v H1 none fl ((i,b0):: st) ⟨d,hd,rfl,YE (YE (YG ⟨h2,hpf,his,q1⟩))⟩ (λb hb=>by cases hb) (λ_ _ p hp hbit hlt=>q2 _ hlt ?_) (λ_ _ x b hx hxc hap hord hlt=>q2 _ hlt ?_) hfls (λ_ h=>h) (λp hp=>YH _ hp) (λhl=>hnoI his hl) q3
        .intro e0
         cases e0
         exact h7 p hp hbit rfl
        .intro e0
         cases e0
         unfold jh at hord
         rw [Wu]at hord
         exact hap (i,b0) (YI ..) hord.1 rfl
     .have hisf:nD cs bf i=false:=by simpa using his
      by_cases hlt:jW cs bf i=true
      .rw [show kY cs bf (af P nt o) i=4 by unfold kY;rw [if_neg hf,if_neg hpu,if_neg his,if_pos hlt]]at h1
       have hbx:=hla hlt
       have had:qu (af P nt o) = .c .aw:=by cases hcc:af P nt o<;>rw [hcc]at hbx<;>first|rfl|cases hbx
       have h3:aI (qu (af P nt o)) e (λa=>mS 0 a λob=>Heap.rec (motive:=λ_=>R) (λn bC t=>aN (af P nt o) 0 ph e (.mk n n t) λv H'=>Heap.rec (motive:=λ_=>R) (λn' wlo' t'=>aE (YS n wlo') (yw 0 (HT.get t' n) (bX d v e λe'=>bD ph n0 r' e' (.mk n' bC t') ((i,n):: fl) st k)) (no 0)) H') H)=1:=h1
       rw [ai,had]at h3
       have h4:=qY h3
       cases H with
       | mk n bC t=>
        have h4':aN (af P nt o) 0 ph e (.mk n n t) (λv H'=>Heap.rec (motive:=λ_=>R) (λn' wlo' t'=>aE (YS n wlo') (yw 0 (HT.get t' n) (bX d v e λe'=>bD ph n0 r' e' (.mk n' bC t') ((i,n):: fl) st k)) (no 0)) H')=1:=h4
        obtain ⟨bl,H1,hN,h5,hA⟩:=VN hbx h4'
        cases H1 with
        | mk n' wlo' t'=>
         have h5':aE (YS n wlo') (yw 0 (HT.get t' n) (bX d (.ptr n 0) e λe'=>bD ph n0 r' e' (.mk n' bC t') ((i,n):: fl) st k)) (no 0)=1:=h5
         obtain ⟨h6,h7⟩:=aL h5'
         rw [show HT.get t' n = .cells bl from hN.get]at h7
         obtain ⟨hcl,h8⟩:=MV h7
         rw [cw]at h8
         have hN':nI (.mk n bC t) (.cells bl) (.mk n' bC t'):=⟨hN.n,rfl,hN.get,hN.tC⟩
         refine fin (.ptr n 0) (.mk n' bC t') none ((i,n):: fl) st ⟨d,hd,rfl,YE (YE (YE ⟨h2,hpf,hisf,.mk n n t,.mk n' wlo' t',rfl,λ_=>rfl,rfl,(hA hcl _ _ hN).ops,cq h6,rfl,λ_=>rfl,rfl⟩))⟩ (λb hb=>by cases hb) (λhi=>absurd (hi.symm.trans hisf) (by simp)) (λhi=>absurd (hi.symm.trans hisf) (by simp)) (λp hp=>?_) (λp hp=>YH _ hp) (λ_ h=>h) (λ_=>YE ⟨hA hcl _ _ hN',YI ..⟩) h8
         rcases YT.1 hp with rfl|hp
         .exact ⟨YC2 i,_,hci,hpn⟩
         .exact hfls p hp
      rw [show kY cs bf (af P nt o) i=1 by unfold kY;rw [if_neg hf,if_neg hpu,if_neg his,if_neg hlt]]at h1
      cases H with
      | mk n bC t=>
       obtain ⟨v,H1,h3,h4⟩:=eu hph (show aN (af P nt o) 0 ph e (.mk n n t) (λv H'=>Heap.rec (motive:=λ_=>R) (λn' wlo' t'=>aE (YS n wlo') (bX d v e λe'=>bD ph n0 r' e' (.mk n' bC t') fl st k) (no 0)) H')=1 from h1)
       cases H1 with
       | mk n' wlo' t'=>
        have h4':aE (YS n wlo') (bX d v e λe'=>bD ph n0 r' e' (.mk n' bC t') fl st k) (no 0)=1:=h4
        obtain ⟨h5,h6⟩:=aL h4'
        rw [cw]at h6
        exact fin v (.mk n' bC t') none fl st ⟨d,hd,rfl,YE (YE (YE ⟨h2,hpf,hisf,.mk n n t,.mk n' wlo' t',rfl,λ_=>rfl,rfl,h3,cq h5,rfl,λ_=>rfl,rfl⟩))⟩ (λb hb=>by cases hb) (λhi=>absurd (hi.symm.trans hisf) (by simp)) (λhi=>absurd (hi.symm.trans hisf) (by simp)) hfls (λ_ h=>h) (λ_ h=>h) (λhl=>absurd hl hlt) h6
  .cases hc
end Go.Ev
end
section
namespace Go.Ev
open Go.RowKit
def M.meet (m1 m2:M):M:=⟨λb c=>(∃ c',m1.b b c')/\m2.b b c,m2.z⟩
mutual
theorem VR.meet {m1 m2:M}:∀ (v:V) (c1 c2:Value),VR m1 v c1->VR m2 v c2->VR (m1.meet m2) v c2
 | .int ..,_,_,_,h=>by simpa only [VR] using h
 | .bool _,_,_,_,h=>by simpa only [VR] using h
 | .str ..,_,_,_,h=>by simpa only [VR] using h
 | .ptr ..,_,_,h1,h2=>by simp only [VR]at h1 h2 ⊢;obtain ⟨c,_,h3⟩:=h1;obtain ⟨c',h4,h5⟩:=h2;exact ⟨c',h4,⟨c,h3⟩,h5⟩
 | .iS,_,_,_,h=>by simpa only [VR] using h
 | .slice ..,_,_,h1,h2=>by simp only [VR]at h1 h2 ⊢;obtain ⟨c,_,_,_,_,h3,_⟩:=h1;obtain ⟨c',cap,o',sp,h4,h5,h6⟩:=h2;exact ⟨c',cap,o',sp,h4,⟨⟨c,h3⟩,h5⟩,h6⟩
 | .aw,_,_,_,h=>by simpa only [VR] using h
 | .map _,_,_,h1,h2=>by simp only [VR]at h1 h2 ⊢;obtain ⟨c,_,h3⟩:=h1;obtain ⟨c',h4,h5⟩:=h2;exact ⟨c',h4,⟨c,h3⟩,h5⟩
 | .xc,_,_,_,h=>by simpa only [VR] using h
 | .func _ l,_,_,h1,h2=>by simp only [VR]at h1 h2 ⊢;obtain ⟨c,_,h3⟩:=h1;obtain ⟨c',h4,h5⟩:=h2;exact ⟨c',h4,cj.meet l _ _ h3 h5⟩
 | .su _,_,_,h1,h2=>by simp only [VR]at h1 h2 ⊢;obtain ⟨c,_,h3⟩:=h1;obtain ⟨c',h4,h5⟩:=h2;exact ⟨c',h4,⟨c,h3⟩,h5⟩
 | .tp,_,_,_,h=>by simpa only [VR] using h
 | .iface _ x,_,_,h1,h2=>by simp only [VR]at h1 h2 ⊢;obtain ⟨c,_,h3⟩:=h1;obtain ⟨c',h4,h5⟩:=h2;exact ⟨c',h4,VR.meet x _ _ h3 h5⟩
 | .DM,_,_,_,h=>by simpa only [VR] using h
 | .agg l,_,_,h1,h2=>by simp only [VR]at h1 h2 ⊢;obtain ⟨c,_,h3⟩:=h1;obtain ⟨c',h4,h5⟩:=h2;exact ⟨c',h4,cj.meet l _ _ h3 h5⟩
 | .cE l,_,_,h1,h2=>by simp only [VR]at h1 h2 ⊢;obtain ⟨c,_,h3⟩:=h1;obtain ⟨c',h4,h5⟩:=h2;exact ⟨c',h4,cj.meet l _ _ h3 h5⟩
theorem cj.meet {m1 m2:M}:∀ (l:List V) (c1 c2:List Value),cj m1 l c1->cj m2 l c2->cj (m1.meet m2) l c2
 | [],_,_,_,h=>by simpa only [cj] using h
 | v :: l,_,_,h1,h2=>by
  simp only [cj]at h1 h2 ⊢
  obtain ⟨c,r,_,h3,h4⟩:=h1
  obtain ⟨c',r',h5,h6,h7⟩:=h2
  exact ⟨c',r',h5,VR.meet v _ _ h3 h6,cj.meet l _ _ h4 h7⟩
end
theorem BR.meet {P:Program} {m1 m2:M} {bl:ee} {o1 o2:Obj} (h1:BR P m1 bl o1) (h2:BR P m2 bl o2):BR P (m1.meet m2) bl o2:=by
 cases bl with
 | dead=>trivial
 | cells l=>
  obtain ⟨c,e,fr,g1,⟨g2,g3⟩,_⟩:=h1
  obtain ⟨c',e',fr',k1,⟨k2,k3⟩,k4⟩:=h2
  refine ⟨c',e',fr',k1,⟨λi v hi=>?_,k3⟩,k4⟩
  obtain ⟨a1,cv,a2,a3⟩:=g2 i v hi
  obtain ⟨b1,cv',b2,b3⟩:=k2 i v hi
  exact ⟨b1,cv',b2,VR.meet v _ _ a3 b3⟩
 | bytes len n=>exact h2
 | view l=>
  obtain ⟨c,e,fr,g1,g2⟩:=h1
  obtain ⟨c',e',fr',k1,k2⟩:=h2
  refine ⟨c',e',fr',k1,λi v hi ho=>?_⟩
  obtain ⟨⟨cv,a2,a3⟩,a4⟩:=g2 i v hi ho
  obtain ⟨⟨cv',b2,b3⟩,b4⟩:=k2 i v hi ho
  exact ⟨⟨cv',b2,VR.meet v _ _ a3 b3⟩,b4⟩
 | map es=>
  obtain ⟨ents,clock,es1,g1,g4,g5,g6,g2,g3⟩:=h1
  obtain ⟨ents',clock',es2,k1,k4,k5,k6,k2,k3⟩:=h2
  have key:∀ (q:V × V->V) (c1 c2:List Value),cj m1 (es1.map q) c1->cj m2 (es2.map q) c2->cj (m1.meet m2) (es2.map q) c2:=λq c1 c2 v1 v2=>by
   refine cj.oI v2.length λi v c hi hc=>?_
   rw [Yh]at hi
   obtain ⟨p,hp,rfl⟩:=YY.1 hi
   have hm:q p ∈ es1.map q:=List.mem_map.2 ⟨p,(g4.trans k4.symm).mem_iff.2 (List.mem_of_getElem? hp),rfl⟩
   obtain ⟨c',_,hc'⟩:=v1.mem hm
   obtain ⟨c2',e1,e2⟩:=v2.get (i:=i) (v:=q p) (by rw [Yh,hp];rfl)
   rw [hc]at e1
   cases e1
   exact VR.meet _ _ _ hc' e2
  exact ⟨ents',clock',es2,k1,k4,k5,k6,key _ _ _ g2 k2,key _ _ _ g3 k3⟩
 | mark=>exact h2
 | loop st jump e ps asL bo=>
  obtain ⟨r,nt,fid,g1,g2,g3,g4,g5,g6,g7⟩:=h1
  obtain ⟨r',nt',fid',k1,k2,k3,k4,k5,k6,k7⟩:=h2
  refine ⟨r',nt',fid',k1,k2,k3,⟨k4.size,k4.le,λt v hv=>?_,k4.rest⟩,k5,k6,k7⟩
  have h2:=k4.get t v hv
  have hlt:t<nt':=by rw [<- k4.size];exact (YK.1 hv).1
  by_cases htn:t<nt
  .have hlt2:t<r.tmps.size:=by rw [g4.size];exact htn
   have hex:r.tmps[t]? = some r.tmps[t]:=YQ hlt2
   exact VR.meet _ _ _ (g4.get t _ hex) h2
  .have:=k4.le
   rw [g4.rest t (by omega) (by omega)]at h2 ⊢
   simp only [VR]at h2 ⊢
   obtain ⟨cs,h5,h6⟩:=h2
   exact ⟨cs,h5,by simpa only [cj] using h6⟩
section
variable {P:Program} {base:Nat} {w0 w w':World} {rho rho':Nat->Option Nat} {H H1 H':Heap}
structure Part (H1 H:Heap):Prop where
 n:H1.n<=H.n
 get:∀ b,b<H1.n->H.get b=H1.get b
 out:∀ b,H1.n<=b->H1.get b = .dead
theorem Part.trans {H1 H2 H3:Heap} (h:Part H1 H2) (k:Part H2 H3):Part H1 H3:=
 ⟨Ym h.n k.n,λb hb=>(k.get b (YC hb h.n)).trans (h.get b hb),h.out⟩
def cutAt (n:Nat) (rho:Nat->Option Nat):Nat->Option Nat:=λb=>if b<n then rho b else none
theorem dL {n b c} (h:cutAt n rho b=some c):b<n/\rho b=some c:=by
 unfold cutAt at h
 simp_all
theorem rA {n b} (h:b<n):cutAt n rho b=rho b:=if_pos h
def Kn (P:Program) (H:Heap) (b:Nat):Prop:=∃ m o,BR P m (H.get b) o/\∀ b' c',m.b b' c'->b'<H.n
theorem PR.kn (h:PR P base w0 rho H w) {b c:Nat} (hr:rho b=some c):Kn P H b:=by
 obtain ⟨o,h1,h2⟩:=h.cQ b c hr
 exact ⟨_,o,h2,λb' c' hm=>hm.1⟩
theorem Kn.part {b:Nat} (h:Kn P H1 b) (hp:Part H1 H) (hb:b<H1.n):Kn P H b:=by
 obtain ⟨m,o,h1,h2⟩:=h
 exact ⟨m,o,by rw [hp.get b hb];exact h1,λb' c' hm=>YC (h2 b' c' hm) hp.n⟩
theorem DH {m1:M} (hm:∀ b c,m1.b b c->b<H1.n) (hp:Part H1 H):(m1.meet (mu rho H w)).le (mu (cutAt H1.n rho) H1 w):=
 ⟨λb c ⟨⟨c',h1⟩,h2⟩=>⟨hm _ _ h1,λha=>by
  rw [rA (hm _ _ h1)]
  exact h2.2 (by rw [hp.get b (hm _ _ h1)];omega)⟩,λ_ _ h=>h⟩
theorem PR.part (h:PR P base w0 rho H w) (hp:Part H1 H) (hw:H1.bC<=H1.n) (hk:∀ b c,rho b=some c->b<H1.n->Kn P H1 b):PR P base w0 (cutAt H1.n rho) H1 w where
 below:=h.below
 cN:=h.cN
 wn:=hw
 jl b c hr:=by
  obtain ⟨h1,h2⟩:=dL hr
  obtain ⟨_,h4,h5,h6⟩:=h.jl b c h2
  exact ⟨h1,h4,h5,by rw [<- hp.get b h1];exact h6⟩
 inj b b' c h1 h2:=h.inj b b' c (dL h1).2 (dL h2).2
 cQ b c hr:=by
  obtain ⟨h1,h2⟩:=dL hr
  obtain ⟨o,h3,h4⟩:=h.cQ b c h2
  obtain ⟨m,o',h5,h6⟩:=hk b c h2 h1
  rw [hp.get b h1]at h4
  exact ⟨o,h3,(BR.meet h5 h4).mono (DH h6 hp)⟩
 out b hb:=hp.out b hb
 gl:=⟨h.gl.1,h.gl.2.1,λb c hr=>h.gl.2.2 b c (dL hr).2⟩
theorem PR.grow (h:PR P base w0 rho H w) (hp:Part H H') (hw:H'.bC<=H'.n) (ho:∀ b,H'.n<=b->H'.get b = .dead):PR P base w0 rho H' w/\(mu rho H w).le (mu rho H' w):=by
 have hm:(mu rho H w).le (mu rho H' w):=⟨λb c ⟨h1,h2⟩=>⟨YC h1 hp.n,λha=>h2 (by rw [<- hp.get b h1];exact ha)⟩,λ_ _ h=>h⟩
 refine ⟨⟨h.below,h.cN,hw,λb c hr=>?_,h.inj,λb c hr=>?_,ho,h.gl⟩,hm⟩
 .obtain ⟨h1,h2,h3,h4⟩:=h.jl b c hr
  exact ⟨YC h1 hp.n,h2,h3,by rw [hp.get b h1];exact h4⟩
 .obtain ⟨h1,_⟩:=h.jl b c hr
  obtain ⟨o,h3,h4⟩:=h.cQ b c hr
  exact ⟨o,h3,by rw [hp.get b h1];exact h4.mono hm⟩
theorem PR.merge {Hi Hi' H1':Heap} (h:PR P base w0 rho H w) (hi:Part Hi H) (hi':Part Hi' H) (hii:Hi.n<=Hi'.n) (hno:∀ b c,rho b=some c->b<Hi.n\/Hi'.n<=b)
 (h1n:H1.n=Hi.n) (run:PR P base w0 rho' H1' w') (x:Ext (cutAt Hi.n rho) H1 w rho' H1' w') (hlo:Hi.n<=H1'.bC) (hn':Hi'.n=H1'.n) (hg':∀ b,Hi'.get b=H1'.get b) {rho'':Nat->Option Nat} (hr'':rho''=λb=>if b<Hi'.n then rho' b else rho b):
 PR P base w0 rho'' H w'/\(mu rho H w).le (mu rho'' H w')/\(mu rho' H1' w').le (mu rho'' H w')/\(∀ b,b<Hi.n->rho'' b=rho b)/\(∀ b c,rho'' b=some c->rho b=some c\/(Hi.n<=b/\b<Hi'.n/\w.heap.size<=c/\rho' b=some c))/\∀ c,c<w.heap.size->w'.heap[c]? = w.heap[c]?:=by
 subst hr''
 have k1:∀ b,b<Hi.n->rho' b=rho b:=λb hb=>by
  rw [(x.cD b (by omega) (by omega)).2,rA hb]
 have k2:∀ b c,Hi.n<=b->rho' b=some c->w.heap.size<=c:=λb c hb hr=>by
  rcases x.new b c (by omega) hr with h'|⟨b0,h1,h2⟩
  .exact h'
  .have:=(dL h1).1;omega
 have k3:∀ c,c<w.heap.size->w'.heap[c]? = w.heap[c]?:=λc hc=>x.fr c hc λb hb=>YC (dL hb).1 hlo
 have m1:(mu rho H w).le (mu (λb=>if b<Hi'.n then rho' b else rho b) H w'):=by
  refine ⟨λb c ⟨h1,h2⟩=>⟨h1,λha=>?_⟩,x.mu.2⟩
  have h3:=h2 ha
  show (if b<Hi'.n then rho' b else rho b)=some c
  rcases hno b c h3 with h4|h4
  .rw [if_pos (by omega),k1 b h4];exact h3
  .rw [if_neg (by omega)];exact h3
 have m2:(mu rho' H1' w').le (mu (λb=>if b<Hi'.n then rho' b else rho b) H w'):=by
  refine ⟨λb c ⟨h1,h2⟩=>⟨?_,λha=>?_⟩,λ_ _ h=>h⟩
  .have:=hi'.n;omega
  .have hb:b<Hi'.n:=by omega
   show (if b<Hi'.n then rho' b else rho b)=some c
   rw [if_pos hb]
   exact h2 (by rw [<- hg' b,<- hi'.get b hb];exact ha)
 refine ⟨⟨run.below,run.cN,h.wn,λb c hr=>?_,λb b' c hr hr'=>?_,λb c hr=>?_,h.out,run.gl.1,run.gl.2.1,λb c hr=>(show (if b<Hi'.n then rho' b else rho b)=some c->¬ GB c from λhr=>by
  split at hr
  .exact run.gl.2.2 b c hr
  .exact h.gl.2.2 b c hr) hr⟩,m1,m2,λb hb=>?_,λb c hr=>?_,k3⟩
 .split at hr
  .rename_i hb
   obtain ⟨h1,h2,h3,h4⟩:=run.jl b c hr
   exact ⟨YC hb hi'.n,h2,h3,by rw [hi'.get b hb,hg' b];exact h4⟩
  .obtain ⟨h1,h2,h3,h4⟩:=h.jl b c hr
   exact ⟨h1,h2,YC h3 x.size,h4⟩
 .have cross:∀ b b' c,b<Hi'.n->¬ b'<Hi'.n->rho' b=some c->rho b'=some c->False:=λb b' c g1 g2 g3 g4=>by
   have hd:=h.jl b' c g4
   by_cases hb:b<Hi.n
   .rw [k1 b hb]at g3
    have:=h.inj b b' c g3 g4
    omega
   .have:=k2 b c (by omega) g3
    omega
  split at hr<;>split at hr'
  .exact run.inj b b' c hr hr'
  .exact (cross b b' c ‹_› ‹_› hr hr').elim
  .exact (cross b' b c ‹_› ‹_› hr' hr).elim
  .exact h.inj b b' c hr hr'
 .split at hr
  .rename_i hb
   obtain ⟨o,h1,h2⟩:=run.cQ b c hr
   exact ⟨o,h1,by rw [hi'.get b hb,hg' b];exact h2.mono m2⟩
  .obtain ⟨o,h1,h2⟩:=h.cQ b c hr
   exact ⟨o,(k3 c (h.jl b c hr).2.2.1).trans h1,h2.mono m1⟩
 .show (if b<Hi'.n then rho' b else rho b)=rho b
  rw [if_pos (by omega),k1 b hb]
 .replace hr:(if b<Hi'.n then rho' b else rho b)=some c:=hr
  split at hr
  .rename_i hb
   by_cases hb1:b<Hi.n
   .exact YG ((k1 b hb1).symm.trans hr)
   .exact YE ⟨by omega,hb,k2 b c (by omega) hr,hr⟩
  .exact YG hr
theorem Ext.after {H0:Heap} {rho0 rho'':Nat->Option Nat} {w00:World} {m:Nat} (h:Ext rho0 H0 w00 rho H w) (hd0:∀ b c,rho0 b=some c->b<H0.n) (hc0:∀ b c,rho0 b=some c->c<w00.heap.size) (ho:∀ b,H0.n<=b->H0.get b = .dead) (hm:H0.n<=m) (h1:∀ b,b<m->rho'' b=rho b) (h2:∀ b c,rho'' b=some c->rho b=some c\/w.heap.size<=c) (h3:∀ c,c<w.heap.size->w'.heap[c]? = w.heap[c]?) (hs:w.heap.size<=w'.heap.size):Ext rho0 H0 w00 rho'' H w' where
 n:=h.n
 bC:=h.bC
 size:=Ym h.size hs
 cD b hb hw:=⟨(h.cD b hb hw).1,(h1 b (by omega)).trans (h.cD b hb hw).2⟩
 old b c hb hr:=h.old b c hb (by rw [<- h1 b (by omega)];exact hr)
 live b c hr ha:=by
  have hl:=h.live b c hr ha
  rw [h1 b (YC (hd0 b c hr) hm)]
  exact hl
 qe:=h.qe
 new b c hb hr:=by
  rcases h2 b c hr with h'|h'
  .exact h.new b c hb h'
  .exact YG (Ym h.size h')
 fr c hc hb:=(h3 c (YC hc h.size)).trans (h.fr c hc hb)
 marks b hb:=by
  have hbn:b<m:=by
   rcases Yf b H0.n with h'|h'
   .omega
   .rw [ho b h']at hb;cases hb
  exact ⟨(h.marks b hb).1,(h1 b hbn).trans (h.marks b hb).2.1,λc hc=>(h3 c (YC (hc0 b c hc) h.size)).trans ((h.marks b hb).2.2 c hc)⟩
 rows c cs e fr hc:=by
  obtain ⟨cs',e',fr',g1,g2⟩:=h.rows c cs e fr hc
  exact ⟨cs',e',fr',(h3 c (YK.1 g1).1).trans g1,g2⟩
 loops c r hc:=by
  obtain ⟨r',g1⟩:=h.loops c r hc
  exact ⟨r',(h3 c (YK.1 g1).1).trans g1⟩
end
end Go.Ev
end
section
namespace Go.Ev
open Go.RowKit
theorem tM {rd} {P} {o:Oper} {a} {w} {K} (h:o.wpIn (WF rd) 0 P a w K (λ_ _ _=>False)):∃ a' w',K a' w':=by
 have h:=h.2
 have hroom:∀ k,(WF rd).room k:=λk=>by simp [Fence.room]
 generalize (o.semAt (WF rd).round a.eval).run P w=r at *
 cases r with
 | ok x w'=>
  cases x<;>simp only [Oper.uponIn]at h
  case value v=>grind
  case skip=>grind
  case defer d=>grind
  case enter f args=>
   obtain ⟨e,w'',fr,he,_⟩:=h.2.2 [] (hroom _)
   cases e with
   | returned u=>grind
   | panicked c=>simp_all
   | outgrown=>obtain ⟨_,_,h⟩:=he;simp_all
  case row row args=>
   obtain ⟨v,w'',he,_⟩:=h.2 default [] (hroom _)
   grind
  case round l f tmps assign body=>
   obtain ⟨e,w'',he,_⟩:=h.2.2 default [] (hroom _)
   cases e with
   | returned u=>grind
   | panicked c=>simp_all
   | outgrown=>obtain ⟨_,_,h⟩:=he;simp_all
 | halt x w'=>
  cases x<;>simp only [Oper.uponIn]at h
theorem M.le_trans {m1 m2 m3:M} (h:m1.le m2) (k:m2.le m3):m1.le m3:=⟨λb c x=>k.1 _ _ (h.1 _ _ x),λc z x=>k.2 _ _ (h.2 _ _ x)⟩
theorem nV {nt} {x} {d} (h:rE nt x=some d):d=x.map aX/\∀ t,x=some t->t<nt:=by
 unfold rE at h
 grind
theorem TR.congr {m:M} {nt:Nat} {e e':Env} {tmps:Array Value} (h:TR m nt e tmps) (he:∀ s,aa s e'=aa s e):TR m nt e' tmps:=
 ⟨h.size,h.le,λt v hv=>by rw [he];exact h.get t v hv,λt h1 h2=>by rw [he];exact h.rest t h1 h2⟩
theorem abH {m} {nt} {e e'} {a} {o:Oper} {ops} (h:TR m nt e a.tmps) (he:∀ t,t ∈ o.looksAt ops->t<nt->aa (aX t) e=aa (aX t) e'):OR m nt e' a o:=λx hx ar har=>by
 have h1:=jR h har
 have h2:aA ar e=aA ar e':=by
  unfold aK at har
  split at har
  .rename_i t
   split at har
   .rename_i hlt
    cases har
    exact he t (QH _ (List.mem_filterMap.2 ⟨.tmp t,by simp_all,rfl⟩)) hlt
   simp_all
  .simp only [YY]at har
   obtain ⟨u,_,rfl⟩:=har
   rfl
  .cases har;rfl
  simp_all
 simp_all
theorem aaQ {m} {nt} {e e'} {tmps} {o:Oper} {ops} (h:TR m nt e tmps) (he:∀ t,t ∈ o.looksAt ops->t<nt->aa (aX t) e=aa (aX t) e'):GT nt m e' ops o tmps:=λj b o' d h1 h2 h3 hlt=>by
 obtain ⟨v,h4,h5⟩:=h.gt ops o j b o' d h1 h2 h3 hlt
 refine ⟨v,h4,?_⟩
 rw [<- he d ?_ hlt]
 .omega
 .unfold Oper.looksAt
  simp_all
theorem Xq (x):∀ (k) (t:HT),∃ t':HT,t'.get k=x/\∀ j,j≠k->t'.get j=t.get j:=by
 intro k
 induction k using Qy with
 | _ k ih=>
  intro t
  cases k with
  | zero=>
   cases t with
   | e=>exact ⟨.n x .e .e,rfl,λj hj=>by
    cases j with
    | zero=>omega
    | succ j=>rw [HT.cK,HT.ue,HT.ue];simp⟩
   | n u l r=>exact ⟨.n x l r,rfl,λj hj=>by
    cases j with
    | zero=>omega
    | succ j=>rfl⟩
  | succ k=>
   have go:∀ (u) (l r),(∀ j,t.get j=HT.get (.n u l r) j)->∃ t':HT,t'.get (k+1)=x/\∀ j,j≠k+1->t'.get j=t.get j:=λu l r ht=>by
    by_cases hk:k%2=0
    .obtain ⟨l',h1,h2⟩:=ih (k/2) (by omega) l
     refine ⟨.n u l' r,by rw [HT.cK,if_pos hk];omega,λj hj=>?_⟩
     rw [ht]
     cases j with
     | zero=>rfl
     | succ j=>
      rw [HT.cK,HT.cK]
      grind
    .obtain ⟨r',h1,h2⟩:=ih (k/2) (by omega) r
     refine ⟨.n u l r',by rw [HT.cK,if_neg hk];omega,λj hj=>?_⟩
     rw [ht]
     cases j with
     | zero=>rfl
     | succ j=>
      rw [HT.cK,HT.cK]
      grind
   have he:∀ j,HT.get .e j=HT.get (.n .dead .e .e) j:=λj=>by
    cases j with
    | zero=>rfl
    | succ j=>rw [HT.cK,HT.ue,HT.ue];simp
   cases t with
   | e=>simp_all
   | n u l r=>simp_all
theorem U0 (f:Nat->ee):∀ N,∃ t:HT,∀ b,t.get b=if b<N then f b else .dead
 | 0=>⟨.e,λb=>by rfl⟩
 | N+1=>by
  obtain ⟨t,h⟩:=U0 f N
  obtain ⟨t',h1,h2⟩:=Xq (f N) N t
  refine ⟨t',λb=>?_⟩
  grind
theorem AR (f:Nat->ee) (N bC):∃ H:Heap,H.n=N/\H.bC=bC/\(∀ b,b<N->H.get b=f b)/\∀ b,N<=b->H.get b = .dead:=by
 obtain ⟨t,h⟩:=U0 f N
 exact ⟨.mk N bC t,rfl,rfl,λb hb=>(h b).trans (if_pos hb),λb hb=>(h b).trans (if_neg (by omega))⟩
theorem Ext.re {r0 rho rho':Nat->Option Nat} {H0 H H':Heap} {w00 w w':World} (h:Ext r0 H0 w00 rho H w) (hd0:∀ b c,r0 b=some c->b<H0.n) (hc0:∀ b c,r0 b=some c->c<w00.heap.size) (ho:∀ b,H0.n<=b->H0.get b = .dead)
 (hn:H0.n<=H'.n) (hw:H'.bC=H.bC) (hg:∀ b,b<H0.n->H'.get b=H.get b) (hr:∀ b,b<H0.n->rho' b=rho b) (hnew:∀ b c,H0.n<=b->rho' b=some c->rho b=some c\/w00.heap.size<=c)
 (hf:∀ c,c<w00.heap.size->w'.heap[c]? = w.heap[c]?) (hs:w00.heap.size<=w'.heap.size):Ext r0 H0 w00 rho' H' w' where
 n:=hn
 bC:=by rw [hw];exact h.bC
 size:=hs
 cD b hb hlo:=⟨(hg b hb).trans (h.cD b hb (by omega)).1,(hr b hb).trans (h.cD b hb (by omega)).2⟩
 old b c hb hx:=h.old b c hb (by rw [<- hr b hb];exact hx)
 live b c hx ha:=by
  have hb:=hd0 b c hx
  rw [hr b hb]
  exact h.live b c hx (by rw [<- hg b hb];exact ha)
 qe b hb ha:=h.qe b hb (by rw [<- hg b hb];exact ha)
 new b c hb hx:=by
  rcases hnew b c hb hx with h'|h'
  .rcases h.new b c hb h' with h1|⟨b0,h1,h2⟩
   .exact YG h1
   .exact YE ⟨b0,h1,by omega⟩
  .exact YG h'
 fr c hc hx:=(hf c hc).trans (h.fr c hc λb hb=>by have:=hx b hb;omega)
 marks b hb:=by
  have hlt:b<H0.n:=by
   rcases Yf b H0.n with h'|h'
   .exact h'
   .rw [ho b h']at hb;cases hb
  obtain ⟨h1,h2,h3⟩:=h.marks b hb
  exact ⟨(hg b hlt).trans h1,(hr b hlt).trans h2,λc hc=>(hf c (hc0 b c hc)).trans (h3 c hc)⟩
 rows c cs e fr hc:=by
  obtain ⟨cs',e',fr',h1,h2⟩:=h.rows c cs e fr hc
  exact ⟨cs',e',fr',(hf c (YK.1 hc).1).trans h1,h2⟩
 loops c r hc:=by
  obtain ⟨r',h1⟩:=h.loops c r hc
  exact ⟨r',(hf c (YK.1 hc).1).trans h1⟩
section
variable {P:Program} {nt:Nat} {ops:Array Oper} {iso pur:Nat->Bool} {E:Nat->Env} {Hh:Nat->Heap} {Vv:Nat->V} {B:Nat->Option Nat}
def iX (iso pur:Nat->Bool) (i:Nat):Prop:=iso i=true/\pur i=false
structure Io (n:Nat) (iso pur:Nat->Bool) (Hh:Nat->Heap):Prop where
 wn:∀ i,i<=n->(Hh i).bC<=(Hh i).n
 out:∀ i,i<=n->∀ b,(Hh i).n<=b->(Hh i).get b = .dead
 le:∀ i,i<n->(Hh i).n<=(Hh (i+1)).n/\(Hh (i+1)).bC<=(Hh i).bC
 pT:∀ i,i<n->¬ iX iso pur i->Part (Hh i) (Hh (i+1))/\(Hh (i+1)).bC=(Hh i).bC
theorem PN (hst:∀ j o,ops[j]? = some o->gq P nt ops (iso j) (pur j) (B j) o (E j) (Hh j) (Vv j) (E (j+1)) (Hh (j+1))) {base} {w0} {rho} {w} {a:Act} (hp:PR P base w0 rho (Hh 0) w) (ht:TR (mu rho (Hh 0) w) nt (E 0) a.tmps):
 ∀ i,i<=ops.size->(∃ (rho':Nat->Option Nat) (w':World) (a':Act),PR P base w0 rho' (Hh i) w'/\TR (mu rho' (Hh i) w') nt (E i) a'.tmps)/\∀ j,j<i->(Hh j).n<=(Hh (j+1)).n/\(Hh (j+1)).bC<=(Hh j).bC/\(¬ iX iso pur j->Part (Hh j) (Hh (j+1))/\(Hh (j+1)).bC=(Hh j).bC):=by
 intro i
 induction i with
 | zero=>grind
 | succ i ih=>
  intro hi
  obtain ⟨⟨rho1,w1,a1,p1,t1⟩,h1⟩:=ih (by omega)
  have hlt:i<ops.size:=by omega
  have ho:=YQ hlt
  obtain ⟨d,hd,he,hs⟩:=hst i _ ho
  have key:(∃ (rho':Nat->Option Nat) (w':World) (a':Act),PR P base w0 rho' (Hh (i+1)) w'/\TR (mu rho' (Hh (i+1)) w') nt (E (i+1)) a'.tmps)/\(Hh i).n<=(Hh (i+1)).n/\(Hh (i+1)).bC<=(Hh i).bC/\(¬ iX iso pur i->Part (Hh i) (Hh (i+1))/\(Hh (i+1)).bC=(Hh i).bC):=by
   have hself:Part (Hh i) (Hh i):=⟨YA _,λ_ _=>rfl,p1.out⟩
   rcases hs with ⟨_,hv,hH⟩|⟨_,_,hH,hop⟩|⟨_,hpu,his,hop⟩|⟨_,_,_,H1,H1',g1,g2,g3,hop,g4,g5,g6,g7⟩
   .rw [hH,he,hv]
    exact ⟨⟨rho1,w1,a1.put (ops[i]).dst undef,p1,qK t1 hd oW⟩,YA _,YA _,λ_=>⟨hself,rfl⟩⟩
   .obtain ⟨a2,w2,cv,rfl,rho2,v2,p2,x2⟩:=tM (hop (Hh i) (λ_ _=>rfl) none base w0 rho1 w1 a1 p1 (t1.or _))
    rw [hH,he]
    exact ⟨⟨rho2,w2,_,p2,qK (t1.mono x2.mu) hd v2⟩,YA _,YA _,λ_=>⟨hself,rfl⟩⟩
   .obtain ⟨a2,w2,cv,rfl,rho2,v2,p2,x2⟩:=tM (hop none base w0 rho1 w1 a1 p1 (t1.or _))
    rw [he]
    exact ⟨⟨rho2,w2,_,p2,qK (t1.mono x2.mu) hd v2⟩,x2.n,x2.bC,λhn=>absurd ⟨his,hpu⟩ hn⟩
   .have p1':=p1.Hp g1 g2 (by omega)
    have m1:(mu rho1 (Hh i) w1).le (mu rho1 H1 w1):=⟨λb c ⟨h1,h2⟩=>⟨by omega,λha=>h2 (by simp_all)⟩,λ_ _ h=>h⟩
    obtain ⟨a2,w2,cv,rfl,rho2,v2,p2,x2⟩:=tM (hop none base w0 rho1 w1 a1 p1' ((t1.mono m1).or _))
    have hn:(Hh i).n<=(Hh (i+1)).n:=by have:=x2.n;omega
    have p3:=p2.Hp g5 g6 (by have:=p1.wn;omega)
    have m3:(mu rho2 H1' w2).le (mu rho2 (Hh (i+1)) w2):=⟨λb c ⟨h1,h2⟩=>⟨by omega,λha=>h2 (by simp_all)⟩,λ_ _ h=>h⟩
    rw [he]
    refine ⟨⟨rho2,w2,_,p3,qK ((t1.mono m1).mono (M.le_trans x2.mu m3)) hd (VR.mono m3 _ _ v2)⟩,hn,by omega,λ_=>⟨⟨hn,λb hb=>?_,p1.out⟩,g7⟩⟩
    rw [g6,(x2.cD b (by omega) (by omega)).1,g2]
  grind
theorem RE {n} (h:Io n iso pur Hh):∀ T,T<=n->∀ k,k<=T->(∀ j,k<=j->j<T->¬ iX iso pur j)->Part (Hh k) (Hh T)/\(Hh T).bC=(Hh k).bC:=by
 intro T
 induction T with
 | zero=>
  intro hT k hk _
  have:k=0:=by omega
  subst this
  exact ⟨⟨YA _,λ_ _=>rfl,h.out 0 hT⟩,rfl⟩
 | succ T ih=>
  intro hT k hk hj
  by_cases hkT:k=T+1
  .subst hkT;exact ⟨⟨YA _,λ_ _=>rfl,h.out _ hT⟩,rfl⟩
  .obtain ⟨h1,h2⟩:=ih (by omega) k (by omega) λj h1 h2=>hj j h1 (by omega)
   obtain ⟨h3,h4⟩:=h.pT T (by omega) (hj T (by omega) (by omega))
   exact ⟨h1.trans h3,h4.trans h2⟩
theorem db {n} (h:Io n iso pur Hh):∀ T,T<=n->∀ k,k<=T->(Hh k).n<=(Hh T).n/\(Hh T).bC<=(Hh k).bC:=by
 intro T
 induction T with
 | zero=>
  simp
 | succ T ih=>
  intro hT k hk
  by_cases hkT:k=T+1
  .simp_all
  .obtain ⟨h1,h2⟩:=ih (by omega) k (by omega)
   obtain ⟨h3,h4⟩:=h.le T (by omega)
   omega
theorem zf (iso pur) (n):∀ m T,n-T=m->T<=n->∃ T',T<=T'/\T'<=n/\(T'<n->iX iso pur T')/\∀ j,T<=j->j<T'->¬ iX iso pur j:=by
 intro m
 induction m with
 | zero=>intro T h1 h2;exact ⟨T,YA _,h2,λh=>by omega,λj h3 h4=>by omega⟩
 | succ m ih=>
  intro T h1 h2
  by_cases hh:iX iso pur T
  .grind
  grind
def IL (ops:Array Oper) (k:Nat):Option Slot:=(ops[k]?.bind (·.dst)).map aX
structure Mid (P:Program) (nt:Nat) (ops:Array Oper) (iso pur al:Nat->Bool) (E:Nat->Env) (Hh:Nat->Heap) (Vv:Nat->V) (base:Nat) (w0:World) (rho0:Nat->Option Nat) (w00:World) (ds:List Deferred) (listed:Array Bool) (a:Act) (w:World) (T:Nat) (rho:Nat->Option Nat) (Hx:Heap):Prop where
 size:listed.size=ops.size
 closed:sD ops listed
 le:T<=ops.size
 N7:T<ops.size->iX iso pur T
 not:¬ dM listed T
 JB:∀ i,i<T->iX iso pur i->dM listed i
 xn:Hx.n=(Hh ops.size).n
 xw:Hx.bC=(Hh T).bC
 Vm:∀ b,b<(Hh T).n->Hx.get b=(Hh T).get b
 xhi:∀ b,(Hh T).n<=b->b<Hx.n->(Hx.get b).alive
 pr:PR P base w0 rho Hx w
 ext:Ext rho0 (Hh 0) w00 rho Hx w
 tr:TR (mu rho Hx w) nt (jf (IL ops) Vv (E 0) (λk=>listed.getD k false) ops.size) a.tmps
 defers:a.defers=ds
 bound:∀ b c,rho b=some c->∀ k,k<T->¬ dM listed k->¬ ((Hh k).n<=b/\b<(Hh (k+1)).n)
 kn:∀ b c,rho b=some c->∀ k,k<=T->(∀ j,k<=j->j<T->¬ iX iso pur j)->b<(Hh k).n->Kn P (Hh k) b
 He:∀ b c,rho b=some c->(Hh T).n<=b->w00.heap.size<=c/\∃ i,T<=i/\i<ops.size/\dM listed i/\al i=true/\b=(Hh i).n/\∃ (bl:ee) (ob:Obj),nI (Hh i) bl (Hh (i+1))/\bl.alive/\(∀ m,BR P m bl ob)/\Hx.get b=bl
section walk
variable {al:Nat->Bool} {base:Nat} {w0:World} {rho0:Nat->Option Nat} {w00:World} {ds:List Deferred} {rd:Option Nat} {Q:Exit->Act->World->Prop}
 (hst:∀ j o,ops[j]? = some o->gq P nt ops (iso j) (pur j) (B j) o (E j) (Hh j) (Vv j) (E (j+1)) (Hh (j+1)))
 (hE:BX ops) (hap:jm ops (Region.before ops)=true)
 (hiso:∀ i j,iX iso pur i->i≠j->pur j=false->j<ops.size->((Region.before ops).getD i 0).testBit j=true\/((Region.before ops).getD j 0).testBit i=true\/al j=true)
 (hhal:∀ i,iX iso pur i->al i=false)
 (hal:∀ i o,ops[i]? = some o->al i=true->(GW nt (E i) ops o false/\Vv i = .cE []/\Hh (i+1)=Hh i)\/(qj P nt (E i) o (Hh i) (Vv i) (Hh (i+1))/\∀ k,k<ops.size->iX iso pur k->i<k->jh (Region.before ops) i k=false->(Hh i).n<(Hh k).n->(Hh (k+1)).get (Hh i).n=(Hh k).get (Hh i).n))
 (hhp:Io ops.size iso pur Hh) (hnt:nt<=512) (hd0:∀ b c,rho0 b=some c->b<(Hh 0).n) (hc0:∀ b c,rho0 b=some c->c<w00.heap.size)
 (hB:∀ i b,i<ops.size->B i=some b->b<(Hh 0).n)
 (hkp:∀ i k b,i<ops.size->k<ops.size->B i=some b->iX iso pur k->jh (Region.before ops) i k=false->b<(Hh k).n->(Hh (k+1)).get b=(Hh k).get b)
 (hke:∀ i,i<ops.size->∀ t,t<nt->∃ m c,VR m (aa (aX t) (E i)) c/\∀ b c',m.b b c'->b<(Hh i).n)
 (hQ:∀ a' w' rho',a'.defers=ds->PR P base w0 rho' (Hh ops.size) w'->TR (mu rho' (Hh ops.size) w') nt (E ops.size) a'.tmps->Ext rho0 (Hh 0) w00 rho' (Hh ops.size) w'->Q .normal a' w')
include hst in
theorem NI:∀ k,k<ops.size->E (k+1)=dK (IL ops k) (Vv k) (E k):=λk hk=>by
 have ho:=YQ hk
 obtain ⟨d,hd,he,_⟩:=hst k _ ho
 rw [he,(nV hd).1]
 simp [IL,ho]
include hst hnt in
theorem Sm {k t} (hk:k<ops.size) (ht:t<nt) (h:IL ops k=some (aX t)):∃ o,ops[k]? = some o/\o.dst=some t:=by
 have ho:=YQ hk
 obtain ⟨d,hd,he,_⟩:=hst k _ ho
 obtain ⟨h1,h2⟩:=nV hd
 refine ⟨_,ho,?_⟩
 unfold IL at h
 rw [ho,YC1,YY]at h
 obtain ⟨t',h3,h4⟩:=h
 have:=h2 t' h3
 rw [h3,ft (YC this hnt) (YC ht hnt) h4]
include hst hE hap hnt in
theorem view {listed} {i} {o} (hC:sD ops listed) (ho:ops[i]? = some o) (hi:¬ dM listed i) (hr:∀ e ∈ o.after.toList,Region.binds .any e=true->dM listed e.on) {t:Nat} (ht:t ∈ vD ops o) (hlt:t<nt):
 aa (aX t) (jf (IL ops) Vv (E 0) (λk=>listed.getD k false) ops.size)=aa (aX t) (E i):=by
 have hin:=(YK.1 ho).1
 refine IU (Nat.le_of_lt hin) (NI hst) λk hk hd=>?_
 obtain ⟨ok,hok,hdk⟩:=Sm hst hnt hk hlt hd
 by_cases hki:k=i
 .subst hki
  exact ⟨λh=>absurd h hi,λh=>by omega⟩
 .have h1:=B6 hap hok ho hki hdk ht
  split at h1
  .rename_i h2
   exact ⟨λ_=>h2,λ_=>eh hE hC i k (YE λo' ho'=>by simp_all) h1⟩
  .rename_i h2
   exact ⟨λhs=>absurd (eh hE hC k i (YG hs) h1) hi,λh=>absurd h h2⟩
include hst hE hap hnt in
theorem PO {listed} {i} {o} (hsz:listed.size=ops.size) (hC:sD ops listed) (ho:ops[i]? = some o) (hi:¬ dM listed i) {m} {a:Act} {cv} (ht:TR m nt (jf (IL ops) Vv (E 0) (λk=>listed.getD k false) ops.size) a.tmps) (hv:VR m (Vv i) cv):
 TR m nt (jf (IL ops) Vv (E 0) (λk=>(listed.setIfInBounds i true).getD k false) ops.size) (a.put o.dst cv).tmps:=by
 have hin:=(YK.1 ho).1
 obtain ⟨d,hd,_⟩:=hst i _ ho
 have hdo:IL ops i=d:=by rw [(nV hd).1];simp [IL,ho]
 refine (qK ht hd hv).congr λs=>?_
 rw [<- hdo]
 refine NP hin (by simpa [dM] using hi) (λk=>da (by omega)) (λk hk hik hs s' h1 h2=>?_) s
 unfold IL at h1 h2
 have hok:=YQ hk
 rw [hok,YC1,YY]at h1
 rw [ho,YC1,YY]at h2
 obtain ⟨tk,h3,h4⟩:=h1
 obtain ⟨ti,h5,h6⟩:=h2
 obtain ⟨dk,hdk,_⟩:=hst k _ hok
 have hti:=(nV hd).2 ti h5
 have htk:=(nV hdk).2 tk h3
 have:=ft (YC hti hnt) (YC htk hnt) (h6.trans h4.symm)
 have h7:=B6 hap ho hok (by omega) h5 (show ti ∈ vD ops ops[k] from QH _ (by simp_all))
 rw [if_pos hik]at h7
 exact hi (eh hE hC k i (YG hs) h7)
theorem FE {listed} {i} {o} (hi:i<listed.size) (hC:sD ops listed) (ho:ops[i]? = some o) (hr:∀ e ∈ o.after.toList,Region.binds .any e=true->dM listed e.on):sD ops (listed.setIfInBounds i true):=λj hj o' ho' e he hb=>by
 rw [da hi]at hj ⊢
 rcases hj with rfl|hj
 .simp_all
 .exact YE (hC j hj o' ho' e he hb)
theorem count_set {l:List Bool} {i} (hi:l[i]? = some false):(l.set i true).count false+1=l.count false:=by
 grind
include hst hE hap hiso hhal hal hhp hnt hd0 hc0 hke hB hkp hQ in
theorem walk (h0out:∀ b,(Hh 0).n<=b->(Hh 0).get b = .dead):∀ (fuel:Nat) (listed:Array Bool) (a:Act) (w:World) (T:Nat) (rho:Nat->Option Nat) (Hx:Heap),Mid P nt ops iso pur al E Hh Vv base w0 rho0 w00 ds listed a w T rho Hx->listed.toList.count false=fuel->wpAnyIn (WF rd) 0 P .any ops Q fuel listed a w:=by
 have hN:∀ T,T<=ops.size->(Hh T).n<=(Hh ops.size).n:=λT hT=>(db hhp ops.size (YA _) T hT).1
 have h0N:∀ T,T<=ops.size->(Hh 0).n<=(Hh T).n:=λT hT=>(db hhp T hT 0 (Yk _)).1
 have fin:∀ (listed:Array Bool) (a:Act) (w:World) (T:Nat) (rho:Nat->Option Nat) (Hx:Heap),Mid P nt ops iso pur al E Hh Vv base w0 rho0 w00 ds listed a w T rho Hx->(∀ i,i<ops.size->dM listed i)->Q .normal a w:=λlisted a w T rho Hx hM hall=>by
  have hT:T=ops.size:=by
   rcases Yf T ops.size with h|h
   .exact absurd (hall T h) hM.not
   .have:=hM.le;omega
  subst hT
  have hg:∀ b,(Hh ops.size).get b=Hx.get b:=λb=>by
   rcases Yf b (Hh ops.size).n with h|h
   .exact (hM.Vm b h).symm
   .rw [hhp.out _ (YA _) b h,hM.pr.out b (by rw [hM.xn];exact h)]
  have hm:(mu rho Hx w).le (mu rho (Hh ops.size) w):=⟨λb c hx=>⟨by rw [<- hM.xn];exact hx.1,by rw [hg];exact hx.2⟩,λ_ _ h=>h⟩
  refine hQ a w rho hM.defers (hM.pr.Hp hM.xn.symm hg (hhp.wn _ (YA _))) ((hM.tr.mono hm).congr λs=>?_) (hM.ext.re hd0 hc0 h0out (h0N _ (YA _)) hM.xw.symm (λb _=>hg b) (λ_ _=>rfl) (λb c _ h=>YG h) (λ_ _=>rfl) hM.ext.size)
  exact (IU (YA _) (NI hst) λk hk _=>⟨λ_=>hk,λ_=>hall k hk⟩).symm
 have hready:∀ (listed:Array Bool),Region.ready .any ops listed=[]->listed.size=ops.size->∀ i,i<ops.size->dM listed i:=λlisted hr hsz i=>by
  induction i using Qy with
  | _ i ih=>
   intro hi
   by_cases hb:dM listed i
   .exact hb
   .have ho:ops[i]? = some ops[i]:=YQ hi
    have hmem:i ∈ Region.ready .any ops listed:=mem_ready.2 ⟨by
     have hex:listed[i]? = some listed[i]:=YQ (by omega)
     unfold dM at hb
     rw [Yj,hex]at hb ⊢
     simpa using hb,_,ho,λe he hbd=>ih e.on (hE i _ ho e (by simpa using he) hbd) (by have:=hE i _ ho e (by simpa using he) hbd;omega)⟩
    rw [hr]at hmem
    cases hmem
 intro fuel
 induction fuel with
 | zero=>
  intro listed a w T rho Hx hM hc
  have hall:∀ i,i<ops.size->dM listed i:=λi hi=>by
   have hlt:i<listed.size:=by rw [hM.size];exact hi
   have hex:listed[i]? = some listed[i]:=YQ hlt
   unfold dM
   rw [Yj,hex,Yn]
   cases hv:listed[i] with
   | true=>rfl
   | false=>
    have:false ∈ listed.toList:=by rw [<- hv];simp
    rw [List.count_eq_zero]at hc
    exact absurd this hc
  refine ⟨?_,fin listed a w T rho Hx hM hall⟩
  refine List.eq_nil_iff_forall_not_mem.2 λi hi=>?_
  obtain ⟨h1,o,ho,_⟩:=mem_ready.1 hi
  have hb:=hall i (YK.1 ho).1
  have hlt:i<listed.size:=by rw [hM.size];exact (YK.1 ho).1
  have hex:listed[i]? = some listed[i]:=YQ hlt
  unfold dM at hb
  rw [Yj,hex,Yn]at hb h1
  rw [hb]at h1
  cases h1
 | succ fuel ih=>
  intro listed a w T rho Hx hM hc
  refine ⟨λhr=>fin listed a w T rho Hx hM (hready listed hr hM.size),λi hi=>?_⟩
  obtain ⟨h1,o,ho,hr0⟩:=mem_ready.1 hi
  have hin:i<ops.size:=(YK.1 ho).1
  have hil:i<listed.size:=by rw [hM.size];exact hin
  have hex:listed[i]? = some listed[i]:=YQ hil
  have hv:listed[i]=false:=by rw [Yj,hex,Yn]at h1;exact h1
  have hnb:¬ dM listed i:=by unfold dM;rw [Yj,hex,Yn,hv];simp
  have hr:∀ e ∈ o.after.toList,Region.binds .any e=true->dM listed e.on:=λe he hb=>hr0 e (by simpa using he) hb
  have hc':(listed.setIfInBounds i true).toList.count false=fuel:=by
   have:=count_set (l:=listed.toList) (i:=i) (by simpa [hv] using hex)
   rw [Array.toList_setIfInBounds]
   omega
  have hsz':(listed.setIfInBounds i true).size=ops.size:=by simpa using hM.size
  have hC':=FE hil hM.closed ho hr
  have hview:∀ t,t ∈ o.looksAt ops->t<nt->aa (aX t) (jf (IL ops) Vv (E 0) (λk=>listed.getD k false) ops.size)=aa (aX t) (E i):=λt ht hlt=>view hst hE hap hnt hM.closed ho hnb hr (List.mem_append_right _ ht) hlt
  have hgt:GT nt (mu rho Hx w) (E i) ops o a.tmps:=aaQ hM.tr hview
  have hor:OR (mu rho Hx w) nt (E i) a o:=abH hM.tr hview
  have hput:∀ {m:M} {cv:Value},TR m nt (jf (IL ops) Vv (E 0) (λk=>listed.getD k false) ops.size) a.tmps->VR m (Vv i) cv->TR m nt (jf (IL ops) Vv (E 0) (λk=>(listed.setIfInBounds i true).getD k false) ops.size) (a.put o.dst cv).tmps:=λht hv=>PO hst hE hap hnt hM.size hM.closed ho hnb ht hv
  have hbi:∀ k,((Region.before ops).getD i 0).testBit k=true->dM listed k:=λk hk=>eh hE hM.closed i k (YE λo' ho'=>by rw [ho]at ho';cases ho';exact hr) hk
  have hTn:∀ j,j≠T->pur j=false->j<ops.size->T<ops.size->¬ dM listed j->(∀ k,((Region.before ops).getD j 0).testBit k=true->dM listed k)->j<T\/(al j=true/\T<j):=λj h2 h3 h4 h5 h6 h7=>by
   rcases hiso T j (hM.N7 h5) (Ne.symm h2) h3 h4 with h8|h8|h8
   .exact YG (fY hE T j h8)
   .exact absurd (h7 T h8) hM.not
   .rcases Yf j T with hjT|hjT
    .exact YG hjT
    .exact YE ⟨h8,by omega⟩
  have hpx:Part (Hh T) Hx:=⟨by rw [hM.xn];exact hN T hM.le,hM.Vm,hhp.out T hM.le⟩
  have low:∀ (H1:Heap),Part H1 Hx->(Hh i).n<=H1.n->OR (mu (cutAt H1.n rho) H1 w) nt (E i) a o:=λH1 hp1 hn1 x hx ar har=>by
   have v2:=hor x hx ar har
   have hkn:∃ m c,VR m (aA ar (E i)) c/\∀ b c',m.b b c'->b<H1.n:=by
    unfold aK at har
    split at har
    .split at har
     .rename_i t ht
      cases har
      obtain ⟨m,c,q1,q2⟩:=hke i hin t ht
      exact ⟨m,c,q1,λb c' hm=>YC (q2 b c' hm) hn1⟩
     .cases har
    .simp only [YY]at har
     obtain ⟨u,hu,rfl⟩:=har
     exact ⟨⟨λ_ _=>False,λ_ _=>False⟩,_,sU hu,λ_ _ h=>h.elim⟩
    .cases har
     exact ⟨⟨λ_ _=>False,λ_ _=>False⟩,_,by simp only [aA,VR];exact ⟨#[],rfl,by simp only [cj]⟩,λ_ _ h=>h.elim⟩
    .cases har
   obtain ⟨m,c,q1,q2⟩:=hkn
   exact VR.mono (DH q2 hp1) _ _ (VR.meet _ _ _ q1 v2)
  obtain ⟨d,hd,he,hs⟩:=hst i o ho
  unfold wpOpIn
  simp only [ho]
  by_cases hh:iX iso pur i
  .have hiT:i=T:=by
    by_cases hiT:i=T
    .exact hiT
    .exfalso
     have hlt:i<T:=by
      rcases Yf T ops.size with h|h
      .rcases hTn i hiT hh.2 hin h hnb hbi with h'|h'
       .exact h'
       .have h'':=h'.1;rw [hhal i hh]at h'';cases h''
      .omega
     exact hnb (hM.JB i hlt hh)
   subst hiT
   have prT:PR P base w0 (cutAt (Hh i).n rho) (Hh i) w:=hM.pr.part hpx (hhp.wn i hM.le) λb c hr hb=>hM.kn b c hr i (YA _) (λj h1 h2=>by omega) hb
   have orT:=low (Hh i) hpx (YA _)
   have adv:∀ (rho':Nat->Option Nat) (w':World) (cv:Value),PR P base w0 rho' (Hh (i+1)) w'->Ext (cutAt (Hh i).n rho) (Hh i) w rho' (Hh (i+1)) w'->VR (mu rho' (Hh (i+1)) w') (Vv i) cv->wpAnyIn (WF rd) 0 P .any ops Q fuel (listed.setIfInBounds i true) (a.put o.dst cv) w':=λrho' w' cv p1 x1 v1=>by
    obtain ⟨T',t1,t2,t3,t4⟩:=zf iso pur ops.size _ (i+1) rfl hin
    obtain ⟨b1,b2⟩:=RE hhp T' t2 (i+1) t1 t4
    have hiN:=(db hhp (i+1) (by omega) i (by omega)).1
    obtain ⟨Hy,y1,y2,y3,y4⟩:=AR (λb=>if b<(Hh T').n then (Hh T').get b else Hx.get b) (Hh ops.size).n (Hh T').bC
    have wait:∀ b c,rho b=some c->(Hh i).n<=b->(Hh (i+1)).n<=b/\w00.heap.size<=c/\∃ i0,i+1<=i0/\i0<ops.size/\dM listed i0/\al i0=true/\b=(Hh i0).n/\∃ (bl:ee) (ob:Obj),nI (Hh i0) bl (Hh (i0+1))/\bl.alive/\(∀ m,BR P m bl ob)/\Hx.get b=bl:=λb c hr hb=>by
     obtain ⟨g0,i0,g1,g2,g3,g4,g5,g6⟩:=hM.He b c hr hb
     have hne:i0≠i:=λh=>by subst h;rw [hhal _ hh]at g4;cases g4
     have hle:i+1<=i0:=by omega
     exact ⟨by rw [g5];exact (db hhp i0 (by omega) (i+1) hle).1,g0,i0,hle,g2,g3,g4,g5,g6⟩
    have pnd:∀ b c,rho b=some c->(Hh i).n<=b->Hy.get b=Hx.get b/\b<(Hh ops.size).n/\w'.heap[c]? = w.heap[c]?/\∀ b0,rho' b0≠some c:=λb c hr hb=>by
     obtain ⟨_,_,i0,g1,g2,_,_,g5,bl,ob,g6,_,_,g7⟩:=wait b c hr hb
     have hbN:b<(Hh ops.size).n:=by
      have:=hN (i0+1) (by omega)
      have:=g6.n
      omega
     have hcs:=(hM.pr.jl b c hr).2.2.1
     refine ⟨?_,hbN,x1.fr c hcs λb0 hb0=>?_,λb0 hb0=>?_⟩
     .rw [y3 b hbN]
      split
      .rename_i hlt
       have h2:i0+1<=T':=by
        rcases Yf i0 T' with h|h
        .exact h
        .have:=(db hhp i0 (by omega) T' h).1;omega
       obtain ⟨q1,_⟩:=RE hhp T' t2 (i0+1) h2 λj h3 h4=>t4 j (by omega) h4
       rw [q1.get b (by have:=g6.n;omega),g7,g5,g6.get]
      .rfl
     .obtain ⟨h3,h4⟩:=dL hb0
      have:=hM.pr.inj b0 b c h4 hr
      omega
     .rcases Yf b0 (Hh i).n with h|h
      .have h3:=(dL (x1.old b0 c h hb0)).2
       have:=hM.pr.inj b0 b c h3 hr
       omega
      .rcases x1.new b0 c h hb0 with h3|⟨b2,h3,_⟩
       .omega
       .obtain ⟨h4,h5⟩:=dL h3
        have:=hM.pr.inj b2 b c h5 hr
        omega
    have hTN:=hN T' t2
    have hyget:∀ b,b<(Hh (i+1)).n->Hy.get b=(Hh (i+1)).get b:=λb hb=>by
     have:=b1.n
     rw [y3 b (by omega),if_pos (by omega),b1.get b hb]
    generalize hrho2:(λb=>if b<(Hh (i+1)).n then rho' b else rho b)=rho2
    have r2lo:∀ b,b<(Hh (i+1)).n->rho2 b=rho' b:=λb hb=>by rw [<- hrho2];exact if_pos hb
    have r2hi:∀ b,(Hh (i+1)).n<=b->rho2 b=rho b:=λb hb=>by rw [<- hrho2];exact if_neg (by omega)
    have m1:(mu rho' (Hh (i+1)) w').le (mu rho2 Hy w'):=⟨λb c ⟨g1,g2⟩=>⟨by rw [y1];have:=b1.n;omega,λha=>by rw [r2lo b g1];exact g2 (by rw [<- hyget b g1];exact ha)⟩,λ_ _ h=>h⟩
    have mX:(mu rho Hx w).le (mu rho2 Hy w'):=by
     refine ⟨λb c ⟨g1,g2⟩=>?_,x1.mu.2⟩
     rcases Yf b (Hh i).n with h|h
     .exact m1.1 b c (x1.mu.1 b c ⟨h,λha=>by rw [rA h];exact g2 (by rw [hM.Vm b h];exact ha)⟩)
     .have hr:=g2 (hM.xhi b h g1)
      exact ⟨by rw [y1,<- hM.xn];exact g1,λ_=>by rw [r2hi b (wait b c hr h).1];exact hr⟩
    have cross:∀ b b' c,rho' b=some c->rho b'=some c->(Hh (i+1)).n<=b'->False:=λb b' c h1 h2 h3=>(pnd b' c h2 (by omega)).2.2.2 b h1
    have p2:PR P base w0 rho2 Hy w':=by
     refine ⟨p1.below,p1.cN,by rw [y1,y2];have:=hhp.wn T' t2;omega,λb c hrb=>?_,λb b' c h1 h2=>?_,λb c hrb=>?_,λb hb=>y4 b (by rw [<- y1];exact hb),p1.gl.1,p1.gl.2.1,λb c hrb=>by
      rcases Yf b (Hh (i+1)).n with h|h
      .rw [r2lo b h]at hrb;exact p1.gl.2.2 b c hrb
      .rw [r2hi b h]at hrb;exact hM.pr.gl.2.2 b c hrb⟩
     .rcases Yf b (Hh (i+1)).n with h|h
      .rw [r2lo b h]at hrb
       obtain ⟨g1,g2,g3,g4⟩:=p1.jl b c hrb
       exact ⟨by rw [y1];have:=b1.n;omega,g2,g3,by rw [hyget b h];exact g4⟩
      .rw [r2hi b h]at hrb
       obtain ⟨g1,g2,g3,g4⟩:=hM.pr.jl b c hrb
       exact ⟨by rw [y1,<- hM.xn];exact g1,g2,YC g3 x1.size,by rw [(pnd b c hrb (by omega)).1];exact g4⟩
     .rcases Yf b (Hh (i+1)).n with h|h<;>rcases Yf b' (Hh (i+1)).n with h'|h'
      .rw [r2lo b h]at h1;rw [r2lo b' h']at h2;exact p1.inj b b' c h1 h2
      .rw [r2lo b h]at h1;rw [r2hi b' h']at h2;exact (cross b b' c h1 h2 h').elim
      .rw [r2hi b h]at h1;rw [r2lo b' h']at h2;exact (cross b' b c h2 h1 h).elim
      .rw [r2hi b h]at h1;rw [r2hi b' h']at h2;exact hM.pr.inj b b' c h1 h2
     .rcases Yf b (Hh (i+1)).n with h|h
      .rw [r2lo b h]at hrb
       obtain ⟨ob,g1,g2⟩:=p1.cQ b c hrb
       exact ⟨ob,g1,by rw [hyget b h];exact g2.mono m1⟩
      .rw [r2hi b h]at hrb
       obtain ⟨ob,g1,g2⟩:=hM.pr.cQ b c hrb
       obtain ⟨q1,_,q2,_⟩:=pnd b c hrb (by omega)
       exact ⟨ob,by rw [q2];exact g1,by rw [q1];exact g2.mono mX⟩
    have e1:Ext rho0 (Hh 0) w00 (cutAt (Hh i).n rho) (Hh i) w:=hM.ext.re hd0 hc0 h0out (h0N i hM.le) hM.xw.symm (λb hb=>(hM.Vm b (by have:=h0N i hM.le;omega)).symm) (λb hb=>rA (by have:=h0N i hM.le;omega)) (λb c _ h=>YG (dL h).2) (λ_ _=>rfl) hM.ext.size
    have e2:=Ext.trans hd0 e1 x1
    have h01:=h0N (i+1) (by omega)
    have x3:Ext rho0 (Hh 0) w00 rho2 Hy w':=e2.re hd0 hc0 h0out (by rw [y1];exact h0N _ (YA _)) (by rw [y2,b2]) (λb hb=>hyget b (by omega)) (λb hb=>r2lo b (by omega)) (λb c hb hr=>by
     rcases Yf b (Hh (i+1)).n with h|h
     .exact YG (by rw [<- r2lo b h];exact hr)
     .rw [r2hi b h]at hr
      exact YE (wait b c hr (by omega)).2.1) (λ_ _=>rfl) e2.size
    refine ih _ _ _ T' rho2 Hy ⟨hsz',hC',t2,t3,λhb=>?_,λj hj hjh=>?_,y1,y2,λb hb=>by rw [y3 b (by omega),if_pos hb],λb hb hb'=>?_,p2,x3,hput (hM.tr.mono mX) (VR.mono m1 _ _ v1),(put_defers _ _ _).trans hM.defers,λb c hrb k hk hnk=>?_,λb c hrb k hk hkj hbk=>?_,λb c hrb hb=>?_⟩ hc'
    .rw [da hil]at hb
     rcases hb with hb|hb
     .omega
     .rcases Yf T' ops.size with h|h
      .have hp:=t3 h
       rcases hiso T' i hp (by omega) hh.2 hin with h8|h8|h8
       .exact hnb (eh hE hM.closed T' i (YG hb) h8)
       .have:=fY hE i T' h8;omega
       .rw [hhal i hh]at h8;cases h8
      .unfold dM at hb
       rw [Yj,Array.getElem?_eq_none (by rw [hM.size];exact h)]at hb
       simp at hb
    .rw [da hil]
     by_cases hji:j=i
     .exact YG hji
     .rcases Yf j i with h|h
      .exact YE (hM.JB j h hjh)
      .exact absurd hjh (t4 j (by omega) hj)
    .rw [y1]at hb'
     rw [y3 b hb',if_neg (by omega)]
     exact hM.xhi b (by have:=b1.n;omega) (by rw [hM.xn];exact hb')
    .rw [da hil]at hnk
     have hki:k≠i:=λh=>hnk (YG h)
     rintro ⟨g1,g2⟩
     rcases Yf b (Hh (i+1)).n with hb|hb
     .rw [r2lo b hb]at hrb
      rcases Yf k i with h|h
      .have hn1:=(db hhp i hM.le (k+1) (by omega)).1
       exact hM.bound b c (dL (x1.old b c (by omega) hrb)).2 k h (λh=>hnk (YE h)) ⟨g1,g2⟩
      .have hn1:=(db hhp k (by omega) (i+1) (by omega)).1
       omega
     .rw [r2hi b hb]at hrb
      obtain ⟨_,_,i0,q1,q2,q3,_,q5,bl,ob,q6,_⟩:=wait b c hrb (by omega)
      have hk0:k≠i0:=λh=>hnk (YE (h ▸ q3))
      have:=q6.n
      rcases Yf k i0 with h|h
      .have:=(db hhp i0 (by omega) (k+1) (by omega)).1;omega
      .have:=(db hhp k (by omega) (i0+1) (by omega)).1;omega
    .rcases Yf b (Hh (i+1)).n with hb|hb
     .rw [r2lo b hb]at hrb
      rcases Yf i k with h|h
      .exact (p1.kn hrb).part (RE hhp k (by omega) (i+1) h λj h1 h2=>t4 j h1 (by omega)).1 hb
      .exact absurd hh (hkj i h (by omega))
     .rw [r2hi b hb]at hrb
      obtain ⟨_,_,i0,q1,q2,_,_,q5,bl,ob,q6,_,q7,_⟩:=wait b c hrb (by omega)
      have hk1:i0+1<=k:=by
       rcases Yf i0 k with h|h
       .exact h
       .have:=(db hhp i0 (by omega) k h).1;omega
      obtain ⟨q8,_⟩:=RE hhp k (by omega) (i0+1) hk1 λj h3 h4=>t4 j (by omega) (by omega)
      exact ⟨⟨λ_ _=>False,λ_ _=>False⟩,ob,by rw [q8.get b (by have:=q6.n;omega),q5,q6.get];exact q7 _,λ_ _ h=>h.elim⟩
    .have hb1:(Hh (i+1)).n<=b:=by have:=b1.n;omega
     rw [r2hi b hb1]at hrb
     obtain ⟨_,q0,i0,q1,q2,q3,q4,q5,bl,ob,q6,q7,q8,q9⟩:=wait b c hrb (by omega)
     refine ⟨q0,i0,?_,q2,(da hil).2 (YE q3),q4,q5,bl,ob,q6,q7,q8,by rw [(pnd b c hrb (by omega)).1];exact q9⟩
     rcases Yf i0 T' with h|h
     .have:=(db hhp T' t2 (i0+1) h).1
      have:=q6.n
      omega
     .exact h
   rcases hs with ⟨hw,hv,hH⟩|⟨_,hpu,_⟩|⟨hw,hpu,his,hop⟩|⟨_,_,his,_⟩
   .simp only [hw _ _ hgt,YU,if_false]
    refine ⟨λ_ _=>trivial,adv (cutAt (Hh i).n rho) w undef (by rw [hH];exact prT) (by rw [hH];exact Ext.refl prT.lt) (by rw [hv];exact oW)⟩
   .rw [hh.2]at hpu;cases hpu
   .simp only [hw _ _ hgt,if_true]
    refine jI (hop rd base w0 _ w a prT orT) λa1 w1 hk=>?_
    obtain ⟨cv,rfl,rho1,v1,p1,x1⟩:=hk
    exact adv rho1 w1 cv p1 x1 v1
   .rw [hh.1]at his;cases his
  .have hiT:i≠T:=λh=>by subst h;exact hh (hM.N7 hin)
   have hnot':¬ dM (listed.setIfInBounds i true) T:=λh=>by
    rw [da hil]at h
    exact h.elim (λh=>hiT h.symm) hM.not
   have hbeen':∀ j,j<T->iX iso pur j->dM (listed.setIfInBounds i true) j:=λj hj hjh=>by rw [da hil];exact YE (hM.JB j hj hjh)
   have adv:∀ (rho':Nat->Option Nat) (w':World) (cv:Value),PR P base w0 rho' Hx w'->Ext rho0 (Hh 0) w00 rho' Hx w'->(mu rho Hx w).le (mu rho' Hx w')->VR (mu rho' Hx w') (Vv i) cv->(∀ b c,rho' b=some c->rho b=some c\/(i<T/\(∀ j,i<=j->j<T->¬ iX iso pur j)/\(Hh i).n<=b/\b<(Hh (i+1)).n/\Kn P (Hh (i+1)) b))->wpAnyIn (WF rd) 0 P .any ops Q fuel (listed.setIfInBounds i true) (a.put o.dst cv) w':=λrho' w' cv p1 x1 m1 v1 hb=>by
    refine ih _ _ _ T rho' Hx ⟨hsz',hC',hM.le,hM.N7,hnot',hbeen',hM.xn,hM.xw,hM.Vm,hM.xhi,p1,x1,hput (hM.tr.mono m1) v1,(put_defers _ _ _).trans hM.defers,λb c hrb k hk hnk=>?_,λb c hrb k hk hkj hbk=>?_,λb c hrb hbT=>?_⟩ hc'
    .rw [da hil]at hnk
     rcases hb b c hrb with h|⟨h1,_,h2,h3,_⟩
     .exact hM.bound b c h k hk λh=>hnk (YE h)
     .rintro ⟨g1,g2⟩
      have hki:k≠i:=λh=>hnk (YG h)
      have hTs:=hM.le
      rcases Yf k i with h|h
      .have:=(db hhp i (by omega) (k+1) (by omega)).1;omega
      .have:=(db hhp k (by omega) (i+1) (by omega)).1;omega
    .rcases hb b c hrb with h|⟨h1,h0,h2,h3,h4⟩
     .exact hM.kn b c h k hk hkj hbk
     .have hTs:=hM.le
      have hik:i+1<=k:=by
       rcases Yf i k with h|h
       .exact h
       .have:=(db hhp i (by omega) k h).1;omega
      exact h4.part (RE hhp k (by omega) (i+1) hik λj g1 g2=>h0 j (by omega) (by omega)).1 h3
    .rcases hb b c hrb with h|⟨h1,_,_,h3,_⟩
     .obtain ⟨q0,i0,q1,q2,q3,q4⟩:=hM.He b c h hbT
      exact ⟨q0,i0,q1,q2,(da hil).2 (YE q3),q4⟩
     .have hTs:=hM.le
      have:=(db hhp T hTs (i+1) h1).1
      omega
   rcases hs with ⟨hw,hv,hH⟩|⟨hw,hpu,hH,hop⟩|⟨hw,hpu,his,hop⟩|⟨hw,hpu,his,H1,H1',g1,g2,g3,hop,g4,g5,g6,g7⟩
   .simp only [hw _ _ hgt,YU,if_false]
    exact ⟨λ_ _=>trivial,adv rho w undef hM.pr hM.ext ⟨λ_ _ h=>h,λ_ _ h=>h⟩ (by rw [hv];exact oW) λb c h=>YG h⟩
   .simp only [hw _ _ hgt,if_true]
    have hget:∀ b,B i=some b->∀ hi lo,lo<=hi->hi<=ops.size->(∀ k,lo<=k->k<hi->iX iso pur k->jh (Region.before ops) i k=false)->(Hh hi).get b=(Hh lo).get b:=λb hb hi=>by
     induction hi with
     | zero=>
      intro lo h1 _ _
      rw [show lo=0 by omega]
     | succ k ihk=>
      intro lo h1 h2 h3
      by_cases hlk:lo=k+1
      .rw [hlk]
      .have hbn:b<(Hh k).n:=by
        have:=hB i b hin hb
        have:=(db hhp k (by omega) 0 (Yk _)).1
        omega
       rw [<- ihk lo (by omega) (by omega) λq g1 g2=>h3 q g1 (by omega)]
       by_cases hhk:iX iso pur k
       .exact hkp i k b hin (by omega) hb hhk (h3 k (by omega) (by omega) hhk) hbn
       .exact (hhp.pT k (by omega) hhk).1.get b hbn
    have hok:∀ b,B i=some b->Hx.get b=(Hh i).get b:=λb hb=>by
     have hbT:b<(Hh T).n:=by
      have:=hB i b hin hb
      have:=h0N T hM.le
      omega
     rw [hM.Vm b hbT]
     rcases Yf i T with hlt|hge
     .refine hget b hb T i (by omega) hM.le λk g1 g2 g3=>?_
      have hki:k≠i:=λh=>by subst h;rw [g3.2]at hpu;cases hpu
      have hbk:=hM.JB k g2 g3
      unfold jh
      rw [Wu]
      refine ⟨?_,?_⟩
      .cases hx:((Region.before ops).getD i 0).testBit k with
       | false=>rfl
       | true=>have:=fY hE i k hx;omega
      .cases hx:((Region.before ops).getD k 0).testBit i with
       | false=>rfl
       | true=>exact absurd (eh hE hM.closed k i (YG hbk) hx) hnb
     .refine (hget b hb i T hge (by omega) λk g1 g2 g3=>?_).symm
      have hnk:¬ dM listed k:=λhbk=>by
       by_cases hkT:k=T
       .subst hkT;exact hM.not hbk
       .rcases hiso T k (hM.N7 (by omega)) (Ne.symm hkT) g3.2 (by omega) with h8|h8|h8
        .have:=fY hE T k h8;omega
        .exact hM.not (eh hE hM.closed k T (YG hbk) h8)
        .rw [hhal k g3]at h8;cases h8
      unfold jh
      rw [Wu]
      refine ⟨?_,?_⟩
      .cases hx:((Region.before ops).getD i 0).testBit k with
       | false=>rfl
       | true=>exact absurd (hbi k hx) hnk
      .cases hx:((Region.before ops).getD k 0).testBit i with
       | false=>rfl
       | true=>have:=fY hE k i hx;omega
    refine jI (hop Hx hok rd base w0 rho w a hM.pr hor) λa1 w1 hk=>?_
    obtain ⟨cv,rfl,rho1,v1,p1,x1⟩:=hk
    exact adv rho1 w1 cv p1 (Ext.trans hd0 hM.ext x1) x1.mu v1 λb c h=>YG (x1.old b c (p1.lt b c h) h)
   .exact absurd ⟨his,hpu⟩ hh
   .simp only [hw _ _ hgt,if_true]
    by_cases hno:i<T/\∀ j,i<=j->j<T->¬ iX iso pur j
    .obtain ⟨hlt,hno⟩:=hno
     obtain ⟨b1',b2⟩:=RE hhp T hM.le i (by omega) hno
     obtain ⟨b3',b4⟩:=RE hhp T hM.le (i+1) hlt λj h2 h3=>hno j (by omega) h3
     have b1:=b1'.trans hpx
     have b3:=b3'.trans hpx
     have hnn:=(hhp.le i hin).1
     have hp1:Part H1 Hx:=⟨by rw [g1];exact b1.n,λb hb=>by rw [g2];exact b1.get b (by omega),λb hb=>by rw [g2];exact b1.out b (by omega)⟩
     have pc:PR P base w0 (cutAt H1.n rho) H1 w:=hM.pr.part hp1 (by omega) λb c hrb hb=>by
      obtain ⟨m,o',q1,q2⟩:=hM.kn b c hrb i (by omega) hno (by omega)
      exact ⟨m,o',by rw [g2];exact q1,λb' c' hm=>by rw [g1];exact q2 b' c' hm⟩
     have oc:OR (mu (cutAt H1.n rho) H1 w) nt (E i) a o:=low H1 hp1 (by omega)
     refine jI (hop rd base w0 _ w a pc oc) λa1 w1 hk=>?_
     obtain ⟨cv,rfl,rho1,v1,p1,x1⟩:=hk
     rw [g1]at x1
     obtain ⟨p2,m1,m2,e1,e2,e3⟩:=hM.pr.merge (Hi:=Hh i) (Hi':=Hh (i+1)) b1 b3 hnn (λb c hrb=>by
      rcases Yf b (Hh T).n with hbT|hbT
      .have:=hM.bound b c hrb i hlt hnb
       omega
      .have:=b3'.n
       omega) g1 p1 x1 g4 g5 g6 rfl
     have hN0:=(db hhp i (by omega) 0 (Yk _)).1
     refine adv _ w1 cv p2 (hM.ext.after hd0 hc0 (hhp.out 0 (Yk _)) hN0 e1 (λb c h=>(e2 b c h).imp id λh=>h.2.2.1) e3 x1.size) m1 (VR.mono m2 _ _ v1) λb c h=>?_
     rcases e2 b c h with h|⟨h2,h3,h4,h5⟩
     .exact YG h
     .refine YE ⟨hlt,hno,h2,h3,?_⟩
      obtain ⟨m,o',q1,q2⟩:=p1.kn h5
      exact ⟨m,o',by rw [g6];exact q1,λb' c' hm=>by rw [g5];exact q2 b' c' hm⟩
    .have hali:al i=true:=by
      rcases (show i<T\/(al i=true/\T<i) by
       rcases Yf T ops.size with h|h
       .exact hTn i hiT hpu hin h hnb hbi
       .exact YG (by omega)) with hlt|⟨h,_⟩
      .by_cases ha:al i=true
       .exact ha
       .exact absurd ⟨hlt,λj h2 h3 hj=>by
         have hbj:=hM.JB j h3 hj
         have hji:j≠i:=λh=>by subst h;exact hnb hbj
         rcases hiso j i hj hji hpu hin with h8|h8|h8
         .exact hnb (eh hE hM.closed j i (YG hbj) h8)
         .have:=fY hE i j h8;omega
         .exact ha h8⟩ hno
      .exact h
     rcases hal i o ho hali with ⟨hw2,_⟩|⟨⟨bl,k1,k2,k3,_,k4⟩,klate⟩
     .have h1:=hw _ _ hgt
      rw [hw2 _ _ hgt]at h1
      cases h1
     obtain ⟨ob,k4,k5⟩:=k4 _ a hor
     refine jI (k5 rd w) λa1 w1 hk=>?_
     obtain ⟨rfl,rfl⟩:=hk
     have hcase:T<i\/(i<T/\∀ k,i+1<=k->k<=T->(Hh k).get (Hh i).n=bl):=by
      rcases Yf T i with h|h
      .exact YG h
      .refine YE ⟨by omega,λk=>?_⟩
       induction k with
       | zero=>intro h1 _;omega
       | succ k ihk=>
        intro h1 h2
        by_cases hki:k=i
        .subst hki;exact k2.get
        .have hTs:=hM.le
         have hnk:(Hh i).n<(Hh k).n:=by
          have:=(db hhp k (by omega) (i+1) (by omega)).1
          have:=k2.n
          omega
         rw [<- ihk (by omega) (by omega)]
         by_cases hhk:iX iso pur k
         .refine klate k (by omega) hhk (by omega) ?_ hnk
          have hbk:=hM.JB k (by omega) hhk
          unfold jh
          rw [Wu]
          refine ⟨?_,?_⟩
          .cases hx:((Region.before ops).getD i 0).testBit k with
           | false=>rfl
           | true=>have:=fY hE i k hx;omega
          .cases hx:((Region.before ops).getD k 0).testBit i with
           | false=>rfl
           | true=>exact absurd (eh hE hM.closed k i (YG hbk) hx) hnb
         .exact (hhp.pT k (by omega) hhk).1.get _ hnk
     have hearly:T<i->(Hh T).n<=(Hh i).n:=λh=>(db hhp i (by omega) T (by omega)).1
     have hlateN:i<T->(Hh i).n<(Hh T).n:=λh=>by
      have:=(db hhp T hM.le (i+1) (by omega)).1
      have:=k2.n
      omega
     have hb0N:(Hh i).n<(Hh ops.size).n:=by
      have:=hN (i+1) (by omega)
      have:=k2.n
      omega
     have hfree:∀ c,rho (Hh i).n≠some c:=λc hr=>by
      rcases hcase with hlt|⟨hlt,_⟩
      rotate_left
      .exact hM.bound _ c hr i hlt hnb ⟨YA _,by have:=k2.n;omega⟩
      obtain ⟨_,i0,q1,q2,q3,_,q5,bl',ob',q6,_⟩:=hM.He _ c hr (hearly hlt)
      have hne:i0≠i:=λh=>hnb (h ▸ q3)
      rcases Yf i0 i with h|h
      .have:=(db hhp i (by omega) (i0+1) h).1
       have:=q6.n
       omega
      .have:=(db hhp i0 (by omega) (i+1) (by omega)).1
       have:=k2.n
       omega
     have halive:(Hh i).n<Hx.n->(Hx.get (Hh i).n).alive:=λhlx=>by
      rcases hcase with hlt|⟨hlt,hkeep⟩
      .exact hM.xhi _ (hearly hlt) hlx
      .rw [hM.Vm _ (hlateN hlt),hkeep T (by omega) (YA _)]
       exact k3
     obtain ⟨Hy,y1,y2,y3,y4⟩:=AR (λb=>if b=(Hh i).n then bl else Hx.get b) (Hh ops.size).n Hx.bC
     have hy0:Hy.get (Hh i).n=bl:=by rw [y3 _ hb0N,if_pos rfl]
     have hyo:∀ b,b≠(Hh i).n->Hy.get b=Hx.get b:=λb hb=>by
      rcases Yf b (Hh ops.size).n with h|h
      .rw [y3 b h,if_neg hb]
      .rw [y4 b h,hM.pr.out b (by rw [hM.xn];exact h)]
     have hold:∀ c,c<w.heap.size->(w.alloc ob).heap[c]? = w.heap[c]?:=λc hc=>Below.heap_alloc _ _ _ hc
     generalize hrho2:(λb=>if b=(Hh i).n then some w.heap.size else rho b)=rho2
     have r20:rho2 (Hh i).n=some w.heap.size:=by rw [<- hrho2];exact if_pos rfl
     have r2o:∀ b,b≠(Hh i).n->rho2 b=rho b:=λb hb=>by rw [<- hrho2];exact if_neg hb
     have mX:(mu rho Hx w).le (mu rho2 Hy (w.alloc ob)):=by
      refine ⟨λb c ⟨q1,q2⟩=>⟨by rw [y1,<- hM.xn];exact q1,λha=>?_⟩,λc z ⟨cs,e,fr,q1,q2⟩=>⟨cs,e,fr,by rw [hold c (YK.1 q1).1];exact q1,q2⟩⟩
      by_cases hb:b=(Hh i).n
      .subst hb
       exact absurd (q2 (halive q1)) (hfree c)
      .rw [r2o b hb]
       exact q2 (by rw [<- hyo b hb];exact ha)
     have p2:PR P base w0 rho2 Hy (w.alloc ob):=by
      refine ⟨nS hM.pr.below rfl rfl rfl (by simp) λk hk=>hold k (by have:=hM.pr.cN;omega),by have:=hM.pr.cN;simp;omega,by rw [y1,y2,<- hM.xn];exact hM.pr.wn,λb c hrb=>?_,λb b' c h1 h2=>?_,λb c hrb=>?_,λb hb=>y4 b (by rw [<- y1];exact hb),uT hM.pr.gl.1 λc hc=>hold c (hM.pr.gl.2.1 c hc),λc hc=>by have:=hM.pr.gl.2.1 c hc;simp;omega,λb c hrb hc=>by
       by_cases hb:b=(Hh i).n
       .subst hb
        rw [r20]at hrb
        cases hrb
        have:=hM.pr.gl.2.1 _ hc
        omega
       .rw [r2o b hb]at hrb
        exact hM.pr.gl.2.2 b c hrb hc⟩
      .by_cases hb:b=(Hh i).n
       .subst hb
        rw [r20]at hrb
        cases hrb
        exact ⟨by rw [y1];exact hb0N,hM.pr.cN,by simp,by rw [hy0];exact k3⟩
       .rw [r2o b hb]at hrb
        obtain ⟨q1,q2,q3,q4⟩:=hM.pr.jl b c hrb
        exact ⟨by rw [y1,<- hM.xn];exact q1,q2,by simp;omega,by rw [hyo b hb];exact q4⟩
      .by_cases hb:b=(Hh i).n<;>by_cases hb':b'=(Hh i).n
       .omega
       .subst hb
        rw [r20]at h1
        cases h1
        rw [r2o b' hb']at h2
        have:=(hM.pr.jl b' _ h2).2.2.1
        omega
       .subst hb'
        rw [r20]at h2
        cases h2
        rw [r2o b hb]at h1
        have:=(hM.pr.jl b _ h1).2.2.1
        omega
       .rw [r2o b hb]at h1
        rw [r2o b' hb']at h2
        exact hM.pr.inj b b' c h1 h2
      .by_cases hb:b=(Hh i).n
       .subst hb
        rw [r20]at hrb
        cases hrb
        exact ⟨ob,World.alloc_heap_new w _,by rw [hy0];exact k4 _⟩
       .rw [r2o b hb]at hrb
        obtain ⟨o',q1,q2⟩:=hM.pr.cQ b c hrb
        exact ⟨o',by rw [hold c (hM.pr.jl b c hrb).2.2.1];exact q1,by rw [hyo b hb];exact q2.mono mX⟩
     have h0i:=h0N i (by omega)
     have x3:Ext rho0 (Hh 0) w00 rho2 Hy (w.alloc ob):=hM.ext.re hd0 hc0 h0out (by rw [y1];exact h0N _ (YA _)) y2 (λb hb=>hyo b (by omega)) (λb hb=>r2o b (by omega)) (λb c _ hr=>by
      by_cases hb:b=(Hh i).n
      .subst hb
       rw [r20]at hr
       cases hr
       exact YE hM.ext.size
      .exact YG (by rw [<- r2o b hb];exact hr)) (λc hc=>hold c (YC hc hM.ext.size)) (by have:=hM.ext.size;simp;omega)
     refine ih _ _ _ T rho2 Hy ⟨hsz',hC',hM.le,hM.N7,hnot',hbeen',y1,y2.trans hM.xw,λb hb=>by
      by_cases hbb:b=(Hh i).n
      .subst hbb
       rcases hcase with hlt|⟨hlt,hkeep⟩
       .have:=hearly hlt;omega
       .rw [hy0,hkeep T (by omega) (YA _)]
      .rw [hyo b hbb];exact hM.Vm b hb,λb hb hb'=>?_,p2,x3,hput (hM.tr.mono mX) ?_,(put_defers _ _ _).trans hM.defers,λb c hrb k hk hnk=>?_,λb c hrb k hk hkj hbk=>?_,λb c hrb hbT=>?_⟩ hc'
     .by_cases hbb:b=(Hh i).n
      .subst hbb;rw [hy0];exact k3
      .rw [hyo b hbb]
       exact hM.xhi b hb (by rw [hM.xn,<- y1];exact hb')
     .rw [k1]
      simp only [VR]
      exact ⟨_,rfl,by rw [y1];exact hb0N,λ_=>r20⟩
     .rw [da hil]at hnk
      by_cases hb:b=(Hh i).n
      .rintro ⟨q1,q2⟩
       have hki:k≠i:=λh=>hnk (YG h)
       have hTs:=hM.le
       rcases Yf k i with h|h
       .have:=(db hhp i (by omega) (k+1) (by omega)).1;omega
       .have:=(db hhp k (by omega) (i+1) (by omega)).1
        have:=k2.n
        omega
      .rw [r2o b hb]at hrb
       exact hM.bound b c hrb k hk λh=>hnk (YE h)
     .by_cases hb:b=(Hh i).n
      .rcases hcase with hlt|⟨hlt,hkeep⟩
       .have:=(db hhp T hM.le k hk).1
        have:=hearly hlt
        omega
       .have hik:i+1<=k:=by
         rcases Yf i k with h|h
         .exact h
         .have:=(db hhp i (by omega) k h).1;omega
        subst hb
        exact ⟨⟨λ_ _=>False,λ_ _=>False⟩,ob,by rw [hkeep k hik hk];exact k4 _,λ_ _ h=>h.elim⟩
      .rw [r2o b hb]at hrb
       exact hM.kn b c hrb k hk hkj hbk
     .by_cases hb:b=(Hh i).n
      .subst hb
       rw [r20]at hrb
       cases hrb
       have hTi:T<i:=hcase.resolve_right λh=>by have:=hlateN h.1;omega
       exact ⟨hM.ext.size,i,by omega,hin,(da hil).2 (YG rfl),hali,rfl,bl,ob,k2,k3,k4,hy0⟩
      .rw [r2o b hb]at hrb
       obtain ⟨q0,i0,q1,q2,q3,q4,q5,bl',ob',q6,q7,q8,q9⟩:=hM.He b c hrb hbT
       exact ⟨q0,i0,q1,q2,(da hil).2 (YE q3),q4,q5,bl',ob',q6,q7,q8,by rw [hyo b hb];exact q9⟩
end walk
end
end Go.Ev
end

