/- EvC: a part of the evaluator,of its logic,or of the laws' walk in it. -/
import Derived.Test.YtabnemidjklolaaGreatDoorEvB
import Derived.OrdersIn
open Nat renaming le_refl→YC,lt_of_lt_of_le→YF,zero_le→Ya,ble→Yb,lt_or_ge→Yf,add→Yg,mul→Ym,le_trans→Ys,shiftLeft→Yt,blt→WA,strongRecOn→YC2,lt_succ_self→YF1,min→YI3,lt_succ_of_lt→YI4,testBit_or→YM0
open Or renaming inr→YE,inl→YH
open List renaming mem_cons_of_mem→YI,mem_cons_self→YL,mem_cons→YS,getElem?_eq_some_iff→YW,getElem?_map→Yq,all_eq_true→WL,mem_zipIdx_iff_getElem?→WS,getElem?_cons_zero→Wh,mem_append_left→QK,foldl_cons→QX
open Array renaming getElem?_eq_some_iff→YO,getElem?_eq_getElem→Yd,getD_eq_getD_getElem?→Yn,getElem?_toList→Yr,getElem?_push→QR,foldl_toList→YC3
open Bool renaming false_eq_true→YT,and_eq_true→Yu,or_eq_false_iff→QJ,or_eq_true→QY,false_or→YB3
open Option renaming getD_some→YU,map_eq_some_iff→Yh,bind_some→YF0
set_option linter.unusedVariables false
set_option linter.unusedSimpArgs false
set_option linter.unusedSectionVars false
section
namespace Go.Ev
open Go.RowKit
section
variable{P:Program}{nt:Nat}{o:Oper}{id:Nat}{ph:dg}{e:Env}{H:Heap}{k:K}
theorem Vy{a b}{f}(h:Nr a b f=1):f (YI3 a b)=1:=by
 rcases bV h with⟨h1,h2⟩|⟨h1,h2⟩;.simp_all
 .have:¬a<=b:=λhle=>by rw[Nat.ble_eq_true_of_le hle]at h1;cases h1
  rw[show YI3 a b=b from Nat.min_eq_right (by omega)];omega
theorem abJ{asL}{ts}(hop:o.op=.call {callee:=.builtin .copy,args:=asL,argTypes:=ts})(h:aQ (ai P nt o) id ph e H k=1):Good P nt o e H k:=by
 simp only[ai,hop,dh]at h;have hnd:∀c,o.op≠.defer c:=by simp[hop]
 split at h
 .rename_i d s t tr hx hts;obtain⟨p,q,rfl,hp',hq'⟩:=Du hx;have hts':ts[0]?=some t:=by rw[<-Yr,hts];rfl
  split at h
  .rename_i el hel;split at h
   .rename_i size hs;obtain⟨i,hi,hisz⟩:∃i,P.info? el=some i/\i.size=size:=by unfold qz at hs;simp only[Yh]at hs;omega
    have hsz:∀w,(sizeOf el).run P w=.ok size w:=λw=>by simp[sizeOf,typeInfo,hi,hisz]
    have h':Ry size d s id ph e H k=1:=h;unfold Ry at h';rw[aq,aq]at h';have key:∀(v)(H'),(∀(base)(w0)(rho)(w)(cs cx),PR P base w0 rho H w->VR (mu rho H w) (aA d e) cs->VR (mu rho H w) (aA s e) cx->∃cv w',(Builtin.copy_ ts o.type #[cs,cx]).run P w=.ok cv w'/\Left P base w0 rho H w v H' cv w')->eZ P nt o e H v H':=λv H' hh=>eZ.of_run hnd λbase w0 rho w a hp ho=>by obtain⟨cv,w',h1,h2⟩:=hh base w0 rho w _ _ hp (ho p (by simp[hop,Op.operands,Call.operands]) d hp') (ho q (by simp[hop,Op.operands,Call.operands]) s hq');refine⟨cv,w',?_,h2⟩;rw[fD hop a.eval];simp[builtin,h1]
    rcases fJ h' with⟨b,off,dl,cp,sz,hsv,h1⟩|⟨hsv,h1⟩
    .obtain⟨sl,h2,hlen⟩:=Sy h1;have h3:=Vy h2;obtain⟨n0,l,h4,hN⟩:=px h3;obtain⟨h5,h6⟩:=kT h4;have hrun:∀{base}{w0 w}{rho}{cx}(c o' cap)(sp),PR P base w0 rho H w->VR (mu rho H w) (aA s e) cx->∃cl:List Value,bZ (mu rho H w) (l.take (YI3 sl dl*size)) cl/\∀w',(storeCells ⟨c,o',sp⟩ cl 0).run P w=.ok () w'->(Builtin.copy_ ts o.type #[.slice (some ⟨c,o',sp⟩) dl cap,cx]).run P w=.ok (.int .i64 (YI3 sl dl)) w':=by intro base w0 w rho cx c o' cap sp hp vx;have e1:=hlen _ _ vx w;have e2:=hN.1 _ _ vx w;rw[e1]at e2;cases e2;obtain⟨hll,h7⟩:=hN.2 hp vx;obtain⟨cl,g1,g2⟩:=h7 (YI3 sl dl) (Nat.min_le_left _ _);exact⟨cl,g2,λw' hw'=>by simp[Builtin.copy_,hts',run_underlying (qj hel),e1,hsz,g1,hw',goInt]⟩
     cases hmin:YI3 sl dl with|zero=>rw[hmin]at h6;have h7:=h6;refine⟨_,_,key _ _ λbase w0 rho w cs cx hp vs vx=>?_,h7⟩;rw[hsv]at vs;obtain⟨c,cap,o',sp,rfl,hm,_⟩:=vs;obtain⟨cl,g1,g2⟩:=hrun c o' cap sp hp vx;rw[hmin,Nat.zero_mul,List.take_zero]at g1;subst g1;refine⟨_,w,g2 w rfl,rho,?_,hp,Ext.refl hp.lt⟩;rw[hmin];exact pK (by omega)|succ m=>
      rw[hmin]at h6;have h7:=h6;obtain⟨H',h8,h9⟩:=lB h7;have hone:=yr h7;obtain⟨hlt,h8⟩:=qc h8;refine⟨_,_,key _ _ λbase w0 rho w cs cx hp vs vx=>?_,h8⟩;rw[hsv]at vs;obtain⟨c,cap,o',sp,rfl,hm,hle,hcp,ho'⟩:=vs;obtain⟨rfl,rfl⟩:o'=off/\sp=none:=by
       rcases ho' with h|h;.omega
       .have:dl=0:=by omega
        subst this;have:YI3 sl 0=0:=Nat.min_zero _;omega
      obtain⟨cl,g1,g2⟩:=hrun c _ cap none hp vx;rw[hmin]at g1;obtain⟨w',p1,p2,p3⟩:=h9 hp hm hone g1;refine⟨_,w',g2 w' p1,rho,?_,p2,p3⟩;rw[hmin];exact pK hlt
    .obtain⟨n0,l,h4,hN⟩:=px h1;refine⟨_,_,key _ _ λbase w0 rho w cs cx hp vs vx=>?_,h4⟩;rw[hsv]at vs;subst vs;have e1:=hN.1 _ _ vx w;obtain⟨hll,h7⟩:=hN.2 hp vx;obtain⟨cl,g1,g2⟩:=h7 0 (Ya _);have hm0:YI3 n0 0=0:=Nat.min_zero _;exact⟨_,w,by simp[Builtin.copy_,hts',run_underlying (qj hel),e1,hsz,g1],rho,pK (by omega),hp,Ext.refl hp.lt⟩
   .exact(aw h).elim
  .exact(aw h).elim
 .exact(aw h).elim
theorem td(hc:ai P nt o=.bad)(h:aQ (ai P nt o) id ph e H k=1):Good P nt o e H k:=by rw[hc]at h;exact(aw h).elim
theorem er(hph:jb P ph)(h:aQ (ai P nt o) id ph e H k=1):Good P nt o e H k:=by cases hop:o.op with
 |move x=>exact Tv (.inl hop) h|assign x=>exact Tv (.inr hop) h|pick c x y=>exact abM hop h|alloc t=>exact Xe hop h|box t x=>exact aeN hop h|build t ps=>exact Xg hop h|buildSlice t l ps=>exact CC hop h|insert t m x y=>exact uG (.inr hop) h|mapUpdate t m x y=>exact uG (.inl hop) h|load t x=>exact abK hop h|store t x y=>exact Xk hop h|nilCheck x=>exact abL hop h|binOp op xt x y yt=>exact Xf hop h|unOp op xt x=>exact abN hop h|convert s d x=>exact NV hop h|makeInterface t x=>exact vk hop h|typeAssert x xt t ok=>exact CD hop h|makeFunc f first caps=>cases f with|func f=>exact JA hop h|_=>exact td (by simp only[ai,hop]) h
 |makeMap t r=>cases r with|none=>exact NX hop h|some r=>exact td (by simp only[ai,hop]) h
 |makeSlice t l c=>exact F9 hop h|slice t x lo hi mx=>exact Xj hop h|fieldAddr t x f=>exact F7 hop h|field t x f=>exact Xh hop h|indexAddr t x i=>exact F8 hop h|index t x i=>exact Xi hop h|lookup t m x ok=>exact Tu hop h|extract x i=>exact NW hop h|call c=>obtain⟨callee,asL,ts⟩:=c;cases callee with
  |value x=>cases x with|func f=>exact Jz hph hop h|tmp t=>exact NU hph hop h|_=>exact td (by simp only[ai,hop]) h
  |builtin b=>cases b with|len=>exact aeP hop h|cap=>exact aeO hop h|append=>exact Ts hop h|copy=>exact abJ hop h|delete=>exact Tt hop h|max=>exact aeQ (mx:=true) hop h|min=>exact aeQ (mx:=false) hop h|_=>exact td (by simp only[ai,hop,dh]) h
  |_=>exact td (by simp only[ai,hop]) h
 |_=>exact td (by simp only[ai,hop]) h
end
theorem kq{F}{n}{P}{o:Oper}{a}{w}{K K'}{Q}(h:o.wpIn F n P a w K (λ_ _ _=>False))(hk:∀a w,K a w->K' a w):o.wpIn F n P a w K' Q:=by refine⟨h.1,?_⟩;have h:=h.2;generalize(o.semAt F.round a.eval).run P w=r at*;cases r with
 |ok x w'=>
  cases x<;>simp only[Oper.uponIn]at h⊢;case value v=>simp_all
  case skip=>simp_all
  case defer d=>simp_all
  case enter f args=>refine⟨h.1,CallsIn.mono h.2 λe w'' he=>?_⟩;cases e with|returned u=>simp_all|panicked c=>simp_all|outgrown=>obtain⟨_,_,h⟩:=he;simp_all
  case row row args=>exact⟨h.1,RowsIn.mono h.2 λu w'' he=>hk _ _ he⟩
  case round l f tmps assign body=>refine⟨h.1,RoundIn.mono h.2 λe w'' he=>?_⟩;cases e with|returned u=>simp_all|panicked c=>simp_all|outgrown=>obtain⟨_,_,h⟩:=he;simp_all
 |halt x w'=>cases x<;>simp only[Oper.uponIn]at h⊢
theorem aa7{x}{b}{t f}(h:Hf x b t f=1):(x=.bool b/\t=1)\/(x≠.bool b/\f=1):=by
 cases x<;>first|exact YE ⟨(by simp),h⟩|skip
 rename_i c;cases c<;>cases b<;>first|exact YH ⟨rfl,h⟩|exact YE ⟨(by simp),h⟩
theorem XD{m}{x}{b}(h:VR m x (.bool b)):x=.bool b:=by cases x<;>simp only[VR]at h<;>first|rfl|rfl|rfl|simp_all|rfl
theorem pL{m}:VR m (.cG []) undef:=by exact⟨#[],rfl,by rfl⟩
def GT(nt:Nat)(m:M)(e:Env)(ops:Array Oper)(o:Oper)(tmps:Array Value):Prop:=∀j b o' d,o.guard=some (j,b)->ops[j]?=some o'->o'.dst=some d->d<nt->∃v,tmps[d]?=some v/\VR m (af (bj d) e) v
def GW(nt:Nat)(e:Env)(ops:Array Oper)(o:Oper)(b:Bool):Prop:=∀(m:M)(tmps:Array Value),GT nt m e ops o tmps->Region.wanted o (yielded ops tmps)=b
theorem TR.gt{m:M}{nt:Nat}{e:Env}{tmps:Array Value}(h:TR m nt e tmps)(ops:Array Oper)(o:Oper):GT nt m e ops o tmps:=λj b o' d _ _ _ hlt=>by
 have hs:=h.size;have hlt':d<tmps.size:=by rw[hs];exact hlt
 exact⟨_,Yd hlt',h.get d _ (Yd hlt')⟩
theorem sK{nt}{e}{ops}{o}{g}(hg:guardOf nt ops o.guard=some g){t f}(h:uP g e t f=1):(t=1/\GW nt e ops o true)\/(f=1/\GW nt e ops o false):=by
 unfold guardOf at hg;split at hg;.rename_i hn;cases hg;exact YH ⟨h,λm tmps ht=>by simp[Region.wanted,hn]⟩
 .rename_i j b hn;split at hg
  .rename_i o' ho';split at hg
   .rename_i d hd;split at hg
    .rename_i hlt;cases hg;have h':jU (bj d) e (λv=>Hf v b t f)=1:=h;rw[eg]at h';rcases aa7 h' with⟨h1,h2⟩|⟨h1,h2⟩;.refine YH ⟨h2,λm tmps ht=>?_⟩;obtain⟨c,hex,h3⟩:=ht j b o' d hn ho' hd hlt;rw[h1]at h3;simp only[VR]at h3;simp[Region.wanted,hn,yielded,ho',hd,hex,h3]
     .refine YE ⟨h2,λm tmps ht=>?_⟩;obtain⟨c,hex,h3⟩:=ht j b o' d hn ho' hd hlt;have h4:yielded ops tmps j≠some b:=by
       simp only[yielded,ho',YF0,hd,hex];split;.rename_i c hc;rw[Option.some.injEq]at hc;rw[hc]at h3;intro he;cases he;exact h1 (XD h3)
       simp
      simp[Region.wanted,hn,h4]
    simp_all
   simp_all
  simp_all
def dD(d:Option Slot)(v:V)(e:Env):Env:=match d with|none=>e|some s=>kY s v e
theorem ck(d)(v)(e)(k):cj d v e k=k (dD d v e):=by cases d with|none=>rfl|some s=>exact sG s v e k
theorem ri{m}{nt}{e}{a:Act}(h:TR m nt e a.tmps){dst}{d}(hd:rY nt dst=some d){v}{c}(hv:VR m v c):TR m nt (dD d v e) (a.put dst c).tmps:=by
 unfold rY at hd;split at hd;.cases hd;exact h
 .split at hd;.rename_i hlt;cases hd;exact h.put hlt hv
  simp_all
theorem put_defers(a:Act)(dst)(c):(a.put dst c).defers=a.defers:=by cases dst<;>rfl
def RS(P:Program)(nt:Nat)(ops:Array Oper)(l:List Oper)(e:Env)(H:Heap)(e':Env)(H':Heap):Prop:=∀(rd:Option Nat)(base:Nat)(w0:World)(rho:Nat->Option Nat)(w:World)(a:Act),PR P base w0 rho H w->TR (mu rho H w) nt e a.tmps->∀(Q:Exit->Act->World->Prop),(∀a' w' rho',a'.defers=a.defers->PR P base w0 rho' H' w'->TR (mu rho' H' w') nt e' a'.tmps->Ext rho H w rho' H' w'->Q .normal a' w')->wpListIn (WF rd) 0 P ops Q l a w
theorem xh{P}{nt}{ph}{ops}{base}{pl al}{bf}(hph:jb P ph):∀(l)(i)(r)(e)(H)(k),du P nt base ops pl al bf l i=some r->jm ph r e H k=1->∃e' H',RS P nt ops l e H e' H'/\k e' H'=1
 |[],i,r,e,H,k,hc,h=>by simp only[du,Option.some.injEq]at hc;subst hc;exact⟨e,H,λrd base w0 rho w a hp ht Q hq=>hq a w rho rfl hp ht (Ext.refl hp.lt),h⟩|o::l,i,r,e,H,k,hc,h=>by
  simp only[du]at hc;split at hc
  .rename_i d g r' hd hg hr;cases hc;have h':=h;rcases sK hg h' with⟨h1,h2⟩|⟨h1,h2⟩;.obtain⟨v,H1,h3,h4⟩:=er hph h1;replace h4:cj d v e (λe'=>jm ph r' e' H1 k)=1:=h4;rw[ck]at h4;obtain⟨e',H',h5,h6⟩:=xh hph l (i+1) r' _ _ k hr h4;refine⟨e',H',λrd base w0 rho w a hp ht Q hq=>?_,h6⟩;simp only[wpListIn,h2 _ _ (ht.gt ops o),if_true];refine kq (h3 rd base w0 rho w a hp (ht.or o)) λa1 w1 hk=>?_;obtain⟨cv,rfl,rho1,v1,p1,x1⟩:=hk;exact h5 rd base w0 rho1 w1 _ p1 (ri (ht.mono x1.mu) hd v1) Q λa' w' rho' q1 q2 q3 q4=>hq a' w' rho' (q1.trans (put_defers _ _ _)) q2 q3 (Ext.trans hp.lt x1 q4)
   .rw[ck]at h1;obtain⟨e',H',h5,h6⟩:=xh hph l (i+1) r' _ _ k hr h1;refine⟨e',H',λrd base w0 rho w a hp ht Q hq=>?_,h6⟩;simp only[wpListIn,h2 _ _ (ht.gt ops o),YT,if_false];refine⟨λ_ _=>trivial,?_⟩;exact h5 rd base w0 rho w _ hp (ri ht hd pL) Q λa' w' rho' q1 q2 q3 q4=>hq a' w' rho' (q1.trans (put_defers _ _ _)) q2 q3 q4
  .cases hc
def aE{α:Type}(f:(α->R)->R):Prop:=(∃a,∀k,f k=k a)\/∀k,f k≠1
section
variable{α β:Type}{id:Nat}
theorem aE.ret(a:α):aE λk=>k a:=YH ⟨a,λ_=>rfl⟩
theorem aE.no(c:Nat):aE λ_:α->R=>no c:=YE λk h=>aw h
theorem aE.bind{f:(β->R)->R}{g:β->(α->R)->R}(h:aE f)(hg:∀b,aE (g b)):aE λk=>f λb=>g b k:=by
 rcases h with⟨b,hb⟩|h
 .rcases hg b with⟨a,ha⟩|h;.exact YH ⟨a,λk=>(hb _).trans (ha k)⟩
  .exact YE λk=>by show f _≠1;rw[hb];exact h k
 .exact YE λk=>h _
theorem aE.aH{b:Bool}{f g:(α->R)->R}(hf:aE f)(hg:aE g):aE λk=>Ev.aH b (f k) (g k):=by
 cases b;.exact hg
 .exact hf
theorem aE.aJ{a:Arg}{e:Env}{g:V->(α->R)->R}(hg:∀b,aE (g b)):aE λk=>Ev.aJ a e λb=>g b k:=by simp only[aq];exact hg _
theorem aE.oT{l:List Arg}{e:Env}{g:List V->(α->R)->R}(hg:∀b,aE (g b)):aE λk=>Ev.oT l e λb=>g b k:=by simp only[ib];exact hg _
theorem aE.av{n:Nat}{g:Nat->(α->R)->R}(hg:∀b,aE (g b)):aE λk=>Ev.av n λb=>g b k:=by simp only[ax];exact hg _
theorem aE.cD{x:V}{g:Nat->Nat->(α->R)->R}(hg:∀a b,aE (g a b)):aE λk=>Ev.cD id x λa b=>g a b k:=by cases x<;>first|exact YE λk h=>aw h|exact hg _ _
theorem aE.eO{x:V}{g:Bool->(α->R)->R}(hg:∀a,aE (g a)):aE λk=>Ev.eO id x λa=>g a k:=by cases x<;>first|exact YE λk h=>aw h|exact hg _
theorem aE.dZ{x:V}{g:Nat->Nat->(α->R)->R}(hg:∀a b,aE (g a b)):aE λk=>Ev.dZ id x λa b=>g a b k:=by cases x<;>first|exact YE λk h=>aw h|exact hg _ _
theorem aE.ej{x:V}{g:Nat->Nat->(α->R)->R}(hg:∀a b,aE (g a b)):aE λk=>Ev.ej id x λa b=>g a b k:=by cases x<;>first|exact YE λk h=>aw h|exact hg _ _
theorem aE.lS{x:V}{g:Nat->Nat->Nat->Nat->Nat->(α->R)->R}(hg:∀a b c d e,aE (g a b c d e)):aE λk=>Ev.lS id x λa b c d e=>g a b c d e k:=by cases x<;>first|exact YE λk h=>aw h|exact hg _ _ _ _ _
theorem aE.bD{x:V}{g:Nat->Nat->Nat->Nat->Nat->(α->R)->R}{z:(α->R)->R}(hg:∀a b c d e,aE (g a b c d e))(hz:aE z):aE λk=>Ev.bD id x (λa b c d e=>g a b c d e k) (z k):=by cases x<;>first|exact YE λk h=>aw h|exact hg _ _ _ _ _|exact hz
theorem aE.iT{x:V}{g:List V->(α->R)->R}(hg:∀a,aE (g a)):aE λk=>Ev.iT id x λa=>g a k:=by cases x<;>first|exact YE λk h=>aw h|exact hg _
theorem aE.zK{x:V}{g:List V->(α->R)->R}(hg:∀a,aE (g a)):aE λk=>Ev.zK id x λa=>g a k:=by cases x<;>first|exact YE λk h=>aw h|exact hg _
theorem aE.dN{x:V}{g:List V->(α->R)->R}(hg:∀a,aE (g a)):aE λk=>Ev.dN id x λa=>g a k:=by cases x<;>first|exact hg _|exact YE λk h=>aw h
theorem aE.vIf{t:Nat}{x:V}{g:V->(α->R)->R}(hg:∀a,aE (g a)):aE λk=>Ev.vIf id t x λa=>g a k:=by cases x<;>first|exact YE λk h=>aw h|exact aE.aH (hg _) (aE.no 0)
theorem NZ{x}:aE (gf id x):=by
 cases x<;>first|exact YE λk h=>aw h|exact YH ⟨_,λ_=>rfl⟩|skip
 rename_i b;cases b<;>exact YH ⟨_,λ_=>rfl⟩
theorem aE.gf{x:V}{g:Nat->(α->R)->R}(hg:∀a,aE (g a)):aE λk=>Ev.gf id x λa=>g a k:=aE.bind NZ hg
theorem vU:∀(l)(i),aE (nth id l i)|[],i=>YE λk h=>aw h|v::l,0=>YH ⟨v,λ_=>rfl⟩|v::l,i+1=>vU l i
theorem aE.nth{l:List V}{i:Nat}{g:V->(α->R)->R}(hg:∀a,aE (g a)):aE λk=>Ev.nth id l i λa=>g a k:=aE.bind (vU l i) hg
theorem kj:∀(l)(i),aE (takeN id l i)|[],0=>YH ⟨[],λ_=>rfl⟩|[],_+1=>YE λk h=>aw h|v::l,0=>YH ⟨[],λ_=>rfl⟩|v::l,i+1=>aE.bind (g:=λr k=>k (v::r)) (kj l i) λr=>aE.ret _
theorem aE.takeN{l:List V}{i:Nat}{g:List V->(α->R)->R}(hg:∀a,aE (g a)):aE λk=>Ev.takeN id l i λa=>g a k:=aE.bind (kj l i) hg
theorem kh:∀(l)(i),aE (fE id l i)|[],0=>YH ⟨[],λ_=>rfl⟩|[],_+1=>YE λk h=>aw h|v::l,0=>YH ⟨v::l,λ_=>rfl⟩|v::l,i+1=>kh l i
theorem aE.fE{l:List V}{i:Nat}{g:List V->(α->R)->R}(hg:∀a,aE (g a)):aE λk=>Ev.fE id l i λa=>g a k:=aE.bind (kh l i) hg
theorem yk:∀(m l),aE (over id m l)|[],l=>YH ⟨l,λ_=>rfl⟩|x::m,[]=>YE λk h=>aw h|x::m,y::l=>aE.bind (g:=λr k=>k (x::r)) (yk m l) λr=>aE.ret _
theorem tV{m}:∀(l)(i),aE (setAt id m l i)|[],0=>yk (id:=id) m []|[],_+1=>YE λk h=>aw h|v::l,0=>yk (id:=id) m (v::l)|v::l,i+1=>aE.bind (g:=λr k=>k (v::r)) (tV l i) λr=>aE.ret _
theorem aE.gO{x:Option Arg}{e:Env}{d:Nat}{g:Nat->(α->R)->R}(hg:∀a,aE (g a)):aE λk=>Ev.gO id x e d λa=>g a k:=by cases x with|none=>exact hg d|some a=>exact aE.aJ λv=>aE.cD λkd n=>aE.aH (aE.aH (hg n) (aE.no 0)) (aE.no 0)
theorem aE.idx{i:Arg}{e:Env}{len:Nat}{g:Nat->(α->R)->R}(hg:∀a,aE (g a)):aE λk=>Ev.idx id i e len λa=>g a k:=aE.aJ λv=>aE.cD λkd n=>aE.aH (aE.aH (aE.aH (hg n) (aE.no 0)) (aE.no 0)) (aE.no 0)
theorem A0{e}:∀(ps)(z),aE (kD id e ps z)|[],z=>YH ⟨z,λ_=>rfl⟩|(off,size,a)::ps,z=>aE.aJ λv=>aE.dN λl=>aE.aH (aE.bind (tV z off) λz'=>A0 ps z') (aE.no 0)
end
theorem TE{id}(f)(a b):aE (gv id f a b):=by cases f<;>first|exact aE.av λn=>aE.ret n|exact aE.aH (aE.av λn=>aE.ret n) (aE.aH (aE.ret 0) (aE.no 0))|exact aE.aH (aE.aH (aE.av λn=>aE.ret n) (aE.aH (aE.ret 0) (aE.no 0))) (aE.no 0)|exact aE.aH (aE.aH (aE.aH (aE.no 0) (aE.av λn=>aE.ret n)) (aE.no 0)) (aE.no 0)
theorem aE.gv{α:Type}{id:Nat}{f:BF}{a b:Nat}{g:Nat->(α->R)->R}(hg:∀a,aE (g a)):aE λk=>Ev.gv id f a b λa=>g a k:=aE.bind (TE f a b) hg
theorem aE.kD{α:Type}{id:Nat}{e:Env}{ps:List (Nat×Nat×Arg)}{z:List V}{g:List V->(α->R)->R}(hg:∀a,aE (g a)):aE λk=>Ev.kD id e ps z λa=>g a k:=aE.bind (A0 ps z) hg
theorem JC{id}(c)(x y):aE (IS id c x y):=by match c with|0=>exact aE.eO (id:=id) λa=>aE.eO λb=>aE.aH (aE.ret b) (aE.aH (aE.ret false) (aE.ret true))|1=>exact aE.cD (id:=id) λk1 a=>aE.cD λk2 b=>aE.aH (aE.ret _) (aE.no 0)|c+2=>exact aE.dZ (id:=id) λl1 a=>aE.dZ λl2 b=>aE.aH (aE.ret _) (aE.ret false)
theorem Gu{id}:∀(cls)(l m),aE (gu id cls l m)|[],l,m=>YH ⟨true,λ_=>rfl⟩|c::cls,[],m=>YE λk h=>aw h|c::cls,a::l,[]=>YE λk h=>aw h|c::cls,a::l,b::m=>aE.bind (g:=λr k=>Ev.aH r (gu id cls l m k) (k false)) (JC c a b) λr=>aE.aH (Gu cls l m) (aE.ret false)
theorem aE.gu{α:Type}{id:Nat}{cls:List Nat}{l m:List V}{g:Bool->(α->R)->R}(hg:∀a,aE (g a)):aE λk=>Ev.gu id cls l m λa=>g a k:=aE.bind (Gu cls l m) hg
theorem TF{P:Program}{nt:Nat}{c}{id}{ph}{e}(hp:bR c=true)(H):aE λk:V->R=>aQ c id ph e H λv _=>k v:=by
 cases c<;>simp only[bR,YT]at hp;case gU x=>exact aE.aJ λv=>aE.ret v
 case jf cls neg x y=>exact aE.aJ λx=>aE.iT λl=>aE.aJ λy=>aE.iT λm=>aE.aH (aE.aH (aE.gu λb=>aE.aH (aE.aH (aE.ret _) (aE.ret _)) (aE.ret _)) (aE.no 0)) (aE.no 0)
 case pick c x y=>exact aE.aJ λc=>aE.eO λb=>aE.aH (aE.aJ λv=>aE.ret v) (aE.aJ λv=>aE.ret v)
 case build z ps=>exact aE.kD λl=>aE.ret _
 case Fx x=>refine aE.aJ λv=>?_;cases v<;>first|exact aE.ret _|exact aE.no 0
 case bin=>exact aE.aJ λx=>aE.cD λk1 a=>aE.aJ λy=>aE.cD λk2 b=>aE.aH (aE.aH (aE.gv λr=>aE.ret _) (aE.no 0)) (aE.no 0)
 case cmp=>exact aE.aJ λx=>aE.cD λk1 a=>aE.aJ λy=>aE.cD λk2 b=>aE.aH (aE.aH (aE.aH (aE.ret _) (aE.ret _)) (aE.no 0)) (aE.no 0)
 case Tw=>exact aE.aJ λx=>aE.dZ λk1 a=>aE.aJ λy=>aE.dZ λk2 b=>aE.av λl=>aE.aH (aE.av λn=>aE.ret _) (aE.no 0)
 case TA=>exact aE.aJ λx=>aE.dZ λk1 a=>aE.aJ λy=>aE.dZ λk2 b=>aE.aH (aE.aH (aE.aH (aE.ret _) (aE.ret _)) (aE.ret _)) (aE.ret _)
 case eqv=>exact aE.aJ λx=>aE.gf λa=>aE.aJ λy=>aE.gf λb=>aE.aH (aE.aH (aE.aH (aE.aH (aE.no 0) (aE.aH (aE.ret _) (aE.ret _))) (aE.ret _)) (aE.no 0)) (aE.no 0)
 case vd=>exact aE.aJ λx=>aE.eO λb=>aE.aH (aE.ret _) (aE.ret _)
 case wM src dst mode c x=>refine aE.aJ λv=>?_;cases mode with|zero=>exact aE.cD λk1 a=>aE.aH (aE.av λr=>aE.ret _) (aE.no 0)|succ m=>exact aE.cD λk1 a=>aE.aH (aE.aH (aE.ret _) (aE.av λr=>aE.ret _)) (aE.no 0)
 case mkI=>exact aE.aJ λv=>aE.ret _
 case tas=>exact aE.aJ λv=>aE.vIf λu=>aE.ret _
 case mkF=>exact aE.oT λv=>aE.ret _
 case slS=>exact aE.aJ λx=>aE.dZ λlen n=>aE.gO λh=>aE.gO λl=>aE.aH (aE.aH (aE.av λd=>aE.av λr=>aE.ret _) (aE.no 0)) (aE.no 0)
 case slV size x lo hi mx=>refine aE.aJ λv=>?_;cases mx with|none=>exact aE.bD (λb o len cp sz=>by cases cp with|zero=>exact aE.gO λl=>aE.gO λh=>aE.aH (aE.av λd=>aE.aH (aE.aH (aE.av λo'=>aE.ret _) (aE.no 0)) (aE.no 0)) (aE.no 0)|succ q=>exact aE.gO λl=>aE.gO λh=>aE.aH (aE.av λd=>aE.aH (aE.aH (aE.ret _) (aE.av λo'=>aE.av λc'=>aE.ret _)) (aE.no 0)) (aE.no 0)) (aE.gO λl=>aE.gO λh=>aE.gO λm=>aE.aH (aE.aH (aE.aH (aE.ret _) (aE.no 0)) (aE.no 0)) (aE.no 0))|some m=>exact aE.bD (λb o len cp sz=>aE.gO λl=>aE.gO λh=>aE.aH (aE.av λd=>aE.gO λm=>aE.aH (aE.aH (aE.aH (aE.ret _) (aE.av λo'=>aE.av λc'=>aE.ret _)) (aE.no 0)) (aE.no 0)) (aE.no 0)) (aE.gO λl=>aE.gO λh=>aE.gO λm=>aE.aH (aE.aH (aE.aH (aE.ret _) (aE.no 0)) (aE.no 0)) (aE.no 0))
 case slA=>exact aE.aJ λx=>aE.ej λb o=>aE.gO λm=>aE.gO λh=>aE.gO λl=>aE.aH (aE.aH (aE.aH (aE.av λd=>aE.aH (aE.ret _) (aE.av λo'=>aE.av λc'=>aE.ret _)) (aE.no 0)) (aE.no 0)) (aE.no 0)
 case gS=>exact aE.aJ λx=>aE.ej λb o=>aE.av λo'=>aE.ret _
 case MY=>exact aE.aJ λx=>aE.iT λl=>aE.nth λv=>aE.ret _
 case MZ=>exact aE.aJ λx=>aE.iT λl=>aE.fE λr=>aE.takeN λq=>aE.ret _
 case ixA=>exact aE.aJ λx=>aE.ej λb o=>aE.idx λn=>aE.av λo'=>aE.ret _
 case zC=>exact aE.aJ λx=>aE.lS λb o _ _ _=>aE.idx λn=>aE.av λo'=>aE.ret _
 case ixS=>exact aE.aJ λx=>aE.dZ λb o=>aE.idx λn=>aE.av λo'=>aE.ret _
 case ixG=>exact aE.aJ λx=>aE.iT λl=>aE.idx λn=>aE.aH (aE.fE λr=>aE.takeN λq=>aE.ret _) (aE.nth λv=>aE.ret _)
 case Sg=>exact aE.aJ λx=>aE.zK λl=>aE.nth λv=>aE.ret _
theorem tQ{c}{id}{ph}{e}(hp:bR c=true)(H H2)(k):aQ c id ph e H k=aQ c id ph e H2 λv _=>k v H:=by cases c<;>simp only[bR,YT]at hp<;>rfl
theorem x9{P}{nt}{o}{id}{ph}{e}{H}{k}(hph:jb P ph)(hp:bR (ai P nt o)=true)(h:aQ (ai P nt o) id ph e H k=1):∃v,(∀H2,eZ P nt o e H2 v H2)/\k v H=1:=by
 rcases TF (P:=P) (nt:=nt) hp H with⟨v,hv⟩|hv
 .have hv':∀k:V->R,(aQ (ai P nt o) id ph e H λv _=>k v)=k v:=hv;refine⟨v,λH2=>?_,?_⟩;.classical
   have h2:aQ (ai P nt o) id ph e H2 (λv' H'=>if v'=v/\H'=H2 then 1 else 0)=1:=by rw[tQ hp H2 H];simp_all
   obtain⟨v',H',h3,h4⟩:=er hph h2;simp_all
  .rw[tQ hp H H]at h;simp_all
 .rw[tQ hp H H]at h;simp_all
def gW(P:Program)(nt:Nat)(ops:Array Oper)(iso pur:Bool)(B:Option Nat)(o:Oper)(e:Env)(H:Heap)(v:V)(e':Env)(H':Heap):Prop:=∃d,rY nt o.dst=some d/\e'=dD d v e/\((GW nt e ops o false/\v=.cG []/\H'=H)\/(GW nt e ops o true/\pur=true/\H'=H/\∀H2:Heap,(∀b,B=some b->H2.get b=H.get b)->eZ P nt o e H2 v H2)\/(GW nt e ops o true/\pur=false/\iso=true/\eZ P nt o e H v H')\/(GW nt e ops o true/\pur=false/\iso=false/\∃H1 H1':Heap,H1.n=H.n/\(∀b,H1.get b=H.get b)/\H1.bF=H.n/\eZ P nt o e H1 v H1'/\H.n<=H1'.bF/\H'.n=H1'.n/\(∀b,H'.get b=H1'.get b)/\H'.bF=H.bF))
def qL(P:Program)(nt:Nat)(e:Env)(o:Oper)(H:Heap)(v:V)(H':Heap):Prop:=∃(bl:eB),v=.ptr H.n 0/\nZ H bl H'/\bl.alive/\bl≠.mark/\∀(m:M)(a:Act),OR m nt e a o->∃ob:Obj,(∀m,BR P m bl ob)/\∀(rd:Option Nat)(w:World),o.wpIn (WF rd) 0 P a w (λa' w'=>a'=a.put o.dst (.pointer (some ⟨w.heap.size,0,none⟩))/\w'=w.alloc ob) (λ_ _ _=>False)
theorem qL.ops{P:Program}{nt:Nat}{o:Oper}{e:Env}{H H':Heap}{v:V}(h:qL P nt e o H v H'):eZ P nt o e H v H':=λrd base w0 rho w a hp ho=>by obtain⟨bl,rfl,hN,ha,hm,hx⟩:=h;obtain⟨ob,hb,hx⟩:=hx _ a ho;refine kq (hx rd w) λa' w' hk=>?_;obtain⟨rfl,rfl⟩:=hk;obtain⟨p1,p2⟩:=hp.alloc (w':=w.alloc ob) (o:=ob) hN.n hN.bF hN.get hN.vQ ha ⟨rfl,rfl,rfl⟩ (by simp) (World.alloc_heap_new w _) (λj hj=>Below.heap_alloc _ _ _ hj) (hb _);exact⟨_,rfl,_,by simp only[VR];exact⟨_,rfl,by rw[hN.n];omega,λ_=>by simp⟩,p1,p2⟩
theorem UC{P}{op}{t}{c}{x y}:kW (jj P op t c x y)=false:=by unfold jj;(repeat' split)<;>rfl
theorem aai{k}{op}{x y}:kW (nG k op x y)=false:=by unfold nG;(repeat' split)<;>rfl
theorem aah{P}{op}{xt yt}{x y}:kW (pR P op xt yt x y)=false:=by unfold pR mc me;(repeat' split)<;>first|rfl|exact aai|exact UC
theorem UD{k k'}{x}:kW (tp k k' x)=false:=by unfold tp;(repeat' split)<;>rfl
theorem HD{P}{nt}{b}{asL}{ts}:kW (dh P nt b asL ts)=false:=by unfold dh;(repeat' split)<;>rfl
theorem acR{P}{nt}{o}{id}{ph}{e}{H}{k}(hal:kW (ai P nt o)=true)(h:aQ (ai P nt o) id ph e H k=1):∃v H',qL P nt e o H v H'/\k v H'=1:=by
 have hop:∃t,o.op=.alloc t:=by unfold ai at hal;split at hal<;>first|exact⟨_,by omega⟩|(revert hal;(repeat' split)<;>first|(rw[aah];simp)|(rw[UD];simp)|(rw[HD];simp)|simp[kW])
 obtain⟨t,hop⟩:=hop;simp only[ai,hop]at h;have hnd:∀c,o.op≠.defer c:=by simp[hop]
 have key:∀(z)(bl),qK P t=some z->rowOf bl=some z->(∀len n,bl=.bytes len n->n<256^len)->bl≠.mark->(cC H bl λn H=>k (.ptr n 0) H)=1->∃v H',qL P nt e o H v H'/\k v H'=1:=by
  intro z bl hz hrow hcan hmk h';obtain⟨H',h1,h2⟩:=dE h';obtain⟨i,zv,hi,hzv,hvr,hone⟩:=mL hz;refine⟨_,H',⟨bl,rfl,h2,(gI hrow).1,hmk,λm a _=>⟨.cells zv.cells t,λm=>lU hrow hcan (jz.exact (hvr _) hone),λrd w=>⟨iD P o a w rd,?_⟩⟩⟩,h1⟩;rw[semAt_eq hnd];have hex:(execOp a.eval o).run P w=.ok (.value (.pointer (some ⟨w.heap.size,0,none⟩))) (w.alloc (.cells zv.cells t)):=by simp[execOp,hop,Instr.alloc,zeroValue,typeInfo,hi,hzv,newVar,newRow]
  rw[hex];exact⟨rfl,rfl⟩
 split at h
 .rename_i z n el hz hu;split at h;.rename_i hc;simp only[Yu,beq_iff_eq]at hc;have hzz:=Lr hc.1;rw[hc.2]at hzz;exact key z (.bytes n 0) hz (by rw[hzz];rfl) (λlen m e=>by cases e;exact Nat.pow_pos (by omega)) (by simp) h
  .exact key z (.cells z) hz rfl (λlen m e=>by cases e) (by simp) h
 .exact key _ (.cells _) (by omega) rfl (λlen m e=>by cases e) (by simp) h
 .exact(aw h).elim
def pt{α:Type}(a:α)(f:Nat->α):Nat->α|0=>a|j+1=>f j
theorem Ar{P}{nt}{ph}{ops}{base}{pl al}{bf}(hph:jb P ph):∀(l)(i)(r)(e)(H)(k),du P nt base ops pl al bf l i=some r->cP ph r e H k=1->∃(E:Nat->Env)(Hh:Nat->Heap)(Vv:Nat->V),E 0=e/\Hh 0=H/\(∀j o,l[j]?=some o->gW P nt ops (dx pl al bf (i+j)) (bR (ai P nt o)) none o (E j) (Hh j) (Vv j) (E (j+1)) (Hh (j+1)))/\(∀j o,l[j]?=some o->kW (ai P nt o)=true->dx pl al bf (i+j)=false->(GW nt (E j) ops o false/\Vv j=.cG []/\Hh (j+1)=Hh j)\/qL P nt (E j) o (Hh j) (Vv j) (Hh (j+1)))/\k (E l.length) (Hh l.length)=1
 |[],i,r,e,H,k,hc,h=>by simp only[du,Option.some.injEq]at hc;subst hc;exact⟨λ_=>e,λ_=>H,λ_=>.py,rfl,rfl,λj o hj=>by simp at hj,λj o hj=>by simp at hj,h⟩|o::l,i,r,e,H,k,hc,h=>by
  simp only[du]at hc;split at hc
  .rename_i d g r' hd hg hr;cases hc;have fin:∀(v)(H1),gW P nt ops (dx pl al bf i) (bR (ai P nt o)) none o e H v (dD d v e) H1->(kW (ai P nt o)=true->dx pl al bf i=false->(GW nt e ops o false/\v=.cG []/\H1=H)\/qL P nt e o H v H1)->cP ph r' (dD d v e) H1 k=1->∃(E:Nat->Env)(Hh:Nat->Heap)(Vv:Nat->V),E 0=e/\Hh 0=H/\(∀j o',(o::l)[j]?=some o'->gW P nt ops (dx pl al bf (i+j)) (bR (ai P nt o')) none o' (E j) (Hh j) (Vv j) (E (j+1)) (Hh (j+1)))/\(∀j o',(o::l)[j]?=some o'->kW (ai P nt o')=true->dx pl al bf (i+j)=false->(GW nt (E j) ops o' false/\Vv j=.cG []/\Hh (j+1)=Hh j)\/qL P nt (E j) o' (Hh j) (Vv j) (Hh (j+1)))/\k (E (o::l).length) (Hh (o::l).length)=1:=λv H1 hs ha hev=>by
    obtain⟨E,Hh,Vv,h1,h2,h3,h5,h4⟩:=Ar hph l (i+1) r' _ _ k hr hev;refine⟨pt e E,pt H Hh,pt v Vv,rfl,rfl,λj o' hj=>?_,λj o' hj q1 q2=>?_,h4⟩;rotate_left;.cases j with|zero=>simp only[Wh,Option.some.injEq]at hj;subst hj;show(GW nt e ops o false/\v=.cG []/\Hh 0=H)\/qL P nt e o H v (Hh 0);rw[h2];exact ha q1 q2|succ j=>have:=h5 j o' (by simpa using hj) q1;rw[show i+1+j=i+(j+1)by omega]at this;exact this q2
    cases j with|zero=>simp only[Wh,Option.some.injEq]at hj;subst hj;show gW P nt ops (dx pl al bf (i+0)) _ none o e H v (E 0) (Hh 0);rw[h1,h2];omega|succ j=>have:=h3 j o' (by simpa using hj);rw[show i+1+j=i+(j+1)by omega]at this;exact this
   have h':uP g e (Nat.rec (aQ (ai P nt o) 0 ph e H λv H'=>cj d v e λe'=>cP ph r' e' H' k) (λ_ _=>Heap.rec (λn bF t=>aQ (ai P nt o) 0 ph e (.mk n n t) λv H'=>Heap.rec (λn' wlo' t'=>aH (Yb n wlo') (cj d v e λe'=>cP ph r' e' (.mk n' bF t') k) (no 0)) H') H) (if(bR (ai P nt o)||dx pl al bf i)=true then 0 else 1)) (cj d (.cG []) e λe'=>cP ph r' e' H k)=1:=h;rcases sK hg h' with⟨h1,h2⟩|⟨h1,h2⟩
   .by_cases hpu:bR (ai P nt o)=true;.rw[if_pos (by simp[hpu])]at h1;obtain⟨v,h3,h4⟩:=x9 hph hpu (show aQ (ai P nt o) 0 ph e H (λv H'=>cj d v e λe'=>cP ph r' e' H' k)=1from h1);have h4':=h4;rw[ck]at h4';exact fin v H ⟨d,hd,rfl,YE (YH ⟨h2,hpu,rfl,λH2 _=>h3 H2⟩)⟩ (λq=>absurd q (by cases hcc:ai P nt o<;>rw[hcc]at hpu<;>simp[kW,bR]at hpu⊢)) h4'
    .by_cases his:dx pl al bf i=true;.rw[if_pos (by simp[his])]at h1;obtain⟨v,H1,h3,h4⟩:=er hph (show aQ (ai P nt o) 0 ph e H (λv H'=>cj d v e λe'=>cP ph r' e' H' k)=1from h1);have h4':cj d v e (λe'=>cP ph r' e' H1 k)=1:=h4;rw[ck]at h4';exact fin v H1 ⟨d,hd,rfl,YE (YE (YH ⟨h2,by simpa using hpu,his,h3⟩))⟩ (λ_ q=>absurd (his.symm.trans q) (by simp)) h4'
     .rw[if_neg (by simp[hpu,his])]at h1;cases H with|mk n bF t=>
       have h1':aQ (ai P nt o) 0 ph e (.mk n n t) (λv H'=>Heap.rec (λn' wlo' t'=>aH (Yb n wlo') (cj d v e λe'=>cP ph r' e' (.mk n' bF t') k) (no 0)) H')=1:=h1;by_cases hal:kW (ai P nt o)=true;.obtain⟨v,H1,h3,h4⟩:=acR hal h1';cases H1 with|mk n' wlo' t'=>have h4':=h4;obtain⟨h5,h6⟩:=aU h4';rw[ck]at h6;obtain⟨bl,g1,g2,g3⟩:=h3;exact fin v (.mk n' bF t') ⟨d,hd,rfl,YE (YE (YE ⟨h2,by simpa using hpu,by simpa using his,.mk n n t,.mk n' wlo' t',rfl,λ_=>rfl,rfl,qL.ops ⟨bl,g1,g2,g3⟩,cB h5,rfl,λ_=>rfl,rfl⟩))⟩ (λ_ _=>YE ⟨bl,g1,⟨g2.n,rfl,g2.get,g2.vQ⟩,g3⟩) h6
       .obtain⟨v,H1,h3,h4⟩:=er hph h1';cases H1 with|mk n' wlo' t'=>have h4':=h4;obtain⟨h5,h6⟩:=aU h4';rw[ck]at h6;exact fin v (.mk n' bF t') ⟨d,hd,rfl,YE (YE (YE ⟨h2,by simpa using hpu,by simpa using his,.mk n n t,.mk n' wlo' t',rfl,λ_=>rfl,rfl,h3,cB h5,rfl,λ_=>rfl,rfl⟩))⟩ (λq=>absurd q hal) h6
   .rw[ck]at h1;exact fin _ H ⟨d,hd,rfl,YH ⟨h2,rfl,rfl⟩⟩ (λ_ _=>YH ⟨h2,rfl,rfl⟩) h1
  .cases hc
section
variable{ops:Array Oper}
def dq(acc:Array Nat)(o:Oper):Array Nat:=acc.push (o.after.foldl (λs e=>if Region.binds .any e then s|||2^e.on|||acc.getD e.on 0 else s) 0)
theorem Ak(acc:Array Nat)(i):∀(l:List Edge)(s),(l.foldl (λs e=>if Region.binds .any e then s|||2^e.on|||acc.getD e.on 0 else s) s).testBit i=true->s.testBit i=true\/∃e∈l,Region.binds .any e=true/\(i=e.on\/(acc.getD e.on 0).testBit i=true)
 |[],s,h=>YH h|e::l,s,h=>by
  rw[QX]at h;rcases Ak acc i l _ h with h|⟨e',h1,h2⟩
  .split at h
   .rw[YM0,YM0,QY,QY]at h;rcases h with(h|h)|h;.simp_all
    .rw[Nat.testBit_two_pow]at h;simp_all
    simp_all
   simp_all
  .exact YE ⟨e',YI _ h1,h2⟩
theorem ou:∀(l:List Oper)(acc),(l.foldl dq acc).size=acc.size+l.length/\∀j,j<acc.size->(l.foldl dq acc)[j]?=acc[j]?
 |[],acc=>⟨rfl,λ_ _=>rfl⟩|o::l,acc=>by
  obtain⟨h1,h2⟩:=ou l (dq acc o);have hs:(dq acc o).size=acc.size+1:=by simp[dq]
  rw[QX];refine⟨by simp;omega,λj hj=>?_⟩;rw[h2 j (by omega)];unfold dq;rw[QR,if_neg (by omega)]
theorem l7:∀(l:List Oper)(acc)(j i)(o),l[j]?=some o->((l.foldl dq acc).getD (acc.size+j) 0).testBit i=true->∃e∈o.after.toList,Region.binds .any e=true/\(i=e.on\/(e.on<acc.size+j/\((l.foldl dq acc).getD e.on 0).testBit i=true))
 |[],acc,j,i,o,hj,_=>by simp_all|o'::l,acc,0,i,o,hj,h=>by
  simp only[Wh,Option.some.injEq]at hj;subst hj;rw[QX]at h⊢;obtain⟨h1,h2⟩:=ou l (dq acc o');have hs:(dq acc o').size=acc.size+1:=by simp[dq]
  have hg:(l.foldl dq (dq acc o'))[acc.size]?=(dq acc o')[acc.size]?:=h2 _ (by omega);have hv:(dq acc o')[acc.size]?=some (o'.after.foldl (λs e=>if Region.binds .any e then s|||2^e.on|||acc.getD e.on 0 else s) 0):=by simp[dq]
  rw[Nat.add_zero,Yn,hg,hv,YU,<-YC3]at h;rcases Ak acc i _ _ h with h|⟨e,h3,h4,h5⟩;.simp_all
  .refine⟨e,h3,h4,h5.imp id λh6=>?_⟩;have hlt:e.on<acc.size:=by
    rcases Yf e.on acc.size with h|h;.omega
    simp_all
   refine⟨by omega,?_⟩;rw[Yn,h2 _ (by omega)];unfold dq;rw[QR,if_neg (by omega),<-Yn];omega|o'::l,acc,j+1,i,o,hj,h=>by
  have hs:(dq acc o').size=acc.size+1:=by simp[dq]
  have:=l7 l (dq acc o') j i o (by simp_all);rw[hs,show acc.size+1+j=acc.size+(j+1)by omega]at this;simp_all
theorem L5:Region.before ops=ops.toList.foldl dq #[]:=by unfold Region.before;rw[<-YC3];rfl
theorem ue{j i}(h:((Region.before ops).getD j 0).testBit i=true):∃o,ops[j]?=some o/\∃e∈o.after.toList,Region.binds .any e=true/\(i=e.on\/(e.on<j/\((Region.before ops).getD e.on 0).testBit i=true)):=by
 rw[L5]at h⊢;obtain⟨h1,_⟩:=ou ops.toList #[];have hj:j<ops.toList.length:=by
  rcases Yf j (ops.toList.foldl dq #[]).size with h2|h2;.simp_all
  simp_all
 have ho:=List.getElem?_eq_getElem hj;refine⟨_,by rw[<-Yr];omega,?_⟩;have:=l7 ops.toList #[] j i _ ho;simp_all
def Dg(ops:Array Oper):Prop:=∀j o,ops[j]?=some o->∀e∈o.after.toList,Region.binds .any e=true->e.on<j
theorem rZ(h:lx ops=true):Dg ops:=λj o hj e he hb=>by unfold lx at h;rw[WL]at h;have h1:=h (o,j) (WS.2 (by simp_all));rw[WL]at h1;have h2:=h1 e (by simp_all);simp_all
theorem gD(hE:Dg ops):∀(j i),((Region.before ops).getD j 0).testBit i=true->i<j:=by intro j;induction j using YC2 with|_ j ih=>
  intro i h;obtain⟨o,h1,e,h2,h3,h4⟩:=ue h;have h5:=hE j o h1 e h2 h3;rcases h4 with rfl|⟨_,h6⟩;.omega
  .have:=ih e.on h5 i h6;omega
def dL(listed:Array Bool)(i:Nat):Prop:=listed.getD i false=true
def sV(ops:Array Oper)(listed:Array Bool):Prop:=∀j,dL listed j->∀o,ops[j]?=some o->∀e∈o.after.toList,Region.binds .any e=true->dL listed e.on
theorem ef{listed}(hE:Dg ops)(hC:sV ops listed):∀(j i),(dL listed j\/∀o,ops[j]?=some o->∀e∈o.after.toList,Region.binds .any e=true->dL listed e.on)->((Region.before ops).getD j 0).testBit i=true->dL listed i:=by intro j;induction j using YC2 with|_ j ih=>
  intro i hj h;obtain⟨o,h1,e,h2,h3,h4⟩:=ue h;have h5:=hj.elim (λhb=>hC j hb o h1 e h2 h3) λhr=>hr o h1 e h2 h3;rcases h4 with rfl|⟨h6,h7⟩;.omega
  .exact ih e.on h6 i (YH h5) h7
theorem dc{listed}{i}(hi:i<listed.size){j}:dL (listed.setIfInBounds i true) j↔j=i\/dL listed j:=by
 unfold dL;simp only[Yn];by_cases h:i=j;.simp_all
 .rw[Array.getElem?_setIfInBounds_ne h];simp[Ne.symm h]
theorem Ds{bf}(h:jP ops bf=true){i j}{oi oj}(hi:ops[i]?=some oi)(hj:ops[j]?=some oj)(hne:i≠j){d}(hd:oi.dst=some d)(hm:d∈vP ops oj):if i<j then(bf.getD j 0).testBit i=true else(bf.getD i 0).testBit j=true:=by unfold jP at h;rw[WL]at h;have h1:=h (oi,i) (WS.2 (by simp_all));rw[WL]at h1;have h2:=h1 (oj,j) (WS.2 (by simp_all));simp_all
end
def jG(D:Nat->Option Slot)(Vv:Nat->V)(e0:Env)(S:Nat->Bool):Nat->Env|0=>e0|k+1=>if S k then dD (D k) (Vv k) (jG D Vv e0 S k)else jG D Vv e0 S k
theorem fF{s}{d}{v}{e}:af s (dD d v e)=if d=some s then v else af s e:=by cases d with|none=>rfl|some d=>
  show af s (kY d v e)=_;rw[fk];by_cases h:s=d;.simp_all
  .rw[if_neg h,if_neg (by simp;exactλe=>h e.symm)]
theorem KN{D}{Vv}{E:Nat->Env}{S}{n i}(hi:i<=n)(hE:∀k,k<n->E (k+1)=dD (D k) (Vv k) (E k)){s}(h:∀k,k<n->D k=some s->(S k=true↔k<i)):af s (jG D Vv (E 0) S n)=af s (E i):=by
 have h1:∀m,m<=i->af s (jG D Vv (E 0) S m)=af s (E m):=by intro m;induction m with|zero=>intro _;rfl|succ m ih=>
   intro hm;rw[hE m (by omega),fF];simp only[jG];by_cases hd:D m=some s;.rw[if_pos hd,if_pos ((h m (by omega) hd).2 (by omega)),fF,if_pos hd]
   .split;.rw[fF,if_neg hd];exact ih (by omega)
    .exact ih (by omega)
 have h2:∀m,i<=m->m<=n->af s (jG D Vv (E 0) S m)=af s (E i):=by intro m;induction m with|zero=>simp_all|succ m ih=>
   intro h3 h4;by_cases h5:i=m+1;.simp_all
   .simp only[jG];split
    .rename_i hs;rw[fF];by_cases hd:D m=some s;.have:=(h m (by omega) hd).1 hs;omega
     .rw[if_neg hd];exact ih (by omega) (by omega)
    .exact ih (by omega) (by omega)
 simp_all
theorem RY{D}{Vv}{e0}{S S'}{n i}(hi:i<n)(h0:S i=false)(h1:∀k,S' k=true↔k=i\/S k=true)(h:∀k,k<n->i<k->S k=true->∀s,D k=some s->D i≠some s)(s):af s (jG D Vv e0 S' n)=af s (dD (D i) (Vv i) (jG D Vv e0 S n)):=by
 have hS:∀k,k≠i->S' k=S k:=λk hk=>by have:=h1 k;cases h2:S k<;>cases h3:S' k<;>simp[h2,h3,hk]at this⊢
 have g1:∀m,m<=i->jG D Vv e0 S' m=jG D Vv e0 S m:=by intro m;induction m with|zero=>intro _;rfl|succ m ih=>intro hm;simp only[jG,hS m (by omega),ih (by omega)]
 have g2:∀m,i<m->m<=n->af s (jG D Vv e0 S' m)=af s (dD (D i) (Vv i) (jG D Vv e0 S m)):=by intro m;induction m with|zero=>simp|succ m ih=>
   intro h3 h4;by_cases h5:m=i;.subst h5;have hs:=(h1 m).2 (YH rfl);simp only[jG,hs,if_true,h0,YT,if_false,g1 m (YC _)]
   .have ih:=ih (by omega) (by omega);simp only[jG,hS m h5];split
    .rename_i hs;rw[fF,ih,fF,fF,fF];by_cases hd:D m=some s;.rw[if_pos hd,if_neg (h m (by omega) (by omega) hs s hd),if_pos hd]
     simp_all
    omega
 simp_all
theorem Aq{D}{Vv}{e0}{S}(h:∀k,S k=false):∀n,jG D Vv e0 S n=e0|0=>rfl|n+1=>by simp only[jG,h,YT,if_false];exact Aq h n
def bh{α:Type}(Q:α->Prop)(f:(α->R)->R):Prop:=(∃a,Q a/\∀k,f k=k a)\/∀k,f k≠1
section
variable{α β:Type}{id:Nat}{Q:α->Prop}
theorem bh.ret{a:α}(h:Q a):bh Q λk=>k a:=YH ⟨a,h,λ_=>rfl⟩
theorem bh.no(c:Nat):bh Q λ_:α->R=>no c:=YE λk h=>aw h
theorem bh.bind{f:(β->R)->R}{g:β->(α->R)->R}(h:aE f)(hg:∀b,bh Q (g b)):bh Q λk=>f λb=>g b k:=by
 rcases h with⟨b,hb⟩|h
 .rcases hg b with⟨a,hq,ha⟩|h;.exact YH ⟨a,hq,λk=>(hb _).trans (ha k)⟩
  .exact YE λk=>by show f _≠1;rw[hb];exact h k
 .exact YE λk=>h _
theorem bh.l9{S:β->Prop}{f:(β->R)->R}{g:β->(α->R)->R}(h:bh S f)(hg:∀b,S b->bh Q (g b)):bh Q λk=>f λb=>g b k:=by
 rcases h with⟨b,hs,hb⟩|h
 .rcases hg b hs with⟨a,hq,ha⟩|h;.exact YH ⟨a,hq,λk=>(hb _).trans (ha k)⟩
  .exact YE λk=>by show f _≠1;rw[hb];exact h k
 .exact YE λk=>h _
theorem bh.aH{b:Bool}{f g:(α->R)->R}(hf:bh Q f)(hg:bh Q g):bh Q λk=>Ev.aH b (f k) (g k):=by
 cases b;.exact hg
 .exact hf
theorem bh.aJ{a:Arg}{e:Env}{g:V->(α->R)->R}(hg:bh Q (g (aA a e))):bh Q λk=>Ev.aJ a e λb=>g b k:=by simp only[aq];exact hg
theorem bh.av{n:Nat}{g:Nat->(α->R)->R}(hg:∀b,bh Q (g b)):bh Q λk=>Ev.av n λb=>g b k:=by simp only[ax];exact hg _
theorem bh.get{f:(α->R)->R}(h:bh Q f){k:α->R}(h1:f k=1):∃a,Q a/\k a=1/\∀k',f k'=k' a:=by
 rcases h with⟨a,hq,ha⟩|h;.exact⟨a,hq,(ha k).symm.trans h1,ha⟩
 .exact absurd h1 (h k)
end
def Fr(ob:Option Nat)(H H':Heap):Prop:=∀b,b<H.n->ob≠some b->H'.get b=H.get b
theorem Ss(x):∀(t:HT)(k),bh (λt':HT=>t'.get k=x/\∀j,j≠k->t'.get j=t.get j) (λc=>t.set x k c):=by
 intro t k;by_cases h:∃c:HT->R,t.set x k c=1
 .obtain⟨c,h⟩:=h;have key:∀(t:HT)(k)(c),t.set x k c=1->∃t',∀c',t.set x k c'=c' t':=by intro t;induction t with
   |e=>intro k c h;cases k with|zero=>exact⟨_,λc'=>rfl⟩|succ k=>exact(aw h).elim
   |n u l r ihl ihr=>intro k c h;cases k with|zero=>exact⟨_,λc'=>rfl⟩|succ k=>
     have e:∀c',HT.set x (.n u l r) (k+1) c'=Nat.rec (l.set x (k/2) λl'=>c' (.n u l' r)) (λ_ _=>r.set x (k/2) λr'=>c' (.n u l r')) (k%2):=λc'=>rfl;rw[e]at h;rcases(by omega:k%2=0\/k%2=1)with hk|hk;.rw[hk]at h;obtain⟨t',ht⟩:=ihl _ _ h;exact⟨_,λc'=>by rw[e,hk];exact ht _⟩
     .rw[hk]at h;obtain⟨t',ht⟩:=ihr _ _ h;exact⟨_,λc'=>by rw[e,hk];exact ht _⟩
  obtain⟨t',ht⟩:=key t k c h;obtain⟨t2,_,h3,h4⟩:=HT.JG t k (λq=>open Classical in if q=t' then 1 else 0) (by rw[ht];simp);have:t2=t':=by simp_all
  subst this;exact YH ⟨t2,⟨h3,h4⟩,ht⟩
 .exact YE λc hc=>h ⟨c,hc⟩
theorem sE{id}(H)(b)(x):bh (λH'=>Fr (some b) H H'/\H'.n=H.n) (λk=>cZ id H b x k):=by cases H with|mk n bF t=>
  refine bh.aH (bh.l9 (Ss x t b) λt' ht=>?_) (bh.no 0);refine bh.aH (bh.ret ⟨λb' hb hne=>?_,rfl⟩) (bh.ret ⟨λb' hb hne=>?_,rfl⟩);.exact ht.2 b' λh=>hne (by rw[h])
  .exact ht.2 b' λh=>hne (by rw[h])
theorem mE(H)(x):bh (λp:Nat×Heap=>Fr none H p.2/\H.n<=p.2.n) (λk=>cC H x λn H'=>k (n,H')):=by cases H with|mk n bF t=>refine bh.l9 (Ss x t n) λt' ht=>?_;refine bh.ret ⟨λb hb _=>ht.2 b ?_,Nat.le_succ n⟩;have:b<n:=hb;omega
theorem Fr.trans{ob:Option Nat}{H H1 H2:Heap}(h:Fr ob H H1)(k:Fr none H1 H2)(hn:H.n<=H1.n):Fr ob H H2:=λb hb hne=>(k b (YF hb hn) (by simp)).trans (h b hb hne)
theorem Fr.any{ob:Option Nat}{H H1:Heap}(h:Fr none H H1):Fr ob H H1:=λb hb _=>h b hb (by simp)
section
variable{id:Nat}{α:Type}
theorem yj(l):(∀k,bA id l k=k)\/∀k,bA id l k≠1:=by induction l with|nil=>exact YH λk=>rfl|cons v l ih=>
  have e:∀k,bA id (v::l) k=dV id v (bA id l k):=λ_=>rfl;rcases ih with ih|ih;.cases v<;>first|exact YH λk=>by exact ih k|exact YE λk h=>aw h
  .refine YE λk h=>?_;rw[e]at h;exact ih k (xy h).2
theorem bh.bA{Q:α->Prop}{l:List V}{f:(α->R)->R}(hf:bh Q f):bh Q λk=>Ev.bA id l (f k):=by
 rcases yj (id:=id) l with h|h;.simp only[h];exact hf
 .exact YE λk=>h _
theorem A6(v):(∀k,dV id v k=k)\/∀k,dV id v k≠1:=by cases v<;>first|exact YH λk=>rfl|exact YE λk h=>aw h
theorem bh.dV{Q:α->Prop}{v:V}{f:(α->R)->R}(hf:bh Q f):bh Q λk=>Ev.dV id v (f k):=by
 rcases A6 (id:=id) v with h|h;.simp only[h];exact hf
 .exact YE λk=>h _
theorem tU:∀(l),aE (λk:Nat×Nat->R=>iB id l λa b=>k (a,b))|[]=>YH ⟨(0,0),λ_=>rfl⟩|v::l=>by have e:∀k:Nat×Nat->R,(iB id (v::l) λa b=>k (a,b))=cD id v λkd x=>Ev.aH (Nat.beq kd 4) (iB id l λlen n=>Ev.av (Yg x (Ym 256 n)) λn'=>Ev.av (Nat.succ len) λlen'=>k (len',n')) (no 0):=λ_=>rfl;simp only[e];refine aE.cD λkd x=>aE.aH ?_ (aE.no 0);exact aE.bind (g:=λp k=>Ev.av (Yg x (Ym 256 p.2)) λn'=>Ev.av (Nat.succ p.1) λlen'=>k (len',n')) (tU l) λp=>aE.av λn'=>aE.av λlen'=>aE.ret _
theorem CE{Q}{bl}{kc:List V->(α->R)->R}{kb:Nat->Nat->(α->R)->R}(h1:∀l,bh Q (kc l))(h2:∀a b,bh Q (kb a b)):bh Q λk=>uc id bl (λl=>kc l k) (λa b=>kb a b k):=by cases bl<;>first|exact h1 _|exact h2 _ _|exact YE λk h=>aw h
theorem Gs{bl}{kc:List V->(α->R)->R}{kb:Nat->Nat->(α->R)->R}(h1:∀l,aE (kc l))(h2:∀a b,aE (kb a b)):aE λk=>uc id bl (λl=>kc l k) (λa b=>kb a b k):=by cases bl<;>first|exact h1 _|exact h2 _ _|exact YE λk h=>aw h
theorem ry(H)(b off)(m):bh (λH'=>Fr (some b) H H'/\H'.n=H.n) (λk=>dS id H b off m k):=by
 unfold dS;simp only[aW];refine CE (λl=>?_) (λlen x=>?_);.exact bh.bA (bh.bind (tV l off) λl'=>sE H b _)
 .exact bh.bind (g:=λp k=>Ev.aH (Yb (Yg off p.1) len) (Ev.av (Yg (Nat.mod x (Nat.pow 256 off)) (Yt (Yg p.2 (Yt (Nat.shiftRight x (Ym 8 (Yg off p.1))) (Ym 8 p.1))) (Ym 8 off))) λx'=>cZ id H b (.bytes len x') k) (no 0)) (tU m) λp=>bh.aH (bh.av λx'=>sE H b _) (bh.no 0)
theorem pG(len):∀n,aE (qk len n):=λn=>YH ⟨_,λk=>iS len n k⟩
theorem NY(H)(b off n):aE (eL id H b off n):=by
 unfold eL;simp only[aW];refine Gs (λl=>?_) (λlen x=>?_);.exact aE.bind (kh l off) λr=>kj r n
 .exact aE.aH (pG n _) (aE.no 0)
theorem JB{v}{f:(α->R)->R}(hf:aE f):aE λk=>Ev.dV id v (f k):=by
 rcases A6 (id:=id) v with h|h;.simp_all
 .exact YE λk=>h _
theorem Gq{l}{f:(α->R)->R}(hf:aE f):aE λk=>Ev.bA id l (f k):=by
 rcases yj (id:=id) l with h|h;.simp_all
 .exact YE λk=>h _
theorem Gt{bl}{kc:List V->(α->R)->R}{kb:Nat->Nat->(α->R)->R}{kv:List V->(α->R)->R}(h1:∀l,aE (kc l))(h2:∀a b,aE (kb a b))(h3:∀l,aE (kv l)):aE λk=>bRd id bl (λl=>kc l k) (λa b=>kb a b k) (λl=>kv l k):=by cases bl<;>first|exact h1 _|exact h2 _ _|exact h3 _|exact YE λk h=>aw h
theorem Xl(H)(b off):aE (Lc id H b off):=by
 unfold Lc;simp only[aW];refine Gt (λl=>vU l off) (λlen n=>?_) (λl=>?_);.exact aE.aH (aE.av λx=>aE.ret _) (aE.no 0)
 .exact aE.bind (vU l off) λv=>JB (aE.ret _)
theorem Lf(H)(b off n):aE (FP id H b off n):=by
 unfold FP;simp only[aW];refine Gt (λl=>?_) (λlen x=>?_) (λl=>?_);.exact aE.bind (kh l off) λr=>kj r n
 .exact aE.aH (pG n _) (aE.no 0)
 .exact aE.bind (kh l off) λr=>aE.bind (kj r n) λq=>Gq (aE.ret _)
theorem A7(H)(b off n):aE (mv id H b off n):=by
 unfold mv;simp only[aW];refine Gs (λl=>?_) (λlen x=>?_);.exact aE.bind (kh l off) λr=>aE.bind (kj r n) λq=>aE.bind (g:=λp k=>k p.2) (tU q) λp=>aE.ret _
 .exact aE.aH (aE.av λx=>aE.ret _) (aE.no 0)
theorem CJ(size)(H)(x):aE (λk:Nat×List V->R=>cX id size H x λn l=>k (n,l)):=by
 cases x<;>first|exact YE λk h=>aw h|exact YH ⟨_,λk=>rfl⟩|skip
 .rename_i l n;exact aE.aH (aE.bind (pG l n) λm=>aE.ret _) (aE.no 0)
 .rename_i b o l c s;cases l with|zero=>exact YH ⟨_,λk=>rfl⟩|succ l=>exact aE.bind (Lf H b o _) λm=>aE.ret _
theorem CG(H)(x):aE (λk:Nat×Nat->R=>xQ id H x λn l=>k (n,l)):=by
 cases x<;>first|exact YE λk h=>aw h|exact YH ⟨_,λk=>rfl⟩|skip
 rename_i b o l c s;exact aE.bind (A7 H b o _) λm=>aE.ret _
def qy:V->Option Nat|.ptr b _=>some b|.slice b _ _ _ _=>some b|_=>none
def Uo(ob:Option Nat)(H:Heap)(p:V×Heap):Prop:=Fr ob H p.2
theorem TD{size n b o len cp sz}{new}{H}:bh (Uo (some b) H) (λk:V×Heap->R=>rM id size n new b o len cp sz H λv H'=>k (v,H')):=by refine bh.bA (bh.av λneed=>bh.aH ?_ (bh.no 0));cases cp with|zero=>refine bh.aH (bh.aH ?_ (bh.no 0)) (bh.no 0);simp only[aW,fu];refine CE (λl=>?_) (λ_ _=>bh.no 0);refine bh.aH (bh.l9 (sE H b .dead) λH1 h1=>?_) (bh.no 0);exact bh.l9 (f:=λk=>cC H1 (.cells (l++new)) λn H'=>k (n,H')) (g:=λp(k:V×Heap->R)=>k (V.slice p.1 0 need 0 size,p.2)) (mE H1 _) λp hp=>bh.ret (h1.1.trans hp.1 (by omega))|succ q=>
  refine bh.aH ?_ ?_;.exact bh.l9 (ry H b _ new) λH1 h1=>bh.ret h1.1
  .refine bh.bind (NY H b o _) λl=>bh.bA ?_;simp only[fu];exact bh.l9 (f:=λk=>cC H (.cells (l++new)) λn H'=>k (n,H')) (g:=λp(k:V×Heap->R)=>k (V.slice p.1 0 need 0 size,p.2)) (mE H _) λp hp=>bh.ret hp.1.any
theorem TC{n new b o len cp sz}{H}:bh (Uo (some b) H) (λk:V×Heap->R=>L2 id n new b o len cp sz H λv H'=>k (v,H')):=by refine bh.av λneed=>bh.aH ?_ (bh.no 0);cases cp with|zero=>refine bh.aH (bh.aH ?_ (bh.no 0)) (bh.no 0);simp only[aW];refine CE (λ_=>bh.no 0) (λln m=>?_);refine bh.aH (bh.av λm'=>?_) (bh.no 0);refine bh.l9 (sE H b .dead) λH1 h1=>?_;exact bh.l9 (f:=λk=>cC H1 (.bytes need m') λn H'=>k (n,H')) (g:=λp(k:V×Heap->R)=>k (V.slice p.1 0 need 0 1,p.2)) (mE H1 _) λp hp=>bh.ret (h1.1.trans hp.1 (by omega))|succ q=>refine bh.aH (bh.no 0) ?_;refine bh.bind (A7 H b o _) λm=>bh.av λm'=>?_;exact bh.l9 (f:=λk=>cC H (.bytes need m') λn H'=>k (n,H')) (g:=λp(k:V×Heap->R)=>k (V.slice p.1 0 need 0 1,p.2)) (mE H _) λp hp=>bh.ret hp.1.any
theorem TO{c}(hc:B3 c=true){ph}{e}{H}:bh (Uo (qy (aA (qN c) e)) H) (λk:V×Heap->R=>aQ c id ph e H λv H'=>k (v,H')):=by
 cases c<;>simp only[B3,YT]at hc
 .rename_i a x;show bh (Uo (qy (aA a e)) H) (λk=>vE a x id ph e H λv H'=>k (v,H'));refine bh.aJ ?_;cases aA a e<;>first|exact YE λk h=>aw h|skip
  rename_i b o;refine bh.aJ (bh.dV ?_);exact bh.l9 (ry H b o _) λH1 h1=>bh.ret h1.1
 .rename_i n a x;show bh (Uo (qy (aA a e)) H) (λk=>vF n a x id ph e H λv H'=>k (v,H'));refine bh.aJ ?_;cases aA a e<;>first|exact YE λk h=>aw h|skip
  rename_i b o;refine bh.aJ ?_;cases aA x e<;>first|exact YE λk h=>aw h|skip
  refine bh.aH ?_ (bh.no 0);exact bh.l9 (ry H b o _) λH1 h1=>bh.ret h1.1
 .rename_i u size s x;have key:∀(f:Nat->Nat->Nat->Nat->Nat->Nat->(V×Heap->R)->R)(z:Nat->(V×Heap->R)->R)(n),(∀b o len cp sz,bh (Uo (some b) H) (f n b o len cp sz))->(bh (Uo none H) (z n))->bh (Uo (qy (aA s e)) H) (λk=>bD id (aA s e) (λb o len cp sz=>Nat.rec (k (aA s e,H)) (λ_ _=>f n b o len cp sz k) n) (Nat.rec (k (aA s e,H)) (λ_ _=>z n k) n)):=λf z n hf hz=>by
   cases hs:aA s e<;>first|exact YE λk h=>aw h|skip
   .rename_i b o len cp sz;cases n with|zero=>exact bh.ret λ_ _ _=>rfl|succ n=>exact hf b o len cp sz
   .cases n with|zero=>exact bh.ret λ_ _ _=>rfl|succ n=>exact hz
  cases u with|true=>show bh (Uo (qy (aA s e)) H) (λk=>KK s x id e H λv H'=>k (v,H'));refine bh.aJ (bh.aJ ?_);refine bh.bind (g:=λp(k:V×Heap->R)=>bD id (aA s e) (λb o len cp sz=>Nat.rec (k (aA s e,H)) (λ_ _=>L2 id p.1 p.2 b o len cp sz H λv H'=>k (v,H')) p.1) (Nat.rec (k (aA s e,H)) (λ_ _=>Ev.aH (Yb p.1 1073741824) (cC H (.bytes p.1 p.2) λb' H=>k (V.slice b' 0 p.1 0 1,H)) (no 0)) p.1)) (CG H _) λp=>?_;refine key (λn b o len cp sz k=>L2 id n p.2 b o len cp sz H λv H'=>k (v,H')) (λn k=>Ev.aH (Yb n 1073741824) (cC H (.bytes n p.2) λb' H=>k (V.slice b' 0 n 0 1,H)) (no 0)) p.1 (λb o len cp sz=>TC) ?_;refine bh.aH ?_ (bh.no 0);exact bh.l9 (f:=λk=>cC H (.bytes p.1 p.2) λn H'=>k (n,H')) (g:=λq(k:V×Heap->R)=>k (V.slice q.1 0 p.1 0 1,q.2)) (mE H _) λq hq=>bh.ret hq.1|false=>show bh (Uo (qy (aA s e)) H) (λk=>KL size s x id e H λv H'=>k (v,H'));refine bh.aJ (bh.aJ ?_);refine bh.bind (g:=λp(k:V×Heap->R)=>bD id (aA s e) (λb o len cp sz=>Nat.rec (k (aA s e,H)) (λ_ _=>rM id size p.1 p.2 b o len cp sz H λv H'=>k (v,H')) p.1) (Nat.rec (k (aA s e,H)) (λ_ _=>Ev.bA id p.2 (Ev.aH (Yb p.1 1073741824) (cC H (.cells p.2) λb' H=>k (V.slice b' 0 p.1 0 size,H)) (no 0))) p.1)) (CJ size H _) λp=>?_;refine key (λn b o len cp sz k=>rM id size n p.2 b o len cp sz H λv H'=>k (v,H')) (λn k=>Ev.bA id p.2 (Ev.aH (Yb n 1073741824) (cC H (.cells p.2) λb' H=>k (V.slice b' 0 n 0 size,H)) (no 0))) p.1 (λb o len cp sz=>TD) ?_;refine bh.bA (bh.aH ?_ (bh.no 0));exact bh.l9 (f:=λk=>cC H (.cells p.2) λn H'=>k (n,H')) (g:=λq(k:V×Heap->R)=>k (V.slice q.1 0 p.1 0 size,q.2)) (mE H _) λq hq=>bh.ret hq.1
end
theorem rL{id}{x}{f}(h:nE id x f=1):f (qy x)=1:=by cases x<;>first|exact(aw h).elim|exact h
theorem tc{id bf b}:∀{l}{k},dM id bf b l k=1->(∀p∈l,bf.testBit p.1=false->b≠p.2)/\k=1
 |[],k,h=>⟨λp hp=>(by cases hp),h⟩|(i,c)::l,k,h=>by
  have h2:(Nat.testBit bf i=true\/b≠c)/\dM id bf b l k=1:=by
   rcases bV (show aH (Nat.testBit bf i) (dM id bf b l k) (aH (Nat.beq b c) (no 0) (dM id bf b l k))=1from h)with⟨h3,h4⟩|⟨h3,h4⟩;.simp_all
   .rcases bV h4 with⟨_,h6⟩|⟨h5,h6⟩;.exact(aw h6).elim
    .refine⟨YE λe=>?_,h6⟩;simp_all
  obtain⟨h3,h4⟩:=tc h2.2;refine⟨λp hp=>?_,h4⟩;rcases YS.1 hp with rfl|hp;.intro hb;simp_all
  .exact h3 p hp
theorem abF{id b off}{H H2}(h:H2.get b=H.get b)(k):Lc id H2 b off k=Lc id H b off k:=by unfold Lc;rw[aW,aW,h]
theorem abI{id b off n}{H H2}(h:H2.get b=H.get b)(k):FP id H2 b off n k=FP id H b off n k:=by unfold FP;rw[aW,aW,h]
theorem Sw{c}(hc:EW c=true){id}{ph}{e}{H}{k}{b}(hb:qy (aA (qN c) e)=some b)(h:aQ c id ph e H k=1):∃v,k v H=1/\∀H2:Heap,H2.get b=H.get b->∀k2:K,aQ c id ph e H2 k2=k2 v H2:=by
 cases c<;>simp only[EW,YT]at hc
 .rename_i a;have e1:∀(H2)(k2),aQ (.cR a) id ph e H2 k2=ej id (aA a e) λb o=>Lc id H2 b o λv=>k2 v H2:=λH2 k2=>by show qT a id ph e H2 k2=_;unfold qT;rw[aq]
  rw[e1]at h;obtain⟨b',off,hx,h1⟩:=fP h;have hbb:=by have hb':qy (aA a e)=some b:=hb;rw[hx]at hb';simpa[qy]using hb'
  subst hbb;rcases Xl (id:=id) H b' off with⟨v,hv⟩|hv;.refine⟨v,by simp_all,λH2 h2 k2=>?_⟩;rw[e1,hx];show Lc id H2 b' off (λv=>k2 v H2)=_;rw[abF h2,hv]
  simp_all
 .rename_i n a;have e1:∀(H2)(k2),aQ (.cJ n a) id ph e H2 k2=ej id (aA a e) λb o=>FP id H2 b o n λl=>k2 (.agg l) H2:=λH2 k2=>by show qU n a id ph e H2 k2=_;unfold qU;rw[aq]
  rw[e1]at h;obtain⟨b',off,hx,h1⟩:=fP h;have hbb:=by have hb':qy (aA a e)=some b:=hb;rw[hx]at hb';simpa[qy]using hb'
  subst hbb;rcases Lf (id:=id) H b' off n with⟨l,hv⟩|hv;.refine⟨.agg l,by simp_all,λH2 h2 k2=>?_⟩;rw[e1,hx];show FP id H2 b' off n (λl=>k2 (.agg l) H2)=_;rw[abI h2,hv]
  simp_all
theorem EZ{l}{bf}{i j}(h:ie l bf i=true)(hj:l[j]?=some false)(hne:i≠j):jI bf i j=true:=by
 unfold ie at h;rw[WL]at h;have:=h (false,j) (WS.2 hj);simp only[YB3,QY,beq_iff_eq]at this;unfold jI;rcases this with(h1|h1)|h1;.omega
 .simp_all
 simp_all
theorem NC(bf)(i j):jI bf i j=jI bf j i:=by unfold jI;rw[Bool.or_comm]
def kO(cs:List lk)(bf:Array Nat)(x:Nat):Bool:=bR (cs.getD x .bad)||qY cs bf x
theorem O9{P}{op}{t}{c}{x y}:qE (jj P op t c x y)=false:=by unfold jj;(repeat' split)<;>rfl
theorem UB{k}{op}{x y}:qE (nG k op x y)=false:=by unfold nG;(repeat' split)<;>rfl
theorem UA{P}{op}{xt yt}{x y}:qE (pR P op xt yt x y)=false:=by unfold pR mc me;(repeat' split)<;>first|rfl|exact UB|exact O9
theorem Pe{k k'}{x}:qE (tp k k' x)=false:=by unfold tp;(repeat' split)<;>rfl
theorem Dq{P}{nt}{b}{asL}{ts}:qE (dh P nt b asL ts)=false:=by unfold dh;(repeat' split)<;>rfl
theorem Ow{m m'}{v}{cv}(hk:Kd v v)(h:VR m v cv):VR m' v cv:=by
 rcases hk with⟨k,a,b,rfl,_⟩|⟨l,a,q,b,rfl,_⟩;.simpa only[VR]using h
 .simpa only[VR]using h
theorem yF{m m'}:∀{l}{cs},(∀v∈l,Kd v v)->bZ m l cs->bZ m' l cs|[],_,_,h=>by simpa only[bZ]using h|v::l,cs,hk,h=>by obtain⟨c,r,h1,h2,h3⟩:=h;exact⟨c,r,h1,Ow (hk v (YL ..)) h2,yF (λx hx=>hk x (YI _ hx)) h3⟩
theorem aau{P:Program}{nt:Nat}{o:Oper}{id:Nat}{ph:dg}{e:Env}{H:Heap}{k:K}(hal:qE (ai P nt o)=true)(h:aQ (ai P nt o) id ph e H k=1):∃l H',nZ H (.cells l) H'/\k (.ptr H.n 0) H'=1/\((∀v∈l,Kd v v)->∀(G G':Heap),nZ G (.cells l) G'->qL P nt e o G (.ptr G.n 0) G'):=by
 have hop:∃t x,o.op=.box t x:=by unfold ai at hal;split at hal<;>first|exact⟨_,_,by assumption⟩|(exfalso;revert hal;(repeat' split)<;>first|(rw[UA];simp;done)|(rw[Pe];simp;done)|(rw[Dq];simp;done)|simp[qE])
 obtain⟨t,x,hop⟩:=hop;simp only[ai,hop]at h;have mem:x∈o.op.operands:=by simp[hop,Op.operands]
 have hnd:∀c,o.op≠.defer c:=by simp[hop]
 split at h
 .rename_i x' hx;have h':Rv x' id ph e H k=1:=h;unfold Rv at h';rw[aq]at h';obtain⟨l,h1,h2⟩:=pJ h';obtain⟨h3,h4⟩:=fi h1;obtain⟨H',h5,h6⟩:=dE h4;refine⟨l,H',h6,h5,λhcl G G' hN=>⟨.cells l,rfl,hN,trivial,by simp,λm a ho=>⟨.cells (a.eval x).cells t,λm'=>lU (row:=l) rfl (λlen m e=>by cases e) (jz.exact (yF hcl (h2 _ _ (ho x mem x' hx))) h3),λrd w=>⟨iD P o a w rd,?_⟩⟩⟩⟩;rw[semAt_eq hnd];have hex:(execOp a.eval o).run P w=.ok (.value (.pointer (some ⟨w.heap.size,0,none⟩))) (w.alloc (.cells (a.eval x).cells t)):=by simp[execOp,hop,Instr.box,newVar,newRow]
  rw[hex];exact⟨rfl,rfl⟩
 .exact(aw h).elim
theorem Rs{id}{l}{k}(h:Ai id (.cells l) k=1):(∀v∈l,Kd v v)/\k=1:=by have h':List.rec k (λv _ ih=>isKey id v ih) l=1:=h;clear h;induction l with|nil=>simp_all|cons v l ih=>obtain⟨h1,h2⟩:=EV (show isKey id v (List.rec k (λv _ ih=>isKey id v ih) l)=1from h');simp_all
theorem KU{cs}{bf}{i}(h:kG cs bf i=true):qE (cs.getD i .bad)=true:=by unfold kG at h;simp_all
theorem JI{c}(h:B3 c=true):bR c=false:=by cases c<;>first|rfl|cases h
theorem Fg{cs}{bf}{i}(h:kG cs bf i=true):nS cs bf i=false:=by cases hx:nS cs bf i with|false=>rfl|true=>
  have ha:=KU h;unfold nS at hx;rw[Yu,QY]at hx;have hs:B3 (cs.getD i .bad)=false:=by cases hc:cs.getD i .bad<;>rw[hc]at ha<;>first|rfl|cases ha
  have hi:=hx.2.resolve_left (by simp_all);unfold kG at h;rw[Yu,List.any_eq_true]at h;obtain⟨_,⟨q,j⟩,hq,hb⟩:=h;simp only[Yu,Bool.not_eq_true']at hb;obtain⟨⟨h1,h2⟩,h3⟩:=hb;have hij:i<j:=by simp_all
  have hjq:=WS.1 hq;have:=EZ hi (by rw[Yq,hjq];simp[JI h1]) (by omega);simp_all
def Z6(P:Program)(nt:Nat)(ops:Array Oper)(cs:List lk)(bf:Array Nat)(n0:Nat)(l:List Oper)(i:Nat)(e:Env)(H:Heap)(fl st:List (Nat×Nat))(k:Env->Heap->R):Prop:=∃(E:Nat->Env)(Hh:Nat->Heap)(Vv:Nat->V)(B:Nat->Option Nat),E 0=e/\Hh 0=H/\(∀j o,l[j]?=some o->gW P nt ops (nS cs bf (i+j)) (kO cs bf (i+j)) (B j) o (E j) (Hh j) (Vv j) (E (j+1)) (Hh (j+1)))/\k (E l.length) (Hh l.length)=1/\(∀j b,j<l.length->B j=some b->b<n0/\(∃c,cs[i+j]?=some c/\bR c=false)/\∀p∈st,(bf.getD (i+j) 0).testBit p.1=false->b≠p.2)/\(∀j,j<l.length->nS cs bf (i+j)=true->kO cs bf (i+j)=false->∀p∈fl,(bf.getD (i+j) 0).testBit p.1=false->p.2<(Hh j).n->(Hh (j+1)).get p.2=(Hh j).get p.2)/\(∀j1 j2 b,j1<l.length->j2<l.length->B j1=some b->nS cs bf (i+j2)=true->kO cs bf (i+j2)=false->jI bf (i+j1) (i+j2)=false->b<(Hh j2).n->(Hh (j2+1)).get b=(Hh j2).get b)/\(∀j o,l[j]?=some o->kG cs bf (i+j)=true->(GW nt (E j) ops o false/\Vv j=.cG []/\Hh (j+1)=Hh j)\/(qL P nt (E j) o (Hh j) (Vv j) (Hh (j+1))/\∀j2,j<j2->j2<l.length->nS cs bf (i+j2)=true->kO cs bf (i+j2)=false->jI bf (i+j) (i+j2)=false->(Hh j).n<(Hh j2).n->(Hh (j2+1)).get (Hh j).n=(Hh j2).get (Hh j).n))
theorem As{P:Program}{nt:Nat}{ph:dg}{ops:Array Oper}{base n0:Nat}{cs:List lk}{bf:Array Nat}(hph:jb P ph)(hbl:∀x y,(bf.getD x 0).testBit y=true->y<x):∀(l:List Oper)(i:Nat)(r:List uQ)(e:Env)(H:Heap)(fl st:List (Nat×Nat))(k:Env->Heap->R),iG P nt base ops cs bf l i=some r->(∀j o,l[j]?=some o->cs[i+j]?=some (ai P nt o))->(∀p∈fl,p.1<i/\∃c,cs[p.1]?=some c/\bR c=false)->bQ ph n0 r e H fl st k=1->Z6 P nt ops cs bf n0 l i e H fl st k
 |[],i,r,e,H,fl,st,k,hc,_,_,h=>by simp only[iG,Option.some.injEq]at hc;subst hc;exact⟨λ_=>e,λ_=>H,λ_=>.py,λ_=>none,rfl,rfl,λj o hj=>by simp at hj,h,λj b hj=>by simp at hj,λj hj=>by simp at hj,λj1 j2 b hj=>by simp at hj,λj o hj=>by simp at hj⟩|o::l,i,r,e,H,fl,st,k,hc,hcs,hfl,h=>by
  simp only[iG]at hc;split at hc
  .rename_i d g r' hd hg hr;cases hc;have hci:cs[i]?=some (ai P nt o):=by simpa using hcs 0 o rfl
   have hcd:cs.getD i .bad=ai P nt o:=by rw[List.getD_eq_getElem?_getD,hci];rfl
   have hcs':∀j o',l[j]?=some o'->cs[i+1+j]?=some (ai P nt o'):=λj o' hj=>by have:=hcs (j+1) o' (by simpa using hj);rwa[show i+(j+1)=i+1+j by omega]at this
   have hpi:kO cs bf i=(bR (ai P nt o)||qY cs bf i):=by unfold kO;rw[hcd]
   have fin:∀(v:V)(H1:Heap)(B0:Option Nat)(fl' st':List (Nat×Nat)),gW P nt ops (nS cs bf i) (kO cs bf i) B0 o e H v (dD d v e) H1->(∀b,B0=some b->b<n0/\bR (ai P nt o)=false/\(∀p∈st,(bf.getD i 0).testBit p.1=false->b≠p.2)/\(i,b)∈fl'/\kO cs bf i=true)->(nS cs bf i=true->kO cs bf i=false->∀p∈fl,(bf.getD i 0).testBit p.1=false->p.2<H.n->H1.get p.2=H.get p.2)->(nS cs bf i=true->kO cs bf i=false->∀x b,i<x->(∃c,cs[x]?=some c/\bR c=false)->(∀p∈st',(bf.getD x 0).testBit p.1=false->b≠p.2)->jI bf x i=false->b<H.n->H1.get b=H.get b)->(∀p∈fl',p.1<i+1/\∃c,cs[p.1]?=some c/\bR c=false)->(∀p∈fl,p∈fl')->(∀p∈st,p∈st')->(kG cs bf i=true->(GW nt e ops o false/\v=.cG []/\H1=H)\/(qL P nt e o H v H1/\(i,H.n)∈fl'))->bQ ph n0 r' (dD d v e) H1 fl' st' k=1->Z6 P nt ops cs bf n0 (o::l) i e H fl st k:=λv H1 B0 fl' st' hs hA hC hK hfl' s1 s2 hL hev=>by
    obtain⟨E,Hh,Vv,B,h1,h2,h3,h4,h5,h6,h7,h8⟩:=As hph hbl l (i+1) r' _ _ fl' st' k hr hcs' hfl' hev;refine⟨pt e E,pt H Hh,pt v Vv,pt B0 B,rfl,rfl,λj o' hj=>?_,h4,λj b hj hb=>?_,λj hj hi hp p hpm hbit hlt=>?_,λj1 j2 b hj1 hj2 hb hi hp hord hlt=>?_,λj o' hj hla=>?_⟩;.cases j with|zero=>simp only[Wh,Option.some.injEq]at hj;subst hj;show gW P nt ops (nS cs bf (i+0)) _ B0 o e H v (E 0) (Hh 0);rw[h1,h2];exact hs|succ j=>have:=h3 j o' (by simpa using hj);rw[show i+1+j=i+(j+1)by omega]at this;exact this
    .cases j with|zero=>obtain⟨q1,q2,q3,_⟩:=hA b hb;exact⟨q1,⟨_,by simpa using hci,q2⟩,q3⟩|succ j=>obtain⟨q1,q2,q3⟩:=h5 j b (by simpa using hj) hb;rw[show i+1+j=i+(j+1)by omega]at q2 q3;exact⟨q1,q2,λp hp=>q3 p (s2 p hp)⟩
    .cases j with|zero=>show(Hh 0).get p.2=H.get p.2;rw[h2];exact hC hi hp p hpm hbit hlt|succ j=>have:=h6 j (by simpa using hj);rw[show i+1+j=i+(j+1)by omega]at this;exact this hi hp p (s1 p hpm) hbit hlt
    .cases j2 with
     |zero=>cases j1 with|zero=>obtain⟨_,_,_,_,q5⟩:=hA b hb;exact absurd (hp.symm.trans q5) (by simp)|succ j1=>obtain⟨_,q2,q3⟩:=h5 j1 b (by simpa using hj1) hb;show(Hh 0).get b=H.get b;rw[h2];exact hK hi hp (i+1+j1) b (by omega) q2 q3 (by rw[show i+1+j1=i+(j1+1)by omega];exact hord) hlt
     |succ j2=>cases j1 with|zero=>obtain⟨_,_,_,q4,_⟩:=hA b hb;have:=h6 j2 (by simpa using hj2);rw[show i+1+j2=i+(j2+1)by omega]at this;refine this hi hp (i,b) q4 ?_ hlt;unfold jI at hord;rw[QJ]at hord;exact hord.2|succ j1=>have:=h7 j1 j2 b (by simpa using hj1) (by simpa using hj2) hb;rw[show i+1+j1=i+(j1+1)by omega,show i+1+j2=i+(j2+1)by omega]at this;exact this hi hp hord hlt
    .cases j with
     |zero=>
      simp only[Wh,Option.some.injEq]at hj;subst hj;rcases hL hla with⟨q1,q2,q3⟩|⟨q1,q2⟩;.exact YH ⟨q1,q2,by show Hh 0=H;rw[h2];exact q3⟩
      .refine YE ⟨by show qL P nt e o H v (Hh 0);rw[h2];exact q1,λj2 hj2 hjl hi hp hord hlt=>?_⟩;cases j2 with|zero=>omega|succ j2=>have:=h6 j2 (by simpa using hjl);rw[show i+1+j2=i+(j2+1)by omega]at this;refine this hi hp (i,H.n) q2 ?_ hlt;unfold jI at hord;rw[QJ]at hord;exact hord.2
     |succ j=>have:=h8 j o' (by simpa using hj) (by rw[show i+1+j=i+(j+1)by omega];exact hla);refine this.imp id λhA=>⟨hA.1,λj2 hj2 hjl hi hp hord hlt=>?_⟩;cases j2 with|zero=>omega|succ j2=>have:=hA.2 j2 (by omega) (by simpa using hjl);rw[show i+1+j2=i+(j2+1)by omega,show i+1+j=i+(j+1)by omega]at this;exact this hi hp hord hlt
   have skip0:GW nt e ops o false->gW P nt ops (nS cs bf i) (kO cs bf i) none o e H (.cG []) (dD d (.cG []) e) H->bQ ph n0 r' (dD d (.cG []) e) H fl st k=1->Z6 P nt ops cs bf n0 (o::l) i e H fl st k:=λhgw hs hev=>fin _ H none fl st hs (λb hb=>by cases hb) (λ_ _ _ _ _ _=>rfl) (λ_ _ _ _ _ _ _ _ _=>rfl) (λp hp=>⟨YI4 (hfl p hp).1,(hfl p hp).2⟩) (λ_ h=>h) (λ_ h=>h) (λ_=>YH ⟨hgw,rfl,rfl⟩) hev;have hla:kG cs bf i=true->qE (ai P nt o)=true:=λhl=>by have:=KU hl;rwa[hcd]at this
   have hnoI:nS cs bf i=true->∀{X:Prop},kG cs bf i=true->X:=λhi X hl=>by rw[Fg hl]at hi;cases hi
   have hfls:∀p∈fl,p.1<i+1/\∃c,cs[p.1]?=some c/\bR c=false:=λp hp=>⟨YI4 (hfl p hp).1,(hfl p hp).2⟩;have h':uP g e (Nat.rec (motive:=λ_=>R) (aQ (ai P nt o) 0 ph e H λv H'=>cj d v e λe'=>bQ ph n0 r' e' H' fl st k) (λt1 _=>Nat.rec (motive:=λ_=>R) (Heap.rec (motive:=λ_=>R) (λn bF t=>aQ (ai P nt o) 0 ph e (.mk n n t) λv H'=>Heap.rec (motive:=λ_=>R) (λn' wlo' t'=>aH (Yb n wlo') (cj d v e λe'=>bQ ph n0 r' e' (.mk n' bF t') fl st k) (no 0)) H') H) (λt2 _=>aJ (qN (ai P nt o)) e λa=>nE 0 a λob=>Nat.rec (motive:=λ_=>R) (Option.rec (motive:=λ_=>R) (no 0) (λb=>aH (WA b n0) (dM 0 (bf.getD i 0) b st (aQ (ai P nt o) 0 ph e H λv H'=>cj d v e λe'=>bQ ph n0 r' e' H ((i,b)::fl) st k)) (no 0)) ob) (λt3 _=>Nat.rec (motive:=λ_=>R) (Option.rec (motive:=λ_=>R) (aQ (ai P nt o) 0 ph e H λv H'=>cj d v e λe'=>bQ ph n0 r' e' H' fl st k) (λb=>dM 0 (bf.getD i 0) b fl (aQ (ai P nt o) 0 ph e H λv H'=>cj d v e λe'=>bQ ph n0 r' e' H' fl ((i,b)::st) k)) ob) (λ_ _=>Heap.rec (motive:=λ_=>R) (λn bF t=>aQ (ai P nt o) 0 ph e (.mk n n t) λv H'=>Heap.rec (motive:=λ_=>R) (λn' wlo' t'=>aH (Yb n wlo') (Ai 0 (HT.get t' n) (cj d v e λe'=>bQ ph n0 r' e' (.mk n' bF t') ((i,n)::fl) st k)) (no 0)) H') H) t3) t2) t1) (lC cs bf (ai P nt o) i)) (cj d (.cG []) e λe'=>bQ ph n0 r' e' H fl st k)=1:=h;rcases sK hg h' with⟨h1,h2⟩|⟨h1,h2⟩;rotate_left;.rw[ck]at h1;exact skip0 h2 ⟨d,hd,rfl,YH ⟨h2,rfl,rfl⟩⟩ h1
   by_cases hf:qY cs bf i=true
   .have hld:EW (ai P nt o)=true:=by unfold qY at hf;rw[Yu,hcd]at hf;exact hf.1
    have hnp:bR (ai P nt o)=false:=by cases hcc:ai P nt o<;>rw[hcc]at hld<;>first|rfl|cases hld
    rw[show lC cs bf (ai P nt o) i=2by unfold lC;rw[if_pos hf]]at h1;have h3:aJ (qN (ai P nt o)) e (λa=>nE 0 a λob=>Option.rec (motive:=λ_=>R) (no 0) (λb=>aH (WA b n0) (dM 0 (bf.getD i 0) b st (aQ (ai P nt o) 0 ph e H λv H'=>cj d v e λe'=>bQ ph n0 r' e' H ((i,b)::fl) st k)) (no 0)) ob)=1:=h1;rw[aq]at h3;have h4:=rL h3;cases hob:qy (aA (qN (ai P nt o)) e)with|none=>rw[hob]at h4;exact(aw h4).elim|some b=>
     rw[hob]at h4;obtain⟨h5,h6⟩:=aU (show aH (WA b n0) _ (no 0)=1from h4);obtain⟨h7,h8⟩:=tc h6;obtain⟨v,h9,h10⟩:=Sw hld hob h8;have h9':cj d v e (λe'=>bQ ph n0 r' e' H ((i,b)::fl) st k)=1:=h9;rw[ck]at h9';have hpt:kO cs bf i=true:=by rw[hpi,hf];simp
     refine fin v H (some b) ((i,b)::fl) st ⟨d,hd,rfl,YE (YH ⟨h2,hpt,rfl,λH2 hH2=>?_⟩)⟩ (λb' hb'=>?_) (λ_ hp=>absurd (hp.symm.trans hpt) (by simp)) (λ_ hp=>absurd (hp.symm.trans hpt) (by simp)) (λp hp=>?_) (λp hp=>YI _ hp) (λ_ h=>h) (λhl=>by have:=hla hl;cases hcc:ai P nt o<;>rw[hcc]at hld this<;>first|(cases this;done)|(cases hld;done)) h9'
     .have hev:=h10 H2 (hH2 b rfl) (λv' H'=>open Classical in if v'=v/\H'=H2 then 1 else 0);obtain⟨v',H',q1,q2⟩:=er hph (P:=P) (nt:=nt) (o:=o) (id:=0) (e:=e) (H:=H2) (by rw[hev];simp);have q3:v'=v/\H'=H2:=by
       by_cases hq:v'=v/\H'=H2;.exact hq
       .simp[hq]at q2
      rw[<-q3.1];have:=q1;rw[q3.2]at this;exact this
     .cases hb';exact⟨eQ h5,hnp,h7,YL ..,hpt⟩
     .rcases YS.1 hp with rfl|hp;.exact⟨YF1 i,_,hci,hnp⟩
      .exact hfls p hp
   .have hf':qY cs bf i=false:=by simpa using hf
    by_cases hpu:bR (ai P nt o)=true
    .rw[show lC cs bf (ai P nt o) i=0 by unfold lC;rw[if_neg hf,if_pos hpu]]at h1;obtain⟨v,h3,h4⟩:=x9 hph hpu (show aQ (ai P nt o) 0 ph e H (λv H'=>cj d v e λe'=>bQ ph n0 r' e' H' fl st k)=1from h1);have h4':cj d v e (λe'=>bQ ph n0 r' e' H fl st k)=1:=h4;rw[ck]at h4';have hpt:kO cs bf i=true:=by rw[hpi,hpu];rfl
     exact fin v H none fl st ⟨d,hd,rfl,YE (YH ⟨h2,hpt,rfl,λH2 _=>h3 H2⟩)⟩ (λb hb=>by cases hb) (λ_ _ _ _ _ _=>rfl) (λ_ _ _ _ _ _ _ _ _=>rfl) hfls (λ_ h=>h) (λ_ h=>h) (λhl=>by have:=hla hl;cases hcc:ai P nt o<;>rw[hcc]at hpu this<;>first|(cases this;done)|(cases hpu;done)) h4'
    .have hpf:kO cs bf i=false:=by rw[hpi,hf'];simpa using hpu
     have hpn:bR (ai P nt o)=false:=by simpa using hpu
     by_cases his:nS cs bf i=true
     .by_cases hi0:ie (cs.map bR) bf i=true
      .rw[show lC cs bf (ai P nt o) i=0 by unfold lC;rw[if_neg hf,if_neg hpu,if_pos his,if_pos hi0]]at h1;obtain⟨v,H1,h3,h4⟩:=er hph (show aQ (ai P nt o) 0 ph e H (λv H'=>cj d v e λe'=>bQ ph n0 r' e' H' fl st k)=1from h1);have h4':cj d v e (λe'=>bQ ph n0 r' e' H1 fl st k)=1:=h4;rw[ck]at h4';have hno:∀x,x≠i->(∃c,cs[x]?=some c/\bR c=false)->jI bf i x=true:=λx hx⟨c,hc1,hc2⟩=>EZ hi0 (by rw[Yq,hc1];simp[hc2]) (Ne.symm hx);refine fin v H1 none fl st ⟨d,hd,rfl,YE (YE (YH ⟨h2,hpf,his,h3⟩))⟩ (λb hb=>by cases hb) (λ_ _ p hp hbit _=>?_) (λ_ _ x b hx hxc _ hord _=>?_) hfls (λ_ h=>h) (λ_ h=>h) (λhl=>hnoI his hl) h4';.have hlt:=(hfl p hp).1;have ho:=hno p.1 (by omega) (hfl p hp).2;unfold jI at ho;rw[hbit,YB3]at ho;have:=hbl _ _ ho;omega
       .rw[NC,hno x (by omega) hxc]at hord;cases hord
      .rw[show lC cs bf (ai P nt o) i=3by unfold lC;rw[if_neg hf,if_neg hpu,if_pos his,if_neg hi0]]at h1;have hst:B3 (ai P nt o)=true:=by have hi:=his;unfold nS at hi;rw[Yu,QY,hcd]at hi;exact hi.2.resolve_right hi0
       have h3:aJ (qN (ai P nt o)) e (λa=>nE 0 a λob=>Option.rec (motive:=λ_=>R) (aQ (ai P nt o) 0 ph e H λv H'=>cj d v e λe'=>bQ ph n0 r' e' H' fl st k) (λb=>dM 0 (bf.getD i 0) b fl (aQ (ai P nt o) 0 ph e H λv H'=>cj d v e λe'=>bQ ph n0 r' e' H' fl ((i,b)::st) k)) ob)=1:=h1;rw[aq]at h3;have h4:=rL h3;have hfr:=TO (id:=0) hst (ph:=ph) (e:=e) (H:=H);have fire:∀(fl' st':List (Nat×Nat)),aQ (ai P nt o) 0 ph e H (λv H'=>cj d v e λe'=>bQ ph n0 r' e' H' fl' st' k)=1->∃v H1,eZ P nt o e H v H1/\Fr (qy (aA (qN (ai P nt o)) e)) H H1/\bQ ph n0 r' (dD d v e) H1 fl' st' k=1:=λfl' st' hev=>by
        obtain⟨⟨v,H1⟩,q1,q2,q3⟩:=hfr.get (k:=λp:V×Heap=>cj d p.1 e λe'=>bQ ph n0 r' e' p.2 fl' st' k) hev;obtain⟨v',H',q4,q5⟩:=er hph (P:=P) (nt:=nt) (o:=o) (id:=0) (e:=e) (H:=H) (k:=λv' H'=>open Classical in if(v',H')=(v,H1)then 1 else 0) (by have:=q3 (λp=>open Classical in if p=(v,H1)then 1 else 0);rw[show(λv' H'=>open Classical in if(v',H')=(v,H1)then 1 else 0)=λv' H'=>(λp:V×Heap=>open Classical in if p=(v,H1)then(1:R)else 0) (v',H')from rfl,this];simp);have q6:(v',H')=(v,H1):=by
         by_cases hq:(v',H')=(v,H1);.exact hq
         .simp[hq]at q5
        cases q6;have q2':cj d v e (λe'=>bQ ph n0 r' e' H1 fl' st' k)=1:=q2;rw[ck]at q2';exact⟨v,H1,q4,q1,q2'⟩
       cases hob:qy (aA (qN (ai P nt o)) e)with|none=>rw[hob]at h4;obtain⟨v,H1,q1,q2,q3⟩:=fire fl st h4;rw[hob]at q2;exact fin v H1 none fl st ⟨d,hd,rfl,YE (YE (YH ⟨h2,hpf,his,q1⟩))⟩ (λb hb=>by cases hb) (λ_ _ p hp hbit hlt=>q2 _ hlt (by simp)) (λ_ _ x b hx hxc _ hord hlt=>q2 _ hlt (by simp)) hfls (λ_ h=>h) (λ_ h=>h) (λhl=>hnoI his hl) q3|some b0=>
        rw[hob]at h4;obtain⟨h7,h8⟩:=tc (show dM 0 (bf.getD i 0) b0 fl _=1from h4);obtain⟨v,H1,q1,q2,q3⟩:=fire fl ((i,b0)::st) h8;rw[hob]at q2;refine fin v H1 none fl ((i,b0)::st) ⟨d,hd,rfl,YE (YE (YH ⟨h2,hpf,his,q1⟩))⟩ (λb hb=>by cases hb) (λ_ _ p hp hbit hlt=>q2 _ hlt ?_) (λ_ _ x b hx hxc hap hord hlt=>q2 _ hlt ?_) hfls (λ_ h=>h) (λp hp=>YI _ hp) (λhl=>hnoI his hl) q3;.intro e0;cases e0;exact h7 p hp hbit rfl
        .intro e0;cases e0;unfold jI at hord;rw[QJ]at hord;exact hap (i,b0) (YL ..) hord.1 rfl
     .have hisf:nS cs bf i=false:=by simpa using his
      by_cases hlt:kG cs bf i=true
      .rw[show lC cs bf (ai P nt o) i=4by unfold lC;rw[if_neg hf,if_neg hpu,if_neg his,if_pos hlt]]at h1;have hbx:=hla hlt;have had:qN (ai P nt o)=.c .aC:=by cases hcc:ai P nt o<;>rw[hcc]at hbx<;>first|rfl|cases hbx
       have h3:aJ (qN (ai P nt o)) e (λa=>nE 0 a λob=>Heap.rec (motive:=λ_=>R) (λn bF t=>aQ (ai P nt o) 0 ph e (.mk n n t) λv H'=>Heap.rec (motive:=λ_=>R) (λn' wlo' t'=>aH (Yb n wlo') (Ai 0 (HT.get t' n) (cj d v e λe'=>bQ ph n0 r' e' (.mk n' bF t') ((i,n)::fl) st k)) (no 0)) H') H)=1:=h1;rw[aq,had]at h3;have h4:=rL h3;cases H with|mk n bF t=>have h4':aQ (ai P nt o) 0 ph e (.mk n n t) (λv H'=>Heap.rec (motive:=λ_=>R) (λn' wlo' t'=>aH (Yb n wlo') (Ai 0 (HT.get t' n) (cj d v e λe'=>bQ ph n0 r' e' (.mk n' bF t') ((i,n)::fl) st k)) (no 0)) H')=1:=h4;obtain⟨bl,H1,hN,h5,hA⟩:=aau hbx h4';cases H1 with|mk n' wlo' t'=>
         have h5':aH (Yb n wlo') (Ai 0 (HT.get t' n) (cj d (.ptr n 0) e λe'=>bQ ph n0 r' e' (.mk n' bF t') ((i,n)::fl) st k)) (no 0)=1:=h5;obtain⟨h6,h7⟩:=aU h5';rw[show HT.get t' n=.cells bl from hN.get]at h7;obtain⟨hcl,h8⟩:=Rs h7;rw[ck]at h8;have hN':nZ (.mk n bF t) (.cells bl) (.mk n' bF t'):=⟨hN.n,rfl,hN.get,hN.vQ⟩;refine fin (.ptr n 0) (.mk n' bF t') none ((i,n)::fl) st ⟨d,hd,rfl,YE (YE (YE ⟨h2,hpf,hisf,.mk n n t,.mk n' wlo' t',rfl,λ_=>rfl,rfl,(hA hcl _ _ hN).ops,cB h6,rfl,λ_=>rfl,rfl⟩))⟩ (λb hb=>by cases hb) (λhi=>absurd (hi.symm.trans hisf) (by simp)) (λhi=>absurd (hi.symm.trans hisf) (by simp)) (λp hp=>?_) (λp hp=>YI _ hp) (λ_ h=>h) (λ_=>YE ⟨hA hcl _ _ hN',YL ..⟩) h8;rcases YS.1 hp with rfl|hp;.exact⟨YF1 i,_,hci,hpn⟩
         .exact hfls p hp
      rw[show lC cs bf (ai P nt o) i=1by unfold lC;rw[if_neg hf,if_neg hpu,if_neg his,if_neg hlt]]at h1;cases H with|mk n bF t=>obtain⟨v,H1,h3,h4⟩:=er hph (show aQ (ai P nt o) 0 ph e (.mk n n t) (λv H'=>Heap.rec (motive:=λ_=>R) (λn' wlo' t'=>aH (Yb n wlo') (cj d v e λe'=>bQ ph n0 r' e' (.mk n' bF t') fl st k) (no 0)) H')=1from h1);cases H1 with|mk n' wlo' t'=>have h4':aH (Yb n wlo') (cj d v e λe'=>bQ ph n0 r' e' (.mk n' bF t') fl st k) (no 0)=1:=h4;obtain⟨h5,h6⟩:=aU h4';rw[ck]at h6;exact fin v (.mk n' bF t') none fl st ⟨d,hd,rfl,YE (YE (YE ⟨h2,hpf,hisf,.mk n n t,.mk n' wlo' t',rfl,λ_=>rfl,rfl,h3,cB h5,rfl,λ_=>rfl,rfl⟩))⟩ (λb hb=>by cases hb) (λhi=>absurd (hi.symm.trans hisf) (by simp)) (λhi=>absurd (hi.symm.trans hisf) (by simp)) hfls (λ_ h=>h) (λ_ h=>h) (λhl=>absurd hl hlt) h6
  .cases hc
def M.meet(m1 m2:M):M:=⟨λb c=>(∃c',m1.b b c')/\m2.b b c,m2.z⟩
mutual theorem VR.meet{m1 m2:M}:∀(v:V)(c1 c2:Value),VR m1 v c1->VR m2 v c2->VR (m1.meet m2) v c2|.int ..,_,_,_,h=>by simpa only[VR]using h|.bool _,_,_,_,h=>by simpa only[VR]using h|.str ..,_,_,_,h=>by simpa only[VR]using h|.ptr ..,_,_,h1,h2=>by simp only[VR]at h1 h2⊢;obtain⟨c,_,h3⟩:=h1;obtain⟨c',h4,h5⟩:=h2;exact⟨c',h4,⟨c,h3⟩,h5⟩|.py,_,_,_,h=>by simpa only[VR]using h|.slice ..,_,_,h1,h2=>by simp only[VR]at h1 h2⊢;obtain⟨c,_,_,_,_,h3,_⟩:=h1;obtain⟨c',cap,o',sp,h4,h5,h6⟩:=h2;exact⟨c',cap,o',sp,h4,⟨⟨c,h3⟩,h5⟩,h6⟩|.aC,_,_,_,h=>by simpa only[VR]using h|.map _,_,_,h1,h2=>by simp only[VR]at h1 h2⊢;obtain⟨c,_,h3⟩:=h1;obtain⟨c',h4,h5⟩:=h2;exact⟨c',h4,⟨c,h3⟩,h5⟩|.ve,_,_,_,h=>by simpa only[VR]using h|.func _ l,_,_,h1,h2=>by simp only[VR]at h1 h2⊢;obtain⟨c,_,h3⟩:=h1;obtain⟨c',h4,h5⟩:=h2;exact⟨c',h4,bZ.meet l _ _ h3 h5⟩|.sU _,_,_,h1,h2=>by simp only[VR]at h1 h2⊢;obtain⟨c,_,h3⟩:=h1;obtain⟨c',h4,h5⟩:=h2;exact⟨c',h4,⟨c,h3⟩,h5⟩|.rf,_,_,_,h=>by simpa only[VR]using h|.iface _ x,_,_,h1,h2=>by simp only[VR]at h1 h2⊢;obtain⟨c,_,h3⟩:=h1;obtain⟨c',h4,h5⟩:=h2;exact⟨c',h4,VR.meet x _ _ h3 h5⟩|.Fy,_,_,_,h=>by simpa only[VR]using h|.agg l,_,_,h1,h2=>by simp only[VR]at h1 h2⊢;obtain⟨c,_,h3⟩:=h1;obtain⟨c',h4,h5⟩:=h2;exact⟨c',h4,bZ.meet l _ _ h3 h5⟩|.cG l,_,_,h1,h2=>by simp only[VR]at h1 h2⊢;obtain⟨c,_,h3⟩:=h1;obtain⟨c',h4,h5⟩:=h2;exact⟨c',h4,bZ.meet l _ _ h3 h5⟩theorem bZ.meet{m1 m2:M}:∀(l:List V)(c1 c2:List Value),bZ m1 l c1->bZ m2 l c2->bZ (m1.meet m2) l c2|[],_,_,_,h=>by simpa only[bZ]using h|v::l,_,_,h1,h2=>by simp only[bZ]at h1 h2⊢;obtain⟨c,r,_,h3,h4⟩:=h1;obtain⟨c',r',h5,h6,h7⟩:=h2;exact⟨c',r',h5,VR.meet v _ _ h3 h6,bZ.meet l _ _ h4 h7⟩end
theorem BR.meet{P:Program}{m1 m2:M}{bl:eB}{o1 o2:Obj}(h1:BR P m1 bl o1)(h2:BR P m2 bl o2):BR P (m1.meet m2) bl o2:=by
 cases bl with|dead=>trivial|cells l=>obtain⟨c,e,fr,g1,⟨g2,g3⟩,_⟩:=h1;obtain⟨c',e',fr',k1,⟨k2,k3⟩,k4⟩:=h2;refine⟨c',e',fr',k1,⟨λi v hi=>?_,k3⟩,k4⟩;obtain⟨a1,cv,a2,a3⟩:=g2 i v hi;obtain⟨b1,cv',b2,b3⟩:=k2 i v hi;exact⟨b1,cv',b2,VR.meet v _ _ a3 b3⟩|bytes len n=>exact h2|view l=>obtain⟨c,e,fr,g1,g2⟩:=h1;obtain⟨c',e',fr',k1,k2⟩:=h2;refine⟨c',e',fr',k1,λi v hi ho=>?_⟩;obtain⟨⟨cv,a2,a3⟩,a4⟩:=g2 i v hi ho;obtain⟨⟨cv',b2,b3⟩,b4⟩:=k2 i v hi ho;exact⟨⟨cv',b2,VR.meet v _ _ a3 b3⟩,b4⟩|map es=>
  obtain⟨ents,clock,es1,g1,g4,g5,g6,g2,g3⟩:=h1;obtain⟨ents',clock',es2,k1,k4,k5,k6,k2,k3⟩:=h2;have key:∀(q:V×V->V)(c1 c2:List Value),bZ m1 (es1.map q) c1->bZ m2 (es2.map q) c2->bZ (m1.meet m2) (es2.map q) c2:=λq c1 c2 v1 v2=>by refine bZ.pB v2.length λi v c hi hc=>?_;rw[Yq]at hi;obtain⟨p,hp,rfl⟩:=Yh.1 hi;have hm:q p∈es1.map q:=List.mem_map.2 ⟨p,(g4.trans k4.symm).mem_iff.2 (List.mem_of_getElem? hp),rfl⟩;obtain⟨c',_,hc'⟩:=v1.mem hm;obtain⟨c2',e1,e2⟩:=v2.get (i:=i) (v:=q p) (by rw[Yq,hp];rfl);rw[hc]at e1;cases e1;exact VR.meet _ _ _ hc' e2
  exact⟨ents',clock',es2,k1,k4,k5,k6,key _ _ _ g2 k2,key _ _ _ g3 k3⟩|mark=>exact h2|loop st jump e ps asL bo=>
  obtain⟨r,nt,fid,g1,g2,g3,g4,g5,g6,g7⟩:=h1;obtain⟨r',nt',fid',k1,k2,k3,k4,k5,k6,k7⟩:=h2;refine⟨r',nt',fid',k1,k2,k3,⟨k4.size,k4.le,λt v hv=>?_,k4.rest⟩,k5,k6,k7⟩;have h2:=k4.get t v hv;have hlt:t<nt':=by rw[<-k4.size];exact(YO.1 hv).1
  by_cases htn:t<nt
  .have hlt2:t<r.tmps.size:=by rw[g4.size];exact htn
   have hex:r.tmps[t]?=some r.tmps[t]:=Yd hlt2;exact VR.meet _ _ _ (g4.get t _ hex) h2
  .have:=k4.le;rw[g4.rest t (by omega) (by omega)]at h2⊢;simp only[VR]at h2⊢;obtain⟨cs,h5,h6⟩:=h2;exact⟨cs,h5,by simpa only[bZ]using h6⟩
section
variable{P:Program}{base:Nat}{w0 w w':World}{rho rho':Nat->Option Nat}{H H1 H':Heap}
structure Part(H1 H:Heap):Prop where
 n:H1.n<=H.n
 get:∀b,b<H1.n->H.get b=H1.get b
 out:∀b,H1.n<=b->H1.get b=.dead
theorem Part.trans{H1 H2 H3:Heap}(h:Part H1 H2)(k:Part H2 H3):Part H1 H3:=⟨Ys h.n k.n,λb hb=>(k.get b (YF hb h.n)).trans (h.get b hb),h.out⟩
def cutAt(n:Nat)(rho:Nat->Option Nat):Nat->Option Nat:=λb=>if b<n then rho b else none
theorem dK{n b c}(h:cutAt n rho b=some c):b<n/\rho b=some c:=by unfold cutAt at h;simp_all
theorem rW{n b}(h:b<n):cutAt n rho b=rho b:=if_pos h
def Kn(P:Program)(H:Heap)(b:Nat):Prop:=∃m o,BR P m (H.get b) o/\∀b' c',m.b b' c'->b'<H.n
theorem PR.kn(h:PR P base w0 rho H w){b c:Nat}(hr:rho b=some c):Kn P H b:=by obtain⟨o,h1,h2⟩:=h.cV b c hr;exact⟨_,o,h2,λb' c' hm=>hm.1⟩
theorem Kn.part{b:Nat}(h:Kn P H1 b)(hp:Part H1 H)(hb:b<H1.n):Kn P H b:=by obtain⟨m,o,h1,h2⟩:=h;exact⟨m,o,by rw[hp.get b hb];exact h1,λb' c' hm=>YF (h2 b' c' hm) hp.n⟩
theorem Fs{m1:M}(hm:∀b c,m1.b b c->b<H1.n)(hp:Part H1 H):(m1.meet (mu rho H w)).le (mu (cutAt H1.n rho) H1 w):=⟨λb c⟨⟨c',h1⟩,h2⟩=>⟨hm _ _ h1,λha=>by rw[rW (hm _ _ h1)];exact h2.2 (by rw[hp.get b (hm _ _ h1)];omega)⟩,λ_ _ h=>h⟩
theorem PR.part(h:PR P base w0 rho H w)(hp:Part H1 H)(hw:H1.bF<=H1.n)(hk:∀b c,rho b=some c->b<H1.n->Kn P H1 b):PR P base w0 (cutAt H1.n rho) H1 w where
 below:=h.below;cS:=h.cS;wn:=hw;jM b c hr:=by obtain⟨h1,h2⟩:=dK hr;obtain⟨_,h4,h5,h6⟩:=h.jM b c h2;exact⟨h1,h4,h5,by rw[<-hp.get b h1];exact h6⟩
 inj b b' c h1 h2:=h.inj b b' c (dK h1).2 (dK h2).2;cV b c hr:=by obtain⟨h1,h2⟩:=dK hr;obtain⟨o,h3,h4⟩:=h.cV b c h2;obtain⟨m,o',h5,h6⟩:=hk b c h2 h1;rw[hp.get b h1]at h4;exact⟨o,h3,(BR.meet h5 h4).mono (Fs h6 hp)⟩
 out b hb:=hp.out b hb;gl:=⟨h.gl.1,h.gl.2.1,λb c hr=>h.gl.2.2 b c (dK hr).2⟩
theorem PR.grow(h:PR P base w0 rho H w)(hp:Part H H')(hw:H'.bF<=H'.n)(ho:∀b,H'.n<=b->H'.get b=.dead):PR P base w0 rho H' w/\(mu rho H w).le (mu rho H' w):=by
 have hm:(mu rho H w).le (mu rho H' w):=⟨λb c⟨h1,h2⟩=>⟨YF h1 hp.n,λha=>h2 (by rw[<-hp.get b h1];exact ha)⟩,λ_ _ h=>h⟩;refine⟨⟨h.below,h.cS,hw,λb c hr=>?_,h.inj,λb c hr=>?_,ho,h.gl⟩,hm⟩;.obtain⟨h1,h2,h3,h4⟩:=h.jM b c hr;exact⟨YF h1 hp.n,h2,h3,by rw[hp.get b h1];exact h4⟩
 .obtain⟨h1,_⟩:=h.jM b c hr;obtain⟨o,h3,h4⟩:=h.cV b c hr;exact⟨o,h3,by rw[hp.get b h1];exact h4.mono hm⟩
theorem PR.merge{Hi Hi' H1':Heap}(h:PR P base w0 rho H w)(hi:Part Hi H)(hi':Part Hi' H)(hii:Hi.n<=Hi'.n)(hno:∀b c,rho b=some c->b<Hi.n\/Hi'.n<=b)(h1n:H1.n=Hi.n)(run:PR P base w0 rho' H1' w')(x:Ext (cutAt Hi.n rho) H1 w rho' H1' w')(hlo:Hi.n<=H1'.bF)(hn':Hi'.n=H1'.n)(hg':∀b,Hi'.get b=H1'.get b){rho'':Nat->Option Nat}(hr'':rho''=λb=>if b<Hi'.n then rho' b else rho b):PR P base w0 rho'' H w'/\(mu rho H w).le (mu rho'' H w')/\(mu rho' H1' w').le (mu rho'' H w')/\(∀b,b<Hi.n->rho'' b=rho b)/\(∀b c,rho'' b=some c->rho b=some c\/(Hi.n<=b/\b<Hi'.n/\w.heap.size<=c/\rho' b=some c))/\∀c,c<w.heap.size->w'.heap[c]?=w.heap[c]?:=by
 subst hr'';have k1:∀b,b<Hi.n->rho' b=rho b:=λb hb=>by rw[(x.cm b (by omega) (by omega)).2,rW hb]
 have k2:∀b c,Hi.n<=b->rho' b=some c->w.heap.size<=c:=λb c hb hr=>by
  rcases x.new b c (by omega) hr with h'|⟨b0,h1,h2⟩;.exact h'
  .have:=(dK h1).1;omega
 have k3:∀c,c<w.heap.size->w'.heap[c]?=w.heap[c]?:=λc hc=>x.fr c hc λb hb=>YF (dK hb).1 hlo;have m1:(mu rho H w).le (mu (λb=>if b<Hi'.n then rho' b else rho b) H w'):=by
  refine⟨λb c⟨h1,h2⟩=>⟨h1,λha=>?_⟩,x.mu.2⟩;have h3:=h2 ha;show(if b<Hi'.n then rho' b else rho b)=some c;rcases hno b c h3 with h4|h4;.rw[if_pos (by omega),k1 b h4];exact h3
  .rw[if_neg (by omega)];exact h3
 have m2:(mu rho' H1' w').le (mu (λb=>if b<Hi'.n then rho' b else rho b) H w'):=by
  refine⟨λb c⟨h1,h2⟩=>⟨?_,λha=>?_⟩,λ_ _ h=>h⟩;.have:=hi'.n;omega
  .have hb:b<Hi'.n:=by omega
   show(if b<Hi'.n then rho' b else rho b)=some c;rw[if_pos hb];exact h2 (by rw[<-hg' b,<-hi'.get b hb];exact ha)
 refine⟨⟨run.below,run.cS,h.wn,λb c hr=>?_,λb b' c hr hr'=>?_,λb c hr=>?_,h.out,run.gl.1,run.gl.2.1,λb c hr=>(show(if b<Hi'.n then rho' b else rho b)=some c->¬GB c fromλhr=>by
  split at hr;.exact run.gl.2.2 b c hr
  .exact h.gl.2.2 b c hr) hr⟩,m1,m2,λb hb=>?_,λb c hr=>?_,k3⟩
 .split at hr;.rename_i hb;obtain⟨h1,h2,h3,h4⟩:=run.jM b c hr;exact⟨YF hb hi'.n,h2,h3,by rw[hi'.get b hb,hg' b];exact h4⟩
  .obtain⟨h1,h2,h3,h4⟩:=h.jM b c hr;exact⟨h1,h2,YF h3 x.size,h4⟩
 .have cross:∀b b' c,b<Hi'.n->¬b'<Hi'.n->rho' b=some c->rho b'=some c->False:=λb b' c g1 g2 g3 g4=>by
   have hd:=h.jM b' c g4;by_cases hb:b<Hi.n;.rw[k1 b hb]at g3;have:=h.inj b b' c g3 g4;omega
   .have:=k2 b c (by omega) g3;omega
  split at hr<;>split at hr';.exact run.inj b b' c hr hr'
  .exact(cross b b' c ‹_› ‹_› hr hr').elim
  .exact(cross b' b c ‹_› ‹_› hr' hr).elim
  .exact h.inj b b' c hr hr'
 .split at hr;.rename_i hb;obtain⟨o,h1,h2⟩:=run.cV b c hr;exact⟨o,h1,by rw[hi'.get b hb,hg' b];exact h2.mono m2⟩
  .obtain⟨o,h1,h2⟩:=h.cV b c hr;exact⟨o,(k3 c (h.jM b c hr).2.2.1).trans h1,h2.mono m1⟩
 .show(if b<Hi'.n then rho' b else rho b)=rho b;rw[if_pos (by omega),k1 b hb]
 .replace hr:(if b<Hi'.n then rho' b else rho b)=some c:=hr;split at hr
  .rename_i hb;by_cases hb1:b<Hi.n;.exact YH ((k1 b hb1).symm.trans hr)
   .exact YE ⟨by omega,hb,k2 b c (by omega) hr,hr⟩
  .exact YH hr
theorem Ext.after{H0:Heap}{rho0 rho'':Nat->Option Nat}{w00:World}{m:Nat}(h:Ext rho0 H0 w00 rho H w)(hd0:∀b c,rho0 b=some c->b<H0.n)(hc0:∀b c,rho0 b=some c->c<w00.heap.size)(ho:∀b,H0.n<=b->H0.get b=.dead)(hm:H0.n<=m)(h1:∀b,b<m->rho'' b=rho b)(h2:∀b c,rho'' b=some c->rho b=some c\/w.heap.size<=c)(h3:∀c,c<w.heap.size->w'.heap[c]?=w.heap[c]?)(hs:w.heap.size<=w'.heap.size):Ext rho0 H0 w00 rho'' H w' where
 n:=h.n;bF:=h.bF;size:=Ys h.size hs;cm b hb hw:=⟨(h.cm b hb hw).1,(h1 b (by omega)).trans (h.cm b hb hw).2⟩;old b c hb hr:=h.old b c hb (by rw[<-h1 b (by omega)];exact hr);live b c hr ha:=by have hl:=h.live b c hr ha;rw[h1 b (YF (hd0 b c hr) hm)];exact hl
 qF:=h.qF;new b c hb hr:=by
  rcases h2 b c hr with h'|h';.exact h.new b c hb h'
  .exact YH (Ys h.size h')
 fr c hc hb:=(h3 c (YF hc h.size)).trans (h.fr c hc hb);marks b hb:=by
  have hbn:b<m:=by
   rcases Yf b H0.n with h'|h';.omega
   .rw[ho b h']at hb;cases hb
  exact⟨(h.marks b hb).1,(h1 b hbn).trans (h.marks b hb).2.1,λc hc=>(h3 c (YF (hc0 b c hc) h.size)).trans ((h.marks b hb).2.2 c hc)⟩
 rows c cs e fr hc:=by obtain⟨cs',e',fr',g1,g2⟩:=h.rows c cs e fr hc;exact⟨cs',e',fr',(h3 c (YO.1 g1).1).trans g1,g2⟩
 loops c r hc:=by obtain⟨r',g1⟩:=h.loops c r hc;exact⟨r',(h3 c (YO.1 g1).1).trans g1⟩
end
end Go.Ev
end
section
namespace Go.Ev
open Go.RowKit
theorem tZ{rd}{P}{o:Oper}{a}{w}{K}(h:o.wpIn (WF rd) 0 P a w K (λ_ _ _=>False)):∃a' w',K a' w':=by
 have h:=h.2;have hroom:∀k,(WF rd).room k:=λk=>by simp[Fence.room]
 generalize(o.semAt (WF rd).round a.eval).run P w=r at*;cases r with
 |ok x w'=>
  cases x<;>simp only[Oper.uponIn]at h;case value v=>exact⟨_,_,h⟩
  case skip=>exact⟨_,_,h⟩
  case defer d=>exact⟨_,_,h⟩
  case enter f args=>obtain⟨e,w'',fr,he,_⟩:=h.2.2 [] (hroom _);cases e with|returned u=>exact⟨_,_,he⟩|panicked c=>simp_all|outgrown=>obtain⟨_,_,h⟩:=he;simp_all
  case row row args=>obtain⟨v,w'',he,_⟩:=h.2 default [] (hroom _);exact⟨_,_,he⟩
  case round l f tmps assign body=>obtain⟨e,w'',he,_⟩:=h.2.2 default [] (hroom _);cases e with|returned u=>exact⟨_,_,he⟩|panicked c=>simp_all|outgrown=>obtain⟨_,_,h⟩:=he;simp_all
 |halt x w'=>cases x<;>simp only[Oper.uponIn]at h
theorem M.le_trans{m1 m2 m3:M}(h:m1.le m2)(k:m2.le m3):m1.le m3:=⟨λb c x=>k.1 _ _ (h.1 _ _ x),λc z x=>k.2 _ _ (h.2 _ _ x)⟩
theorem oO{nt}{x}{d}(h:rY nt x=some d):d=x.map bj/\∀t,x=some t->t<nt:=by
 unfold rY at h;split at h;.simp_all
 simp_all
theorem TR.congr{m:M}{nt:Nat}{e e':Env}{tmps:Array Value}(h:TR m nt e tmps)(he:∀s,af s e'=af s e):TR m nt e' tmps:=⟨h.size,h.le,λt v hv=>by rw[he];exact h.get t v hv,λt h1 h2=>by rw[he];exact h.rest t h1 h2⟩
theorem aeL{m}{nt}{e e'}{a}{o:Oper}{ops}(h:TR m nt e a.tmps)(he:∀t,t∈o.looksAt ops->t<nt->af (bj t) e=af (bj t) e'):OR m nt e' a o:=λx hx ar har=>by
 have h1:=kB h har;have h2:aA ar e=aA ar e':=by
  unfold aL at har;split at har
  .rename_i t;split at har;.rename_i hlt;cases har;exact he t (QK _ (List.mem_filterMap.2 ⟨.tmp t,by simp_all,rfl⟩)) hlt
   simp_all
  .simp only[Yh]at har;obtain⟨u,_,rfl⟩:=har;rfl
  .cases har;rfl
  simp_all
 simp_all
theorem adS{m}{nt}{e e'}{tmps}{o:Oper}{ops}(h:TR m nt e tmps)(he:∀t,t∈o.looksAt ops->t<nt->af (bj t) e=af (bj t) e'):GT nt m e' ops o tmps:=λj b o' d h1 h2 h3 hlt=>by
 obtain⟨v,h4,h5⟩:=h.gt ops o j b o' d h1 h2 h3 hlt;refine⟨v,h4,?_⟩;rw[<-he d ?_ hlt];.omega
 .unfold Oper.looksAt;simp_all
theorem aa4(x):∀(k)(t:HT),∃t':HT,t'.get k=x/\∀j,j≠k->t'.get j=t.get j:=by intro k;induction k using YC2 with|_ k ih=>intro t;cases k with
  |zero=>cases t with|e=>exact⟨.n x .e .e,rfl,λj hj=>by cases j with|zero=>omega|succ j=>rw[HT.cQ,HT.uu,HT.uu];simp⟩|n u l r=>exact⟨.n x l r,rfl,λj hj=>by cases j with|zero=>omega|succ j=>rfl⟩
  |succ k=>
   have go:∀(u)(l r),(∀j,t.get j=HT.get (.n u l r) j)->∃t':HT,t'.get (k+1)=x/\∀j,j≠k+1->t'.get j=t.get j:=λu l r ht=>by
    by_cases hk:k%2=0;.obtain⟨l',h1,h2⟩:=ih (k/2) (by omega) l;refine⟨.n u l' r,by rw[HT.cQ,if_pos hk];omega,λj hj=>?_⟩;rw[ht];cases j with|zero=>rfl|succ j=>
      rw[HT.cQ,HT.cQ];split;.exact h2 _ (by omega)
      rfl
    .obtain⟨r',h1,h2⟩:=ih (k/2) (by omega) r;refine⟨.n u l r',by rw[HT.cQ,if_neg hk];omega,λj hj=>?_⟩;rw[ht];cases j with|zero=>rfl|succ j=>
      rw[HT.cQ,HT.cQ];split;.rfl
      .exact h2 _ (by omega)
   have he:∀j,HT.get .e j=HT.get (.n .dead .e .e) j:=λj=>by cases j with|zero=>rfl|succ j=>rw[HT.cQ,HT.uu,HT.uu];simp
   cases t with|e=>simp_all|n u l r=>simp_all
theorem Zx(f:Nat->eB):∀N,∃t:HT,∀b,t.get b=if b<N then f b else .dead
 |0=>⟨.e,λb=>by rfl⟩|N+1=>by
  obtain⟨t,h⟩:=Zx f N;obtain⟨t',h1,h2⟩:=aa4 (f N) N t;refine⟨t',λb=>?_⟩;by_cases hb:b=N;.simp_all
  .rw[h2 b hb,h b];by_cases hl:b<N;.rw[if_pos hl,if_pos (by omega)]
   .rw[if_neg hl,if_neg (by omega)]
theorem BT(f:Nat->eB)(N bF):∃H:Heap,H.n=N/\H.bF=bF/\(∀b,b<N->H.get b=f b)/\∀b,N<=b->H.get b=.dead:=by obtain⟨t,h⟩:=Zx f N;exact⟨.mk N bF t,rfl,rfl,λb hb=>(h b).trans (if_pos hb),λb hb=>(h b).trans (if_neg (by omega))⟩
theorem Ext.re{r0 rho rho':Nat->Option Nat}{H0 H H':Heap}{w00 w w':World}(h:Ext r0 H0 w00 rho H w)(hd0:∀b c,r0 b=some c->b<H0.n)(hc0:∀b c,r0 b=some c->c<w00.heap.size)(ho:∀b,H0.n<=b->H0.get b=.dead)(hn:H0.n<=H'.n)(hw:H'.bF=H.bF)(hg:∀b,b<H0.n->H'.get b=H.get b)(hr:∀b,b<H0.n->rho' b=rho b)(hnew:∀b c,H0.n<=b->rho' b=some c->rho b=some c\/w00.heap.size<=c)(hf:∀c,c<w00.heap.size->w'.heap[c]?=w.heap[c]?)(hs:w00.heap.size<=w'.heap.size):Ext r0 H0 w00 rho' H' w' where
 n:=hn;bF:=by rw[hw];exact h.bF
 size:=hs;cm b hb hlo:=⟨(hg b hb).trans (h.cm b hb (by omega)).1,(hr b hb).trans (h.cm b hb (by omega)).2⟩;old b c hb hx:=h.old b c hb (by rw[<-hr b hb];exact hx);live b c hx ha:=by have hb:=hd0 b c hx;rw[hr b hb];exact h.live b c hx (by rw[<-hg b hb];exact ha)
 qF b hb ha:=h.qF b hb (by rw[<-hg b hb];exact ha);new b c hb hx:=by
  rcases hnew b c hb hx with h'|h'
  .rcases h.new b c hb h' with h1|⟨b0,h1,h2⟩;.exact YH h1
   .exact YE ⟨b0,h1,by omega⟩
  .exact YH h'
 fr c hc hx:=(hf c hc).trans (h.fr c hc λb hb=>by have:=hx b hb;omega);marks b hb:=by
  have hlt:b<H0.n:=by
   rcases Yf b H0.n with h'|h';.exact h'
   .rw[ho b h']at hb;cases hb
  obtain⟨h1,h2,h3⟩:=h.marks b hb;exact⟨(hg b hlt).trans h1,(hr b hlt).trans h2,λc hc=>(hf c (hc0 b c hc)).trans (h3 c hc)⟩
 rows c cs e fr hc:=by obtain⟨cs',e',fr',h1,h2⟩:=h.rows c cs e fr hc;exact⟨cs',e',fr',(hf c (YO.1 hc).1).trans h1,h2⟩
 loops c r hc:=by obtain⟨r',h1⟩:=h.loops c r hc;exact⟨r',(hf c (YO.1 hc).1).trans h1⟩
section
variable{P:Program}{nt:Nat}{ops:Array Oper}{iso pur:Nat->Bool}{E:Nat->Env}{Hh:Nat->Heap}{Vv:Nat->V}{B:Nat->Option Nat}
def jv(iso pur:Nat->Bool)(i:Nat):Prop:=iso i=true/\pur i=false
structure J9(n:Nat)(iso pur:Nat->Bool)(Hh:Nat->Heap):Prop where
 wn:∀i,i<=n->(Hh i).bF<=(Hh i).n
 out:∀i,i<=n->∀b,(Hh i).n<=b->(Hh i).get b=.dead
 le:∀i,i<n->(Hh i).n<=(Hh (i+1)).n/\(Hh (i+1)).bF<=(Hh i).bF
 qx:∀i,i<n->¬jv iso pur i->Part (Hh i) (Hh (i+1))/\(Hh (i+1)).bF=(Hh i).bF
theorem TY(hst:∀j o,ops[j]?=some o->gW P nt ops (iso j) (pur j) (B j) o (E j) (Hh j) (Vv j) (E (j+1)) (Hh (j+1))){base}{w0}{rho}{w}{a:Act}(hp:PR P base w0 rho (Hh 0) w)(ht:TR (mu rho (Hh 0) w) nt (E 0) a.tmps):∀i,i<=ops.size->(∃(rho':Nat->Option Nat)(w':World)(a':Act),PR P base w0 rho' (Hh i) w'/\TR (mu rho' (Hh i) w') nt (E i) a'.tmps)/\∀j,j<i->(Hh j).n<=(Hh (j+1)).n/\(Hh (j+1)).bF<=(Hh j).bF/\(¬jv iso pur j->Part (Hh j) (Hh (j+1))/\(Hh (j+1)).bF=(Hh j).bF):=by intro i;induction i with|zero=>exactλ_=>⟨⟨rho,w,a,hp,ht⟩,λj hj=>by omega⟩|succ i ih=>
  intro hi;obtain⟨⟨rho1,w1,a1,p1,t1⟩,h1⟩:=ih (by omega);have hlt:i<ops.size:=by omega
  have ho:=Yd hlt;obtain⟨d,hd,he,hs⟩:=hst i _ ho;have key:(∃(rho':Nat->Option Nat)(w':World)(a':Act),PR P base w0 rho' (Hh (i+1)) w'/\TR (mu rho' (Hh (i+1)) w') nt (E (i+1)) a'.tmps)/\(Hh i).n<=(Hh (i+1)).n/\(Hh (i+1)).bF<=(Hh i).bF/\(¬jv iso pur i->Part (Hh i) (Hh (i+1))/\(Hh (i+1)).bF=(Hh i).bF):=by
   have hself:Part (Hh i) (Hh i):=⟨YC _,λ_ _=>rfl,p1.out⟩;rcases hs with⟨_,hv,hH⟩|⟨_,_,hH,hop⟩|⟨_,hpu,his,hop⟩|⟨_,_,_,H1,H1',g1,g2,g3,hop,g4,g5,g6,g7⟩;.rw[hH,he,hv];exact⟨⟨rho1,w1,a1.put (ops[i]).dst undef,p1,ri t1 hd pL⟩,YC _,YC _,λ_=>⟨hself,rfl⟩⟩
   .obtain⟨a2,w2,cv,rfl,rho2,v2,p2,x2⟩:=tZ (hop (Hh i) (λ_ _=>rfl) none base w0 rho1 w1 a1 p1 (t1.or _));rw[hH,he];exact⟨⟨rho2,w2,_,p2,ri (t1.mono x2.mu) hd v2⟩,YC _,YC _,λ_=>⟨hself,rfl⟩⟩
   .obtain⟨a2,w2,cv,rfl,rho2,v2,p2,x2⟩:=tZ (hop none base w0 rho1 w1 a1 p1 (t1.or _));rw[he];exact⟨⟨rho2,w2,_,p2,ri (t1.mono x2.mu) hd v2⟩,x2.n,x2.bF,λhn=>absurd ⟨his,hpu⟩ hn⟩
   .have p1':=p1.Jv g1 g2 (by omega);have m1:(mu rho1 (Hh i) w1).le (mu rho1 H1 w1):=⟨λb c⟨h1,h2⟩=>⟨by omega,λha=>h2 (by simp_all)⟩,λ_ _ h=>h⟩;obtain⟨a2,w2,cv,rfl,rho2,v2,p2,x2⟩:=tZ (hop none base w0 rho1 w1 a1 p1' ((t1.mono m1).or _));have hn:(Hh i).n<=(Hh (i+1)).n:=by have:=x2.n;omega
    have p3:=p2.Jv g5 g6 (by have:=p1.wn;omega);have m3:(mu rho2 H1' w2).le (mu rho2 (Hh (i+1)) w2):=⟨λb c⟨h1,h2⟩=>⟨by omega,λha=>h2 (by simp_all)⟩,λ_ _ h=>h⟩;rw[he];refine⟨⟨rho2,w2,_,p3,ri ((t1.mono m1).mono (M.le_trans x2.mu m3)) hd (VR.mono m3 _ _ v2)⟩,hn,by omega,λ_=>⟨⟨hn,λb hb=>?_,p1.out⟩,g7⟩⟩;rw[g6,(x2.cm b (by omega) (by omega)).1,g2]
  refine⟨key.1,λj hj=>?_⟩;by_cases hji:j=i;.simp_all
  .exact h1 j (by omega)
theorem UJ{n}(h:J9 n iso pur Hh):∀T,T<=n->∀k,k<=T->(∀j,k<=j->j<T->¬jv iso pur j)->Part (Hh k) (Hh T)/\(Hh T).bF=(Hh k).bF:=by
 intro T;induction T with|zero=>
  intro hT k hk _;have:k=0:=by omega
  subst this;exact⟨⟨YC _,λ_ _=>rfl,h.out 0 hT⟩,rfl⟩|succ T ih=>
  intro hT k hk hj;by_cases hkT:k=T+1;.subst hkT;exact⟨⟨YC _,λ_ _=>rfl,h.out _ hT⟩,rfl⟩
  .obtain⟨h1,h2⟩:=ih (by omega) k (by omega) λj h1 h2=>hj j h1 (by omega);obtain⟨h3,h4⟩:=h.qx T (by omega) (hj T (by omega) (by omega));exact⟨h1.trans h3,h4.trans h2⟩
theorem de{n}(h:J9 n iso pur Hh):∀T,T<=n->∀k,k<=T->(Hh k).n<=(Hh T).n/\(Hh T).bF<=(Hh k).bF:=by intro T;induction T with|zero=>simp|succ T ih=>
  intro hT k hk;by_cases hkT:k=T+1;.simp_all
  .obtain⟨h1,h2⟩:=ih (by omega) k (by omega);obtain⟨h3,h4⟩:=h.le T (by omega);omega
theorem AO(iso pur)(n):∀m T,n-T=m->T<=n->∃T',T<=T'/\T'<=n/\(T'<n->jv iso pur T')/\∀j,T<=j->j<T'->¬jv iso pur j:=by intro m;induction m with|zero=>intro T h1 h2;exact⟨T,YC _,h2,λh=>by omega,λj h3 h4=>by omega⟩|succ m ih=>
  intro T h1 h2;by_cases hh:jv iso pur T;.exact⟨T,YC _,h2,λ_=>hh,λj h3 h4=>by omega⟩
  .obtain⟨T',h3,h4,h5,h6⟩:=ih (T+1) (by omega) (by omega);exact⟨T',by omega,h4,h5,λj h7 h8=>by
    by_cases hj:j=T;.simp_all
    .exact h6 j (by omega) h8⟩
def KH(ops:Array Oper)(k:Nat):Option Slot:=(ops[k]?.bind (·.dst)).map bj
structure Mid(P:Program)(nt:Nat)(ops:Array Oper)(iso pur al:Nat->Bool)(E:Nat->Env)(Hh:Nat->Heap)(Vv:Nat->V)(base:Nat)(w0:World)(rho0:Nat->Option Nat)(w00:World)(ds:List Deferred)(listed:Array Bool)(a:Act)(w:World)(T:Nat)(rho:Nat->Option Nat)(Hx:Heap):Prop where
 size:listed.size=ops.size
 closed:sV ops listed
 le:T<=ops.size
 Sm:T<ops.size->jv iso pur T
 not:¬dL listed T
 L4:∀i,i<T->jv iso pur i->dL listed i
 xn:Hx.n=(Hh ops.size).n
 xw:Hx.bF=(Hh T).bF
 Z5:∀b,b<(Hh T).n->Hx.get b=(Hh T).get b
 xhi:∀b,(Hh T).n<=b->b<Hx.n->(Hx.get b).alive
 pr:PR P base w0 rho Hx w
 ext:Ext rho0 (Hh 0) w00 rho Hx w
 tr:TR (mu rho Hx w) nt (jG (KH ops) Vv (E 0) (λk=>listed.getD k false) ops.size) a.tmps
 defers:a.defers=ds
 bound:∀b c,rho b=some c->∀k,k<T->¬dL listed k->¬((Hh k).n<=b/\b<(Hh (k+1)).n)kn:∀b c,rho b=some c->∀k,k<=T->(∀j,k<=j->j<T->¬jv iso pur j)->b<(Hh k).n->Kn P (Hh k) b
 Jo:∀b c,rho b=some c->(Hh T).n<=b->w00.heap.size<=c/\∃i,T<=i/\i<ops.size/\dL listed i/\al i=true/\b=(Hh i).n/\∃(bl:eB)(ob:Obj),nZ (Hh i) bl (Hh (i+1))/\bl.alive/\(∀m,BR P m bl ob)/\Hx.get b=bl
section walk
variable{al:Nat->Bool}{base:Nat}{w0:World}{rho0:Nat->Option Nat}{w00:World}{ds:List Deferred}{rd:Option Nat}{Q:Exit->Act->World->Prop}(hst:∀j o,ops[j]?=some o->gW P nt ops (iso j) (pur j) (B j) o (E j) (Hh j) (Vv j) (E (j+1)) (Hh (j+1)))(hE:Dg ops)(hap:jP ops (Region.before ops)=true)(hiso:∀i j,jv iso pur i->i≠j->pur j=false->j<ops.size->((Region.before ops).getD i 0).testBit j=true\/((Region.before ops).getD j 0).testBit i=true\/al j=true)(hhal:∀i,jv iso pur i->al i=false)(hal:∀i o,ops[i]?=some o->al i=true->(GW nt (E i) ops o false/\Vv i=.cG []/\Hh (i+1)=Hh i)\/(qL P nt (E i) o (Hh i) (Vv i) (Hh (i+1))/\∀k,k<ops.size->jv iso pur k->i<k->jI (Region.before ops) i k=false->(Hh i).n<(Hh k).n->(Hh (k+1)).get (Hh i).n=(Hh k).get (Hh i).n))(hhp:J9 ops.size iso pur Hh)(hnt:nt<=512)(hd0:∀b c,rho0 b=some c->b<(Hh 0).n)(hc0:∀b c,rho0 b=some c->c<w00.heap.size)(hB:∀i b,i<ops.size->B i=some b->b<(Hh 0).n)(hkp:∀i k b,i<ops.size->k<ops.size->B i=some b->jv iso pur k->jI (Region.before ops) i k=false->b<(Hh k).n->(Hh (k+1)).get b=(Hh k).get b)(hke:∀i,i<ops.size->∀t,t<nt->∃m c,VR m (af (bj t) (E i)) c/\∀b c',m.b b c'->b<(Hh i).n)(hQ:∀a' w' rho',a'.defers=ds->PR P base w0 rho' (Hh ops.size) w'->TR (mu rho' (Hh ops.size) w') nt (E ops.size) a'.tmps->Ext rho0 (Hh 0) w00 rho' (Hh ops.size) w'->Q .normal a' w')
include hst in theorem RP:∀k,k<ops.size->E (k+1)=dD (KH ops k) (Vv k) (E k):=λk hk=>by have ho:=Yd hk;obtain⟨d,hd,he,_⟩:=hst k _ ho;rw[he,(oO hd).1];simp[KH,ho]
include hst hnt in theorem U0{k t}(hk:k<ops.size)(ht:t<nt)(h:KH ops k=some (bj t)):∃o,ops[k]?=some o/\o.dst=some t:=by have ho:=Yd hk;obtain⟨d,hd,he,_⟩:=hst k _ ho;obtain⟨h1,h2⟩:=oO hd;refine⟨_,ho,?_⟩;unfold KH at h;rw[ho,YF0,Yh]at h;obtain⟨t',h3,h4⟩:=h;have:=h2 t' h3;rw[h3,fI (YF this hnt) (YF ht hnt) h4]
include hst hE hap hnt in theorem view{listed}{i}{o}(hC:sV ops listed)(ho:ops[i]?=some o)(hi:¬dL listed i)(hr:∀e∈o.after.toList,Region.binds .any e=true->dL listed e.on){t:Nat}(ht:t∈vP ops o)(hlt:t<nt):af (bj t) (jG (KH ops) Vv (E 0) (λk=>listed.getD k false) ops.size)=af (bj t) (E i):=by
 have hin:=(YO.1 ho).1;refine KN (Nat.le_of_lt hin) (RP hst) λk hk hd=>?_;obtain⟨ok,hok,hdk⟩:=U0 hst hnt hk hlt hd;by_cases hki:k=i;.subst hki;exact⟨λh=>absurd h hi,λh=>by omega⟩
 .have h1:=Ds hap hok ho hki hdk ht;split at h1;.rename_i h2;exact⟨λ_=>h2,λ_=>ef hE hC i k (YE λo' ho'=>by simp_all) h1⟩
  .rename_i h2;exact⟨λhs=>absurd (ef hE hC k i (YH hs) h1) hi,λh=>absurd h h2⟩
include hst hE hap hnt in theorem TZ{listed}{i}{o}(hsz:listed.size=ops.size)(hC:sV ops listed)(ho:ops[i]?=some o)(hi:¬dL listed i){m}{a:Act}{cv}(ht:TR m nt (jG (KH ops) Vv (E 0) (λk=>listed.getD k false) ops.size) a.tmps)(hv:VR m (Vv i) cv):TR m nt (jG (KH ops) Vv (E 0) (λk=>(listed.setIfInBounds i true).getD k false) ops.size) (a.put o.dst cv).tmps:=by
 have hin:=(YO.1 ho).1;obtain⟨d,hd,_⟩:=hst i _ ho;have hdo:KH ops i=d:=by rw[(oO hd).1];simp[KH,ho]
 refine(ri ht hd hv).congr λs=>?_;rw[<-hdo];refine RY hin (by simpa[dL]using hi) (λk=>dc (by omega)) (λk hk hik hs s' h1 h2=>?_) s;unfold KH at h1 h2;have hok:=Yd hk;rw[hok,YF0,Yh]at h1;rw[ho,YF0,Yh]at h2;obtain⟨tk,h3,h4⟩:=h1;obtain⟨ti,h5,h6⟩:=h2;obtain⟨dk,hdk,_⟩:=hst k _ hok;have hti:=(oO hd).2 ti h5;have htk:=(oO hdk).2 tk h3;have:=fI (YF hti hnt) (YF htk hnt) (h6.trans h4.symm);have h7:=Ds hap ho hok (by omega) h5 (show ti∈vP ops ops[k]from QK _ (by simp_all));rw[if_pos hik]at h7;exact hi (ef hE hC k i (YH hs) h7)
theorem Ic{listed}{i}{o}(hi:i<listed.size)(hC:sV ops listed)(ho:ops[i]?=some o)(hr:∀e∈o.after.toList,Region.binds .any e=true->dL listed e.on):sV ops (listed.setIfInBounds i true):=λj hj o' ho' e he hb=>by
 rw[dc hi]at hj⊢;rcases hj with rfl|hj;.simp_all
 .exact YE (hC j hj o' ho' e he hb)
theorem count_set{l:List Bool}{i}(hi:l[i]?=some false):(l.set i true).count false+1=l.count false:=by have hlt:=(YW.1 hi).1;have hv:=(YW.1 hi).2;rw[List.count_set hlt,hv];have:0<l.count false:=List.count_pos_iff.2 (by rw[<-hv];simp);simp_all
include hst hE hap hiso hhal hal hhp hnt hd0 hc0 hke hB hkp hQ in theorem walk(h0out:∀b,(Hh 0).n<=b->(Hh 0).get b=.dead):∀(fuel:Nat)(listed:Array Bool)(a:Act)(w:World)(T:Nat)(rho:Nat->Option Nat)(Hx:Heap),Mid P nt ops iso pur al E Hh Vv base w0 rho0 w00 ds listed a w T rho Hx->listed.toList.count false=fuel->wpAnyIn (WF rd) 0 P .any ops Q fuel listed a w:=by
 have hN:∀T,T<=ops.size->(Hh T).n<=(Hh ops.size).n:=λT hT=>(de hhp ops.size (YC _) T hT).1;have h0N:∀T,T<=ops.size->(Hh 0).n<=(Hh T).n:=λT hT=>(de hhp T hT 0 (Ya _)).1;have fin:∀(listed:Array Bool)(a:Act)(w:World)(T:Nat)(rho:Nat->Option Nat)(Hx:Heap),Mid P nt ops iso pur al E Hh Vv base w0 rho0 w00 ds listed a w T rho Hx->(∀i,i<ops.size->dL listed i)->Q .normal a w:=λlisted a w T rho Hx hM hall=>by
  have hT:T=ops.size:=by
   rcases Yf T ops.size with h|h;.exact absurd (hall T h) hM.not
   .have:=hM.le;omega
  subst hT;have hg:∀b,(Hh ops.size).get b=Hx.get b:=λb=>by
   rcases Yf b (Hh ops.size).n with h|h;.exact(hM.Z5 b h).symm
   .rw[hhp.out _ (YC _) b h,hM.pr.out b (by rw[hM.xn];exact h)]
  have hm:(mu rho Hx w).le (mu rho (Hh ops.size) w):=⟨λb c hx=>⟨by rw[<-hM.xn];exact hx.1,by rw[hg];exact hx.2⟩,λ_ _ h=>h⟩;refine hQ a w rho hM.defers (hM.pr.Jv hM.xn.symm hg (hhp.wn _ (YC _))) ((hM.tr.mono hm).congr λs=>?_) (hM.ext.re hd0 hc0 h0out (h0N _ (YC _)) hM.xw.symm (λb _=>hg b) (λ_ _=>rfl) (λb c _ h=>YH h) (λ_ _=>rfl) hM.ext.size);exact(KN (YC _) (RP hst) λk hk _=>⟨λ_=>hk,λ_=>hall k hk⟩).symm
 have hready:∀(listed:Array Bool),Region.ready .any ops listed=[]->listed.size=ops.size->∀i,i<ops.size->dL listed i:=λlisted hr hsz i=>by induction i using YC2 with|_ i ih=>
   intro hi;by_cases hb:dL listed i;.exact hb
   .have ho:ops[i]?=some ops[i]:=Yd hi;have hmem:i∈Region.ready .any ops listed:=mem_ready.2 ⟨by have hex:listed[i]?=some listed[i]:=Yd (by omega);unfold dL at hb;rw[Yn,hex]at hb⊢;simpa using hb,_,ho,λe he hbd=>ih e.on (hE i _ ho e (by simpa using he) hbd) (by have:=hE i _ ho e (by simpa using he) hbd;omega)⟩;rw[hr]at hmem;cases hmem
 intro fuel;induction fuel with|zero=>
  intro listed a w T rho Hx hM hc;have hall:∀i,i<ops.size->dL listed i:=λi hi=>by
   have hlt:i<listed.size:=by rw[hM.size];exact hi
   have hex:listed[i]?=some listed[i]:=Yd hlt;unfold dL;rw[Yn,hex,YU];cases hv:listed[i]with|true=>rfl|false=>
    have:false∈listed.toList:=by rw[<-hv];simp
    rw[List.count_eq_zero]at hc;exact absurd this hc
  refine⟨?_,fin listed a w T rho Hx hM hall⟩;refine List.eq_nil_iff_forall_not_mem.2 λi hi=>?_;obtain⟨h1,o,ho,_⟩:=mem_ready.1 hi;have hb:=hall i (YO.1 ho).1;have hlt:i<listed.size:=by rw[hM.size];exact(YO.1 ho).1
  have hex:listed[i]?=some listed[i]:=Yd hlt;unfold dL at hb;rw[Yn,hex,YU]at hb h1;rw[hb]at h1;cases h1|succ fuel ih=>
  intro listed a w T rho Hx hM hc;refine⟨λhr=>fin listed a w T rho Hx hM (hready listed hr hM.size),λi hi=>?_⟩;obtain⟨h1,o,ho,hr0⟩:=mem_ready.1 hi;have hin:i<ops.size:=(YO.1 ho).1;have hil:i<listed.size:=by rw[hM.size];exact hin
  have hex:listed[i]?=some listed[i]:=Yd hil;have hv:listed[i]=false:=by rw[Yn,hex,YU]at h1;exact h1
  have hnb:¬dL listed i:=by unfold dL;rw[Yn,hex,YU,hv];simp
  have hr:∀e∈o.after.toList,Region.binds .any e=true->dL listed e.on:=λe he hb=>hr0 e (by simpa using he) hb;have hc':(listed.setIfInBounds i true).toList.count false=fuel:=by have:=count_set (l:=listed.toList) (i:=i) (by simpa[hv]using hex);rw[Array.toList_setIfInBounds];omega
  have hsz':(listed.setIfInBounds i true).size=ops.size:=by simpa using hM.size
  have hC':=Ic hil hM.closed ho hr;have hview:∀t,t∈o.looksAt ops->t<nt->af (bj t) (jG (KH ops) Vv (E 0) (λk=>listed.getD k false) ops.size)=af (bj t) (E i):=λt ht hlt=>view hst hE hap hnt hM.closed ho hnb hr (List.mem_append_right _ ht) hlt;have hgt:GT nt (mu rho Hx w) (E i) ops o a.tmps:=adS hM.tr hview;have hor:OR (mu rho Hx w) nt (E i) a o:=aeL hM.tr hview;have hput:∀{m:M}{cv:Value},TR m nt (jG (KH ops) Vv (E 0) (λk=>listed.getD k false) ops.size) a.tmps->VR m (Vv i) cv->TR m nt (jG (KH ops) Vv (E 0) (λk=>(listed.setIfInBounds i true).getD k false) ops.size) (a.put o.dst cv).tmps:=λht hv=>TZ hst hE hap hnt hM.size hM.closed ho hnb ht hv;have hbi:∀k,((Region.before ops).getD i 0).testBit k=true->dL listed k:=λk hk=>ef hE hM.closed i k (YE λo' ho'=>by rw[ho]at ho';cases ho';exact hr) hk;have hTn:∀j,j≠T->pur j=false->j<ops.size->T<ops.size->¬dL listed j->(∀k,((Region.before ops).getD j 0).testBit k=true->dL listed k)->j<T\/(al j=true/\T<j):=λj h2 h3 h4 h5 h6 h7=>by
   rcases hiso T j (hM.Sm h5) (Ne.symm h2) h3 h4 with h8|h8|h8;.exact YH (gD hE T j h8)
   .exact absurd (h7 T h8) hM.not
   .rcases Yf j T with hjT|hjT;.exact YH hjT
    .exact YE ⟨h8,by omega⟩
  have hpx:Part (Hh T) Hx:=⟨by rw[hM.xn];exact hN T hM.le,hM.Z5,hhp.out T hM.le⟩;have low:∀(H1:Heap),Part H1 Hx->(Hh i).n<=H1.n->OR (mu (cutAt H1.n rho) H1 w) nt (E i) a o:=λH1 hp1 hn1 x hx ar har=>by
   have v2:=hor x hx ar har;have hkn:∃m c,VR m (aA ar (E i)) c/\∀b c',m.b b c'->b<H1.n:=by
    unfold aL at har;split at har
    .split at har;.rename_i t ht;cases har;obtain⟨m,c,q1,q2⟩:=hke i hin t ht;exact⟨m,c,q1,λb c' hm=>YF (q2 b c' hm) hn1⟩
     .cases har
    .simp only[Yh]at har;obtain⟨u,hu,rfl⟩:=har;exact⟨⟨λ_ _=>False,λ_ _=>False⟩,_,tm hu,λ_ _ h=>h.elim⟩
    .cases har;exact⟨⟨λ_ _=>False,λ_ _=>False⟩,_,by simp only[aA,VR];exact⟨#[],rfl,by simp only[bZ]⟩,λ_ _ h=>h.elim⟩
    .cases har
   obtain⟨m,c,q1,q2⟩:=hkn;exact VR.mono (Fs q2 hp1) _ _ (VR.meet _ _ _ q1 v2)
  obtain⟨d,hd,he,hs⟩:=hst i o ho;unfold wpOpIn;simp only[ho];by_cases hh:jv iso pur i
  .have hiT:i=T:=by
    by_cases hiT:i=T;.exact hiT
    .exfalso;have hlt:i<T:=by
      rcases Yf T ops.size with h|h
      .rcases hTn i hiT hh.2 hin h hnb hbi with h'|h';.exact h'
       .have h'':=h'.1;rw[hhal i hh]at h'';cases h''
      .omega
     exact hnb (hM.L4 i hlt hh)
   subst hiT;have prT:PR P base w0 (cutAt (Hh i).n rho) (Hh i) w:=hM.pr.part hpx (hhp.wn i hM.le) λb c hr hb=>hM.kn b c hr i (YC _) (λj h1 h2=>by omega) hb;have orT:=low (Hh i) hpx (YC _);have adv:∀(rho':Nat->Option Nat)(w':World)(cv:Value),PR P base w0 rho' (Hh (i+1)) w'->Ext (cutAt (Hh i).n rho) (Hh i) w rho' (Hh (i+1)) w'->VR (mu rho' (Hh (i+1)) w') (Vv i) cv->wpAnyIn (WF rd) 0 P .any ops Q fuel (listed.setIfInBounds i true) (a.put o.dst cv) w':=λrho' w' cv p1 x1 v1=>by
    obtain⟨T',t1,t2,t3,t4⟩:=AO iso pur ops.size _ (i+1) rfl hin;obtain⟨b1,b2⟩:=UJ hhp T' t2 (i+1) t1 t4;have hiN:=(de hhp (i+1) (by omega) i (by omega)).1;obtain⟨Hy,y1,y2,y3,y4⟩:=BT (λb=>if b<(Hh T').n then(Hh T').get b else Hx.get b) (Hh ops.size).n (Hh T').bF;have wait:∀b c,rho b=some c->(Hh i).n<=b->(Hh (i+1)).n<=b/\w00.heap.size<=c/\∃i0,i+1<=i0/\i0<ops.size/\dL listed i0/\al i0=true/\b=(Hh i0).n/\∃(bl:eB)(ob:Obj),nZ (Hh i0) bl (Hh (i0+1))/\bl.alive/\(∀m,BR P m bl ob)/\Hx.get b=bl:=λb c hr hb=>by
     obtain⟨g0,i0,g1,g2,g3,g4,g5,g6⟩:=hM.Jo b c hr hb;have hne:i0≠i:=λh=>by subst h;rw[hhal _ hh]at g4;cases g4
     have hle:i+1<=i0:=by omega
     exact⟨by rw[g5];exact(de hhp i0 (by omega) (i+1) hle).1,g0,i0,hle,g2,g3,g4,g5,g6⟩
    have pnd:∀b c,rho b=some c->(Hh i).n<=b->Hy.get b=Hx.get b/\b<(Hh ops.size).n/\w'.heap[c]?=w.heap[c]?/\∀b0,rho' b0≠some c:=λb c hr hb=>by
     obtain⟨_,_,i0,g1,g2,_,_,g5,bl,ob,g6,_,_,g7⟩:=wait b c hr hb;have hbN:b<(Hh ops.size).n:=by have:=hN (i0+1) (by omega);have:=g6.n;omega
     have hcs:=(hM.pr.jM b c hr).2.2.1;refine⟨?_,hbN,x1.fr c hcs λb0 hb0=>?_,λb0 hb0=>?_⟩
     .rw[y3 b hbN];split
      .rename_i hlt;have h2:i0+1<=T':=by
        rcases Yf i0 T' with h|h;.exact h
        .have:=(de hhp i0 (by omega) T' h).1;omega
       obtain⟨q1,_⟩:=UJ hhp T' t2 (i0+1) h2 λj h3 h4=>t4 j (by omega) h4;rw[q1.get b (by have:=g6.n;omega),g7,g5,g6.get]
      .rfl
     .obtain⟨h3,h4⟩:=dK hb0;have:=hM.pr.inj b0 b c h4 hr;omega
     .rcases Yf b0 (Hh i).n with h|h;.have h3:=(dK (x1.old b0 c h hb0)).2;have:=hM.pr.inj b0 b c h3 hr;omega
      .rcases x1.new b0 c h hb0 with h3|⟨b2,h3,_⟩;.omega
       .obtain⟨h4,h5⟩:=dK h3;have:=hM.pr.inj b2 b c h5 hr;omega
    have hTN:=hN T' t2;have hyget:∀b,b<(Hh (i+1)).n->Hy.get b=(Hh (i+1)).get b:=λb hb=>by have:=b1.n;rw[y3 b (by omega),if_pos (by omega),b1.get b hb]
    generalize hrho2:(λb=>if b<(Hh (i+1)).n then rho' b else rho b)=rho2;have r2lo:∀b,b<(Hh (i+1)).n->rho2 b=rho' b:=λb hb=>by rw[<-hrho2];exact if_pos hb
    have r2hi:∀b,(Hh (i+1)).n<=b->rho2 b=rho b:=λb hb=>by rw[<-hrho2];exact if_neg (by omega)
    have m1:(mu rho' (Hh (i+1)) w').le (mu rho2 Hy w'):=⟨λb c⟨g1,g2⟩=>⟨by rw[y1];have:=b1.n;omega,λha=>by rw[r2lo b g1];exact g2 (by rw[<-hyget b g1];exact ha)⟩,λ_ _ h=>h⟩;have mX:(mu rho Hx w).le (mu rho2 Hy w'):=by
     refine⟨λb c⟨g1,g2⟩=>?_,x1.mu.2⟩;rcases Yf b (Hh i).n with h|h;.exact m1.1 b c (x1.mu.1 b c ⟨h,λha=>by rw[rW h];exact g2 (by rw[hM.Z5 b h];exact ha)⟩)
     .have hr:=g2 (hM.xhi b h g1);exact⟨by rw[y1,<-hM.xn];exact g1,λ_=>by rw[r2hi b (wait b c hr h).1];exact hr⟩
    have cross:∀b b' c,rho' b=some c->rho b'=some c->(Hh (i+1)).n<=b'->False:=λb b' c h1 h2 h3=>(pnd b' c h2 (by omega)).2.2.2 b h1;have p2:PR P base w0 rho2 Hy w':=by
     refine⟨p1.below,p1.cS,by rw[y1,y2];have:=hhp.wn T' t2;omega,λb c hrb=>?_,λb b' c h1 h2=>?_,λb c hrb=>?_,λb hb=>y4 b (by rw[<-y1];exact hb),p1.gl.1,p1.gl.2.1,λb c hrb=>by
      rcases Yf b (Hh (i+1)).n with h|h;.rw[r2lo b h]at hrb;exact p1.gl.2.2 b c hrb
      .rw[r2hi b h]at hrb;exact hM.pr.gl.2.2 b c hrb⟩
     .rcases Yf b (Hh (i+1)).n with h|h;.rw[r2lo b h]at hrb;obtain⟨g1,g2,g3,g4⟩:=p1.jM b c hrb;exact⟨by rw[y1];have:=b1.n;omega,g2,g3,by rw[hyget b h];exact g4⟩
      .rw[r2hi b h]at hrb;obtain⟨g1,g2,g3,g4⟩:=hM.pr.jM b c hrb;exact⟨by rw[y1,<-hM.xn];exact g1,g2,YF g3 x1.size,by rw[(pnd b c hrb (by omega)).1];exact g4⟩
     .rcases Yf b (Hh (i+1)).n with h|h<;>rcases Yf b' (Hh (i+1)).n with h'|h';.rw[r2lo b h]at h1;rw[r2lo b' h']at h2;exact p1.inj b b' c h1 h2
      .rw[r2lo b h]at h1;rw[r2hi b' h']at h2;exact(cross b b' c h1 h2 h').elim
      .rw[r2hi b h]at h1;rw[r2lo b' h']at h2;exact(cross b' b c h2 h1 h).elim
      .rw[r2hi b h]at h1;rw[r2hi b' h']at h2;exact hM.pr.inj b b' c h1 h2
     .rcases Yf b (Hh (i+1)).n with h|h;.rw[r2lo b h]at hrb;obtain⟨ob,g1,g2⟩:=p1.cV b c hrb;exact⟨ob,g1,by rw[hyget b h];exact g2.mono m1⟩
      .rw[r2hi b h]at hrb;obtain⟨ob,g1,g2⟩:=hM.pr.cV b c hrb;obtain⟨q1,_,q2,_⟩:=pnd b c hrb (by omega);exact⟨ob,by rw[q2];exact g1,by rw[q1];exact g2.mono mX⟩
    have e1:Ext rho0 (Hh 0) w00 (cutAt (Hh i).n rho) (Hh i) w:=hM.ext.re hd0 hc0 h0out (h0N i hM.le) hM.xw.symm (λb hb=>(hM.Z5 b (by have:=h0N i hM.le;omega)).symm) (λb hb=>rW (by have:=h0N i hM.le;omega)) (λb c _ h=>YH (dK h).2) (λ_ _=>rfl) hM.ext.size;have e2:=Ext.trans hd0 e1 x1;have h01:=h0N (i+1) (by omega);have x3:Ext rho0 (Hh 0) w00 rho2 Hy w':=e2.re hd0 hc0 h0out (by rw[y1];exact h0N _ (YC _)) (by rw[y2,b2]) (λb hb=>hyget b (by omega)) (λb hb=>r2lo b (by omega)) (λb c hb hr=>by
     rcases Yf b (Hh (i+1)).n with h|h;.exact YH (by rw[<-r2lo b h];exact hr)
     .rw[r2hi b h]at hr;exact YE (wait b c hr (by omega)).2.1) (λ_ _=>rfl) e2.size;refine ih _ _ _ T' rho2 Hy ⟨hsz',hC',t2,t3,λhb=>?_,λj hj hjh=>?_,y1,y2,λb hb=>by rw[y3 b (by omega),if_pos hb],λb hb hb'=>?_,p2,x3,hput (hM.tr.mono mX) (VR.mono m1 _ _ v1),(put_defers _ _ _).trans hM.defers,λb c hrb k hk hnk=>?_,λb c hrb k hk hkj hbk=>?_,λb c hrb hb=>?_⟩ hc'
    .rw[dc hil]at hb;rcases hb with hb|hb;.omega
     .rcases Yf T' ops.size with h|h
      .have hp:=t3 h;rcases hiso T' i hp (by omega) hh.2 hin with h8|h8|h8;.exact hnb (ef hE hM.closed T' i (YH hb) h8)
       .have:=gD hE i T' h8;omega
       .rw[hhal i hh]at h8;cases h8
      .unfold dL at hb;rw[Yn,Array.getElem?_eq_none (by rw[hM.size];exact h)]at hb;simp at hb
    .rw[dc hil];by_cases hji:j=i;.exact YH hji
     .rcases Yf j i with h|h;.exact YE (hM.L4 j h hjh)
      .exact absurd hjh (t4 j (by omega) hj)
    .rw[y1]at hb';rw[y3 b hb',if_neg (by omega)];exact hM.xhi b (by have:=b1.n;omega) (by rw[hM.xn];exact hb')
    .rw[dc hil]at hnk;have hki:k≠i:=λh=>hnk (YH h);rintro⟨g1,g2⟩;rcases Yf b (Hh (i+1)).n with hb|hb
     .rw[r2lo b hb]at hrb;rcases Yf k i with h|h;.have hn1:=(de hhp i hM.le (k+1) (by omega)).1;exact hM.bound b c (dK (x1.old b c (by omega) hrb)).2 k h (λh=>hnk (YE h)) ⟨g1,g2⟩
      .have hn1:=(de hhp k (by omega) (i+1) (by omega)).1;omega
     .rw[r2hi b hb]at hrb;obtain⟨_,_,i0,q1,q2,q3,_,q5,bl,ob,q6,_⟩:=wait b c hrb (by omega);have hk0:k≠i0:=λh=>hnk (YE (h▸q3));have:=q6.n;rcases Yf k i0 with h|h;.have:=(de hhp i0 (by omega) (k+1) (by omega)).1;omega
      .have:=(de hhp k (by omega) (i0+1) (by omega)).1;omega
    .rcases Yf b (Hh (i+1)).n with hb|hb
     .rw[r2lo b hb]at hrb;rcases Yf i k with h|h;.exact(p1.kn hrb).part (UJ hhp k (by omega) (i+1) h λj h1 h2=>t4 j h1 (by omega)).1 hb
      .exact absurd hh (hkj i h (by omega))
     .rw[r2hi b hb]at hrb;obtain⟨_,_,i0,q1,q2,_,_,q5,bl,ob,q6,_,q7,_⟩:=wait b c hrb (by omega);have hk1:i0+1<=k:=by
       rcases Yf i0 k with h|h;.exact h
       .have:=(de hhp i0 (by omega) k h).1;omega
      obtain⟨q8,_⟩:=UJ hhp k (by omega) (i0+1) hk1 λj h3 h4=>t4 j (by omega) (by omega);exact⟨⟨λ_ _=>False,λ_ _=>False⟩,ob,by rw[q8.get b (by have:=q6.n;omega),q5,q6.get];exact q7 _,λ_ _ h=>h.elim⟩
    .have hb1:(Hh (i+1)).n<=b:=by have:=b1.n;omega
     rw[r2hi b hb1]at hrb;obtain⟨_,q0,i0,q1,q2,q3,q4,q5,bl,ob,q6,q7,q8,q9⟩:=wait b c hrb (by omega);refine⟨q0,i0,?_,q2,(dc hil).2 (YE q3),q4,q5,bl,ob,q6,q7,q8,by rw[(pnd b c hrb (by omega)).1];exact q9⟩;rcases Yf i0 T' with h|h;.have:=(de hhp T' t2 (i0+1) h).1;have:=q6.n;omega
     .exact h
   rcases hs with⟨hw,hv,hH⟩|⟨_,hpu,_⟩|⟨hw,hpu,his,hop⟩|⟨_,_,his,_⟩;.simp only[hw _ _ hgt,YT,if_false];refine⟨λ_ _=>trivial,adv (cutAt (Hh i).n rho) w undef (by rw[hH];exact prT) (by rw[hH];exact Ext.refl prT.lt) (by rw[hv];exact pL)⟩
   .rw[hh.2]at hpu;cases hpu
   .simp only[hw _ _ hgt,if_true];refine kq (hop rd base w0 _ w a prT orT) λa1 w1 hk=>?_;obtain⟨cv,rfl,rho1,v1,p1,x1⟩:=hk;exact adv rho1 w1 cv p1 x1 v1
   .rw[hh.1]at his;cases his
  .have hiT:i≠T:=λh=>by subst h;exact hh (hM.Sm hin)
   have hnot':¬dL (listed.setIfInBounds i true) T:=λh=>by rw[dc hil]at h;exact h.elim (λh=>hiT h.symm) hM.not
   have hbeen':∀j,j<T->jv iso pur j->dL (listed.setIfInBounds i true) j:=λj hj hjh=>by rw[dc hil];exact YE (hM.L4 j hj hjh)
   have adv:∀(rho':Nat->Option Nat)(w':World)(cv:Value),PR P base w0 rho' Hx w'->Ext rho0 (Hh 0) w00 rho' Hx w'->(mu rho Hx w).le (mu rho' Hx w')->VR (mu rho' Hx w') (Vv i) cv->(∀b c,rho' b=some c->rho b=some c\/(i<T/\(∀j,i<=j->j<T->¬jv iso pur j)/\(Hh i).n<=b/\b<(Hh (i+1)).n/\Kn P (Hh (i+1)) b))->wpAnyIn (WF rd) 0 P .any ops Q fuel (listed.setIfInBounds i true) (a.put o.dst cv) w':=λrho' w' cv p1 x1 m1 v1 hb=>by
    refine ih _ _ _ T rho' Hx ⟨hsz',hC',hM.le,hM.Sm,hnot',hbeen',hM.xn,hM.xw,hM.Z5,hM.xhi,p1,x1,hput (hM.tr.mono m1) v1,(put_defers _ _ _).trans hM.defers,λb c hrb k hk hnk=>?_,λb c hrb k hk hkj hbk=>?_,λb c hrb hbT=>?_⟩ hc'
    .rw[dc hil]at hnk;rcases hb b c hrb with h|⟨h1,_,h2,h3,_⟩;.exact hM.bound b c h k hk λh=>hnk (YE h)
     .rintro⟨g1,g2⟩;have hki:k≠i:=λh=>hnk (YH h);have hTs:=hM.le;rcases Yf k i with h|h;.have:=(de hhp i (by omega) (k+1) (by omega)).1;omega
      .have:=(de hhp k (by omega) (i+1) (by omega)).1;omega
    .rcases hb b c hrb with h|⟨h1,h0,h2,h3,h4⟩;.exact hM.kn b c h k hk hkj hbk
     .have hTs:=hM.le;have hik:i+1<=k:=by
       rcases Yf i k with h|h;.exact h
       .have:=(de hhp i (by omega) k h).1;omega
      exact h4.part (UJ hhp k (by omega) (i+1) hik λj g1 g2=>h0 j (by omega) (by omega)).1 h3
    .rcases hb b c hrb with h|⟨h1,_,_,h3,_⟩;.obtain⟨q0,i0,q1,q2,q3,q4⟩:=hM.Jo b c h hbT;exact⟨q0,i0,q1,q2,(dc hil).2 (YE q3),q4⟩
     .have hTs:=hM.le;have:=(de hhp T hTs (i+1) h1).1;omega
   rcases hs with⟨hw,hv,hH⟩|⟨hw,hpu,hH,hop⟩|⟨hw,hpu,his,hop⟩|⟨hw,hpu,his,H1,H1',g1,g2,g3,hop,g4,g5,g6,g7⟩;.simp only[hw _ _ hgt,YT,if_false];exact⟨λ_ _=>trivial,adv rho w undef hM.pr hM.ext ⟨λ_ _ h=>h,λ_ _ h=>h⟩ (by rw[hv];exact pL) λb c h=>YH h⟩
   .simp only[hw _ _ hgt,if_true];have hget:∀b,B i=some b->∀hi lo,lo<=hi->hi<=ops.size->(∀k,lo<=k->k<hi->jv iso pur k->jI (Region.before ops) i k=false)->(Hh hi).get b=(Hh lo).get b:=λb hb hi=>by induction hi with|zero=>intro lo h1 _ _;rw[show lo=0 by omega]|succ k ihk=>
      intro lo h1 h2 h3;by_cases hlk:lo=k+1;.rw[hlk]
      .have hbn:b<(Hh k).n:=by have:=hB i b hin hb;have:=(de hhp k (by omega) 0 (Ya _)).1;omega
       rw[<-ihk lo (by omega) (by omega) λq g1 g2=>h3 q g1 (by omega)];by_cases hhk:jv iso pur k;.exact hkp i k b hin (by omega) hb hhk (h3 k (by omega) (by omega) hhk) hbn
       .exact(hhp.qx k (by omega) hhk).1.get b hbn
    have hok:∀b,B i=some b->Hx.get b=(Hh i).get b:=λb hb=>by
     have hbT:b<(Hh T).n:=by have:=hB i b hin hb;have:=h0N T hM.le;omega
     rw[hM.Z5 b hbT];rcases Yf i T with hlt|hge
     .refine hget b hb T i (by omega) hM.le λk g1 g2 g3=>?_;have hki:k≠i:=λh=>by subst h;rw[g3.2]at hpu;cases hpu
      have hbk:=hM.L4 k g2 g3;unfold jI;rw[QJ];refine⟨?_,?_⟩;.cases hx:((Region.before ops).getD i 0).testBit k with|false=>rfl|true=>have:=gD hE i k hx;omega
      .cases hx:((Region.before ops).getD k 0).testBit i with|false=>rfl|true=>exact absurd (ef hE hM.closed k i (YH hbk) hx) hnb
     .refine(hget b hb i T hge (by omega) λk g1 g2 g3=>?_).symm;have hnk:¬dL listed k:=λhbk=>by
       by_cases hkT:k=T;.subst hkT;exact hM.not hbk
       .rcases hiso T k (hM.Sm (by omega)) (Ne.symm hkT) g3.2 (by omega)with h8|h8|h8;.have:=gD hE T k h8;omega
        .exact hM.not (ef hE hM.closed k T (YH hbk) h8)
        .rw[hhal k g3]at h8;cases h8
      unfold jI;rw[QJ];refine⟨?_,?_⟩;.cases hx:((Region.before ops).getD i 0).testBit k with|false=>rfl|true=>exact absurd (hbi k hx) hnk
      .cases hx:((Region.before ops).getD k 0).testBit i with|false=>rfl|true=>have:=gD hE k i hx;omega
    refine kq (hop Hx hok rd base w0 rho w a hM.pr hor) λa1 w1 hk=>?_;obtain⟨cv,rfl,rho1,v1,p1,x1⟩:=hk;exact adv rho1 w1 cv p1 (Ext.trans hd0 hM.ext x1) x1.mu v1 λb c h=>YH (x1.old b c (p1.lt b c h) h)
   .exact absurd ⟨his,hpu⟩ hh
   .simp only[hw _ _ hgt,if_true];by_cases hno:i<T/\∀j,i<=j->j<T->¬jv iso pur j
    .obtain⟨hlt,hno⟩:=hno;obtain⟨b1',b2⟩:=UJ hhp T hM.le i (by omega) hno;obtain⟨b3',b4⟩:=UJ hhp T hM.le (i+1) hlt λj h2 h3=>hno j (by omega) h3;have b1:=b1'.trans hpx;have b3:=b3'.trans hpx;have hnn:=(hhp.le i hin).1;have hp1:Part H1 Hx:=⟨by rw[g1];exact b1.n,λb hb=>by rw[g2];exact b1.get b (by omega),λb hb=>by rw[g2];exact b1.out b (by omega)⟩;have pc:PR P base w0 (cutAt H1.n rho) H1 w:=hM.pr.part hp1 (by omega) λb c hrb hb=>by obtain⟨m,o',q1,q2⟩:=hM.kn b c hrb i (by omega) hno (by omega);exact⟨m,o',by rw[g2];exact q1,λb' c' hm=>by rw[g1];exact q2 b' c' hm⟩
     have oc:OR (mu (cutAt H1.n rho) H1 w) nt (E i) a o:=low H1 hp1 (by omega);refine kq (hop rd base w0 _ w a pc oc) λa1 w1 hk=>?_;obtain⟨cv,rfl,rho1,v1,p1,x1⟩:=hk;rw[g1]at x1;obtain⟨p2,m1,m2,e1,e2,e3⟩:=hM.pr.merge (Hi:=Hh i) (Hi':=Hh (i+1)) b1 b3 hnn (λb c hrb=>by
      rcases Yf b (Hh T).n with hbT|hbT;.have:=hM.bound b c hrb i hlt hnb;omega
      .have:=b3'.n;omega) g1 p1 x1 g4 g5 g6 rfl;have hN0:=(de hhp i (by omega) 0 (Ya _)).1;refine adv _ w1 cv p2 (hM.ext.after hd0 hc0 (hhp.out 0 (Ya _)) hN0 e1 (λb c h=>(e2 b c h).imp id λh=>h.2.2.1) e3 x1.size) m1 (VR.mono m2 _ _ v1) λb c h=>?_;rcases e2 b c h with h|⟨h2,h3,h4,h5⟩;.exact YH h
     .refine YE ⟨hlt,hno,h2,h3,?_⟩;obtain⟨m,o',q1,q2⟩:=p1.kn h5;exact⟨m,o',by rw[g6];exact q1,λb' c' hm=>by rw[g5];exact q2 b' c' hm⟩
    .have hali:al i=true:=by
      rcases(show i<T\/(al i=true/\T<i)by
       rcases Yf T ops.size with h|h;.exact hTn i hiT hpu hin h hnb hbi
       .exact YH (by omega))with hlt|⟨h,_⟩
      .by_cases ha:al i=true;.exact ha
       .exact absurd ⟨hlt,λj h2 h3 hj=>by
         have hbj:=hM.L4 j h3 hj;have hji:j≠i:=λh=>by subst h;exact hnb hbj
         rcases hiso j i hj hji hpu hin with h8|h8|h8;.exact hnb (ef hE hM.closed j i (YH hbj) h8)
         .have:=gD hE i j h8;omega
         .exact ha h8⟩ hno
      .exact h
     rcases hal i o ho hali with⟨hw2,_⟩|⟨⟨bl,k1,k2,k3,_,k4⟩,klate⟩;.have h1:=hw _ _ hgt;rw[hw2 _ _ hgt]at h1;cases h1
     obtain⟨ob,k4,k5⟩:=k4 _ a hor;refine kq (k5 rd w) λa1 w1 hk=>?_;obtain⟨rfl,rfl⟩:=hk;have hcase:T<i\/(i<T/\∀k,i+1<=k->k<=T->(Hh k).get (Hh i).n=bl):=by
      rcases Yf T i with h|h;.exact YH h
      .refine YE ⟨by omega,λk=>?_⟩;induction k with|zero=>intro h1 _;omega|succ k ihk=>
        intro h1 h2;by_cases hki:k=i;.subst hki;exact k2.get
        .have hTs:=hM.le;have hnk:(Hh i).n<(Hh k).n:=by have:=(de hhp k (by omega) (i+1) (by omega)).1;have:=k2.n;omega
         rw[<-ihk (by omega) (by omega)];by_cases hhk:jv iso pur k
         .refine klate k (by omega) hhk (by omega) ?_ hnk;have hbk:=hM.L4 k (by omega) hhk;unfold jI;rw[QJ];refine⟨?_,?_⟩;.cases hx:((Region.before ops).getD i 0).testBit k with|false=>rfl|true=>have:=gD hE i k hx;omega
          .cases hx:((Region.before ops).getD k 0).testBit i with|false=>rfl|true=>exact absurd (ef hE hM.closed k i (YH hbk) hx) hnb
         .exact(hhp.qx k (by omega) hhk).1.get _ hnk
     have hearly:T<i->(Hh T).n<=(Hh i).n:=λh=>(de hhp i (by omega) T (by omega)).1;have hlateN:i<T->(Hh i).n<(Hh T).n:=λh=>by have:=(de hhp T hM.le (i+1) (by omega)).1;have:=k2.n;omega
     have hb0N:(Hh i).n<(Hh ops.size).n:=by have:=hN (i+1) (by omega);have:=k2.n;omega
     have hfree:∀c,rho (Hh i).n≠some c:=λc hr=>by
      rcases hcase with hlt|⟨hlt,_⟩;rotate_left;.exact hM.bound _ c hr i hlt hnb ⟨YC _,by have:=k2.n;omega⟩
      obtain⟨_,i0,q1,q2,q3,_,q5,bl',ob',q6,_⟩:=hM.Jo _ c hr (hearly hlt);have hne:i0≠i:=λh=>hnb (h▸q3);rcases Yf i0 i with h|h;.have:=(de hhp i (by omega) (i0+1) h).1;have:=q6.n;omega
      .have:=(de hhp i0 (by omega) (i+1) (by omega)).1;have:=k2.n;omega
     have halive:(Hh i).n<Hx.n->(Hx.get (Hh i).n).alive:=λhlx=>by
      rcases hcase with hlt|⟨hlt,hkeep⟩;.exact hM.xhi _ (hearly hlt) hlx
      .rw[hM.Z5 _ (hlateN hlt),hkeep T (by omega) (YC _)];exact k3
     obtain⟨Hy,y1,y2,y3,y4⟩:=BT (λb=>if b=(Hh i).n then bl else Hx.get b) (Hh ops.size).n Hx.bF;have hy0:Hy.get (Hh i).n=bl:=by rw[y3 _ hb0N,if_pos rfl]
     have hyo:∀b,b≠(Hh i).n->Hy.get b=Hx.get b:=λb hb=>by
      rcases Yf b (Hh ops.size).n with h|h;.rw[y3 b h,if_neg hb]
      .rw[y4 b h,hM.pr.out b (by rw[hM.xn];exact h)]
     have hold:∀c,c<w.heap.size->(w.alloc ob).heap[c]?=w.heap[c]?:=λc hc=>Below.heap_alloc _ _ _ hc;generalize hrho2:(λb=>if b=(Hh i).n then some w.heap.size else rho b)=rho2;have r20:rho2 (Hh i).n=some w.heap.size:=by rw[<-hrho2];exact if_pos rfl
     have r2o:∀b,b≠(Hh i).n->rho2 b=rho b:=λb hb=>by rw[<-hrho2];exact if_neg hb
     have mX:(mu rho Hx w).le (mu rho2 Hy (w.alloc ob)):=by
      refine⟨λb c⟨q1,q2⟩=>⟨by rw[y1,<-hM.xn];exact q1,λha=>?_⟩,λc z⟨cs,e,fr,q1,q2⟩=>⟨cs,e,fr,by rw[hold c (YO.1 q1).1];exact q1,q2⟩⟩;by_cases hb:b=(Hh i).n;.subst hb;exact absurd (q2 (halive q1)) (hfree c)
      .rw[r2o b hb];exact q2 (by rw[<-hyo b hb];exact ha)
     have p2:PR P base w0 rho2 Hy (w.alloc ob):=by
      refine⟨oz hM.pr.below rfl rfl rfl (by simp) λk hk=>hold k (by have:=hM.pr.cS;omega),by have:=hM.pr.cS;simp;omega,by rw[y1,y2,<-hM.xn];exact hM.pr.wn,λb c hrb=>?_,λb b' c h1 h2=>?_,λb c hrb=>?_,λb hb=>y4 b (by rw[<-y1];exact hb),vt hM.pr.gl.1 λc hc=>hold c (hM.pr.gl.2.1 c hc),λc hc=>by have:=hM.pr.gl.2.1 c hc;simp;omega,λb c hrb hc=>by
       by_cases hb:b=(Hh i).n;.subst hb;rw[r20]at hrb;cases hrb;have:=hM.pr.gl.2.1 _ hc;omega
       .rw[r2o b hb]at hrb;exact hM.pr.gl.2.2 b c hrb hc⟩
      .by_cases hb:b=(Hh i).n;.subst hb;rw[r20]at hrb;cases hrb;exact⟨by rw[y1];exact hb0N,hM.pr.cS,by simp,by rw[hy0];exact k3⟩
       .rw[r2o b hb]at hrb;obtain⟨q1,q2,q3,q4⟩:=hM.pr.jM b c hrb;exact⟨by rw[y1,<-hM.xn];exact q1,q2,by simp;omega,by rw[hyo b hb];exact q4⟩
      .by_cases hb:b=(Hh i).n<;>by_cases hb':b'=(Hh i).n;.omega
       .subst hb;rw[r20]at h1;cases h1;rw[r2o b' hb']at h2;have:=(hM.pr.jM b' _ h2).2.2.1;omega
       .subst hb';rw[r20]at h2;cases h2;rw[r2o b hb]at h1;have:=(hM.pr.jM b _ h1).2.2.1;omega
       .rw[r2o b hb]at h1;rw[r2o b' hb']at h2;exact hM.pr.inj b b' c h1 h2
      .by_cases hb:b=(Hh i).n;.subst hb;rw[r20]at hrb;cases hrb;exact⟨ob,World.alloc_heap_new w _,by rw[hy0];exact k4 _⟩
       .rw[r2o b hb]at hrb;obtain⟨o',q1,q2⟩:=hM.pr.cV b c hrb;exact⟨o',by rw[hold c (hM.pr.jM b c hrb).2.2.1];exact q1,by rw[hyo b hb];exact q2.mono mX⟩
     have h0i:=h0N i (by omega);have x3:Ext rho0 (Hh 0) w00 rho2 Hy (w.alloc ob):=hM.ext.re hd0 hc0 h0out (by rw[y1];exact h0N _ (YC _)) y2 (λb hb=>hyo b (by omega)) (λb hb=>r2o b (by omega)) (λb c _ hr=>by
      by_cases hb:b=(Hh i).n;.subst hb;rw[r20]at hr;cases hr;exact YE hM.ext.size
      .exact YH (by rw[<-r2o b hb];exact hr)) (λc hc=>hold c (YF hc hM.ext.size)) (by have:=hM.ext.size;simp;omega);refine ih _ _ _ T rho2 Hy ⟨hsz',hC',hM.le,hM.Sm,hnot',hbeen',y1,y2.trans hM.xw,λb hb=>by
      by_cases hbb:b=(Hh i).n
      .subst hbb;rcases hcase with hlt|⟨hlt,hkeep⟩;.have:=hearly hlt;omega
       .rw[hy0,hkeep T (by omega) (YC _)]
      .rw[hyo b hbb];exact hM.Z5 b hb,λb hb hb'=>?_,p2,x3,hput (hM.tr.mono mX) ?_,(put_defers _ _ _).trans hM.defers,λb c hrb k hk hnk=>?_,λb c hrb k hk hkj hbk=>?_,λb c hrb hbT=>?_⟩ hc'
     .by_cases hbb:b=(Hh i).n;.subst hbb;rw[hy0];exact k3
      .rw[hyo b hbb];exact hM.xhi b hb (by rw[hM.xn,<-y1];exact hb')
     .rw[k1];simp only[VR];exact⟨_,rfl,by rw[y1];exact hb0N,λ_=>r20⟩
     .rw[dc hil]at hnk;by_cases hb:b=(Hh i).n
      .rintro⟨q1,q2⟩;have hki:k≠i:=λh=>hnk (YH h);have hTs:=hM.le;rcases Yf k i with h|h;.have:=(de hhp i (by omega) (k+1) (by omega)).1;omega
       .have:=(de hhp k (by omega) (i+1) (by omega)).1;have:=k2.n;omega
      .rw[r2o b hb]at hrb;exact hM.bound b c hrb k hk λh=>hnk (YE h)
     .by_cases hb:b=(Hh i).n
      .rcases hcase with hlt|⟨hlt,hkeep⟩;.have:=(de hhp T hM.le k hk).1;have:=hearly hlt;omega
       .have hik:i+1<=k:=by
         rcases Yf i k with h|h;.exact h
         .have:=(de hhp i (by omega) k h).1;omega
        subst hb;exact⟨⟨λ_ _=>False,λ_ _=>False⟩,ob,by rw[hkeep k hik hk];exact k4 _,λ_ _ h=>h.elim⟩
      .rw[r2o b hb]at hrb;exact hM.kn b c hrb k hk hkj hbk
     .by_cases hb:b=(Hh i).n
      .subst hb;rw[r20]at hrb;cases hrb;have hTi:T<i:=hcase.resolve_right λh=>by have:=hlateN h.1;omega
       exact⟨hM.ext.size,i,by omega,hin,(dc hil).2 (YH rfl),hali,rfl,bl,ob,k2,k3,k4,hy0⟩
      .rw[r2o b hb]at hrb;obtain⟨q0,i0,q1,q2,q3,q4,q5,bl',ob',q6,q7,q8,q9⟩:=hM.Jo b c hrb hbT;exact⟨q0,i0,q1,q2,(dc hil).2 (YE q3),q4,q5,bl',ob',q6,q7,q8,by rw[hyo b hb];exact q9⟩
end walk
end
end Go.Ev
end
