/- EvC: a part of the evaluator,of its logic,or of the laws' walk in it. -/
import Derived.Test.YtabnemidjklolaaGreatDoorEvB
import Derived.OrdersIn
open Nat renaming le_refl→YC,lt_of_lt_of_le→YE,zero_le→Ya,ble→Yd,lt_or_ge→Yh,add→Yi,mul→Yn,le_trans→Yr,shiftLeft→Yt,blt→WC,strongRecOn→YD3,min→YJ1,lt_succ_of_lt→YJ2,lt_succ_self→YK0,testBit_or→YN0
open Or renaming inr→YD,inl→YF
open List renaming mem_cons_of_mem→YI,mem_cons_self→YM,mem_cons→YN,getElem?_eq_some_iff→YQ,getElem?_map→Yq,all_eq_true→WR,mem_append_left→WS,mem_zipIdx_iff_getElem?→WU,getElem?_cons_zero→Wk,foldl_cons→Qb
open Array renaming getElem?_eq_some_iff→YO,getElem?_eq_getElem→Yf,getD_eq_getD_getElem?→Yo,getElem?_toList→Ys,getElem?_push→QS,foldl_toList→YD4
open Option renaming getD_some→YU,map_eq_some_iff→Yj,bind_some→YF4
open Bool renaming false_eq_true→YV,and_eq_true→Yu,or_eq_false_iff→QK,or_eq_true→QU,false_or→YC3
set_option linter.unusedVariables false
set_option linter.unusedSimpArgs false
set_option linter.unusedSectionVars false
section
namespace Go.Ev
open Go.RowKit
section
variable{P:Program}{nt:Nat}{o:Oper}{id:Nat}{ph:dz}{e:Env}{H:Heap}{k:K}
theorem Y8{a b}{f}(h:OY a b f=1):f (YJ1 a b)=1:=by
 rcases bS h with⟨h1,h2⟩|⟨h1,h2⟩;.simp_all
 .have:¬a<=b:=λhle=>by rw[Nat.ble_eq_true_of_le hle]at h1;cases h1
  rw[show YJ1 a b=b from Nat.min_eq_right (by omega)];omega
theorem adf{asL}{ts}(hop:o.op=.call {callee:=.builtin .copy,args:=asL,argTypes:=ts})(h:aQ (ai P nt o) id ph e H k=1):Good P nt o e H k:=by
 simp only[ai,hop,dA]at h;have hnd:∀c,o.op≠.defer c:=by simp[hop]
 split at h
 .rename_i d s t tr hx hts;obtain⟨p,q,rfl,hp',hq'⟩:=EJ hx;have hts':ts[0]?=some t:=by rw[<-Ys,hts];rfl
  split at h
  .rename_i el hel;split at h
   .rename_i size hs;obtain⟨i,hi,hisz⟩:∃i,P.info? el=some i/\i.size=size:=by unfold rq at hs;simp only[Yj]at hs;omega
    have hsz:∀w,(sizeOf el).run P w=.ok size w:=λw=>by simp[sizeOf,typeInfo,hi,hisz]
    have h':Tv size d s id ph e H k=1:=h;unfold Tv at h';rw[aq,aq]at h';have key:∀(v)(H'),(∀(base)(w0)(rho)(w)(cs cx),PR P base w0 rho H w->VR (mu rho H w) (aA d e) cs->VR (mu rho H w) (aA s e) cx->∃cv w',(Builtin.copy_ ts o.type #[cs,cx]).run P w=.ok cv w'/\Left P base w0 rho H w v H' cv w')->fD P nt o e H v H':=λv H' hh=>fD.of_run hnd λbase w0 rho w a hp ho=>by obtain⟨cv,w',h1,h2⟩:=hh base w0 rho w _ _ hp (ho p (by simp[hop,Op.operands,Call.operands]) d hp') (ho q (by simp[hop,Op.operands,Call.operands]) s hq');refine⟨cv,w',?_,h2⟩;rw[fO hop a.eval];simp[builtin,h1]
    rcases fZ h' with⟨b,off,dl,cp,sz,hsv,h1⟩|⟨hsv,h1⟩
    .obtain⟨sl,h2,hlen⟩:=Ul h1;have h3:=Y8 h2;obtain⟨n0,l,h4,hN⟩:=qf h3;obtain⟨h5,h6⟩:=lK h4;have hrun:∀{base}{w0 w}{rho}{cx}(c o' cap)(sp),PR P base w0 rho H w->VR (mu rho H w) (aA s e) cx->∃cl:List Value,cA (mu rho H w) (l.take (YJ1 sl dl*size)) cl/\∀w',(storeCells ⟨c,o',sp⟩ cl 0).run P w=.ok () w'->(Builtin.copy_ ts o.type #[.slice (some ⟨c,o',sp⟩) dl cap,cx]).run P w=.ok (.int .i64 (YJ1 sl dl)) w':=by intro base w0 w rho cx c o' cap sp hp vx;have e1:=hlen _ _ vx w;have e2:=hN.1 _ _ vx w;rw[e1]at e2;cases e2;obtain⟨hll,h7⟩:=hN.2 hp vx;obtain⟨cl,g1,g2⟩:=h7 (YJ1 sl dl) (Nat.min_le_left _ _);exact⟨cl,g2,λw' hw'=>by simp[Builtin.copy_,hts',run_underlying (qU hel),e1,hsz,g1,hw',goInt]⟩
     cases hmin:YJ1 sl dl with|zero=>rw[hmin]at h6;have h7:=h6;refine⟨_,_,key _ _ λbase w0 rho w cs cx hp vs vx=>?_,h7⟩;rw[hsv]at vs;obtain⟨c,cap,o',sp,rfl,hm,_⟩:=vs;obtain⟨cl,g1,g2⟩:=hrun c o' cap sp hp vx;rw[hmin,Nat.zero_mul,List.take_zero]at g1;subst g1;refine⟨_,w,g2 w rfl,rho,?_,hp,Ext.refl hp.lt⟩;rw[hmin];exact qy (by omega)|succ m=>
      rw[hmin]at h6;have h7:=h6;obtain⟨H',h8,h9⟩:=l7 h7;have hone:=zU h7;obtain⟨hlt,h8⟩:=qQ h8;refine⟨_,_,key _ _ λbase w0 rho w cs cx hp vs vx=>?_,h8⟩;rw[hsv]at vs;obtain⟨c,cap,o',sp,rfl,hm,hle,hcp,ho'⟩:=vs;obtain⟨rfl,rfl⟩:o'=off/\sp=none:=by
       rcases ho' with h|h;.omega
       .have:dl=0:=by omega
        subst this;have:YJ1 sl 0=0:=Nat.min_zero _;omega
      obtain⟨cl,g1,g2⟩:=hrun c _ cap none hp vx;rw[hmin]at g1;obtain⟨w',p1,p2,p3⟩:=h9 hp hm hone g1;refine⟨_,w',g2 w' p1,rho,?_,p2,p3⟩;rw[hmin];exact qy hlt
    .obtain⟨n0,l,h4,hN⟩:=qf h1;refine⟨_,_,key _ _ λbase w0 rho w cs cx hp vs vx=>?_,h4⟩;rw[hsv]at vs;subst vs;have e1:=hN.1 _ _ vx w;obtain⟨hll,h7⟩:=hN.2 hp vx;obtain⟨cl,g1,g2⟩:=h7 0 (Ya _);have hm0:YJ1 n0 0=0:=Nat.min_zero _;exact⟨_,w,by simp[Builtin.copy_,hts',run_underlying (qU hel),e1,hsz,g1],rho,qy (by omega),hp,Ext.refl hp.lt⟩
   .exact(aw h).elim
  .exact(aw h).elim
 .exact(aw h).elim
theorem ug(hc:ai P nt o=.bad)(h:aQ (ai P nt o) id ph e H k=1):Good P nt o e H k:=by rw[hc]at h;exact(aw h).elim
theorem eL(hph:jC P ph)(h:aQ (ai P nt o) id ph e H k=1):Good P nt o e H k:=by cases hop:o.op with
 |move x=>exact Vd (.inl hop) h|assign x=>exact Vd (.inr hop) h|pick c x y=>exact adi hop h|alloc t=>exact ZU hop h|box t x=>exact af4 hop h|build t ps=>exact ZW hop h|buildSlice t l ps=>exact DV hop h|insert t m x y=>exact wi (.inr hop) h|mapUpdate t m x y=>exact wi (.inl hop) h|load t x=>exact adg hop h|store t x y=>exact Z0 hop h|nilCheck x=>exact adh hop h|binOp op xt x y yt=>exact ZV hop h|unOp op xt x=>exact adj hop h|convert s d x=>exact PC hop h|makeInterface t x=>exact wN hop h|typeAssert x xt t ok=>exact DW hop h|makeFunc f first caps=>cases f with|func f=>exact KQ hop h|_=>exact ug (by simp only[ai,hop]) h
 |makeMap t r=>cases r with|none=>exact PF hop h|some r=>exact ug (by simp only[ai,hop]) h
 |makeSlice t l c=>exact Ib hop h|slice t x lo hi mx=>exact ZZ hop h|fieldAddr t x f=>exact HZ hop h|field t x f=>exact ZX hop h|indexAddr t x i=>exact Ia hop h|index t x i=>exact ZY hop h|lookup t m x ok=>exact Vb hop h|extract x i=>exact PE hop h|call c=>obtain⟨callee,asL,ts⟩:=c;cases callee with
  |value x=>cases x with|func f=>exact KP hph hop h|tmp t=>exact PB hph hop h|_=>exact ug (by simp only[ai,hop]) h
  |builtin b=>cases b with|len=>exact af6 hop h|cap=>exact af5 hop h|append=>exact U9 hop h|copy=>exact adf hop h|delete=>exact Va hop h|max=>exact af7 (mx:=true) hop h|min=>exact af7 (mx:=false) hop h|_=>exact ug (by simp only[ai,hop,dA]) h
  |_=>exact ug (by simp only[ai,hop]) h
 |_=>exact ug (by simp only[ai,hop]) h
end
theorem kV{F}{n}{P}{o:Oper}{a}{w}{K K'}{Q}(h:o.wpIn F n P a w K (λ_ _ _=>False))(hk:∀a w,K a w->K' a w):o.wpIn F n P a w K' Q:=by refine⟨h.1,?_⟩;have h:=h.2;generalize(o.semAt F.round a.eval).run P w=r at*;cases r with
 |ok x w'=>
  cases x<;>simp only[Oper.uponIn]at h⊢;case value v=>simp_all
  case skip=>simp_all
  case defer d=>simp_all
  case enter f args=>refine⟨h.1,CallsIn.mono h.2 λe w'' he=>?_⟩;cases e with|returned u=>simp_all|panicked c=>simp_all|outgrown=>obtain⟨_,_,h⟩:=he;simp_all
  case row row args=>exact⟨h.1,RowsIn.mono h.2 λu w'' he=>hk _ _ he⟩
  case round l f tmps assign body=>refine⟨h.1,RoundIn.mono h.2 λe w'' he=>?_⟩;cases e with|returned u=>simp_all|panicked c=>simp_all|outgrown=>obtain⟨_,_,h⟩:=he;simp_all
 |halt x w'=>cases x<;>simp only[Oper.uponIn]at h⊢
theorem acB{x}{b}{t f}(h:IN x b t f=1):(x=.bool b/\t=1)\/(x≠.bool b/\f=1):=by
 cases x<;>first|exact YD ⟨(by simp),h⟩|skip
 rename_i c;cases c<;>cases b<;>first|exact YF ⟨rfl,h⟩|exact YD ⟨(by simp),h⟩
theorem aai{m}{x}{b}(h:VR m x (.bool b)):x=.bool b:=by cases x<;>simp only[VR]at h<;>first|rfl|rfl|rfl|simp_all|rfl
theorem qz{m}:VR m (.cG []) undef:=by exact⟨#[],rfl,by rfl⟩
def GT(nt:Nat)(m:M)(e:Env)(ops:Array Oper)(o:Oper)(tmps:Array Value):Prop:=∀j b o' d,o.guard=some (j,b)->ops[j]?=some o'->o'.dst=some d->d<nt->∃v,tmps[d]?=some v/\VR m (af (bj d) e) v
def GW(nt:Nat)(e:Env)(ops:Array Oper)(o:Oper)(b:Bool):Prop:=∀(m:M)(tmps:Array Value),GT nt m e ops o tmps->Region.wanted o (yielded ops tmps)=b
theorem TR.gt{m:M}{nt:Nat}{e:Env}{tmps:Array Value}(h:TR m nt e tmps)(ops:Array Oper)(o:Oper):GT nt m e ops o tmps:=λj b o' d _ _ _ hlt=>by
 have hs:=h.size;have hlt':d<tmps.size:=by rw[hs];exact hlt
 exact⟨_,Yf hlt',h.get d _ (Yf hlt')⟩
theorem tY{nt}{e}{ops}{o}{g}(hg:guardOf nt ops o.guard=some g){t f}(h:wz g e t f=1):(t=1/\GW nt e ops o true)\/(f=1/\GW nt e ops o false):=by
 unfold guardOf at hg;split at hg;.rename_i hn;cases hg;exact YF ⟨h,λm tmps ht=>by simp[Region.wanted,hn]⟩
 .rename_i j b hn;split at hg
  .rename_i o' ho';split at hg
   .rename_i d hd;split at hg
    .rename_i hlt;cases hg;have h':kE (bj d) e (λv=>IN v b t f)=1:=h;rw[eC]at h';rcases acB h' with⟨h1,h2⟩|⟨h1,h2⟩;.refine YF ⟨h2,λm tmps ht=>?_⟩;obtain⟨c,hex,h3⟩:=ht j b o' d hn ho' hd hlt;rw[h1]at h3;simp only[VR]at h3;simp[Region.wanted,hn,yielded,ho',hd,hex,h3]
     .refine YD ⟨h2,λm tmps ht=>?_⟩;obtain⟨c,hex,h3⟩:=ht j b o' d hn ho' hd hlt;have h4:yielded ops tmps j≠some b:=by
       simp only[yielded,ho',YF4,hd,hex];split;.rename_i c hc;rw[Option.some.injEq]at hc;rw[hc]at h3;intro he;cases he;exact h1 (aai h3)
       simp
      simp[Region.wanted,hn,h4]
    simp_all
   simp_all
  simp_all
def dH(d:Option Slot)(v:V)(e:Env):Env:=match d with|none=>e|some s=>jl s v e
theorem cj(d)(v)(e)(k):bZ d v e k=k (dH d v e):=by cases d with|none=>rfl|some s=>exact tT s v e k
theorem sf{m}{nt}{e}{a:Act}(h:TR m nt e a.tmps){dst}{d}(hd:tp nt dst=some d){v}{c}(hv:VR m v c):TR m nt (dH d v e) (a.put dst c).tmps:=by
 unfold tp at hd;split at hd;.cases hd;exact h
 .split at hd;.rename_i hlt;cases hd;exact h.put hlt hv
  simp_all
theorem put_defers(a:Act)(dst)(c):(a.put dst c).defers=a.defers:=by cases dst<;>rfl
def RS(P:Program)(nt:Nat)(ops:Array Oper)(l:List Oper)(e:Env)(H:Heap)(e':Env)(H':Heap):Prop:=∀(rd:Option Nat)(base:Nat)(w0:World)(rho:Nat->Option Nat)(w:World)(a:Act),PR P base w0 rho H w->TR (mu rho H w) nt e a.tmps->∀(Q:Exit->Act->World->Prop),(∀a' w' rho',a'.defers=a.defers->PR P base w0 rho' H' w'->TR (mu rho' H' w') nt e' a'.tmps->Ext rho H w rho' H' w'->Q .normal a' w')->wpListIn (WF rd) 0 P ops Q l a w
theorem yj{P}{nt}{ph}{ops}{base}{pl al}{bf}(hph:jC P ph):∀(l)(i)(r)(e)(H)(k),dG P nt base ops pl al bf l i=some r->jM ph r e H k=1->∃e' H',RS P nt ops l e H e' H'/\k e' H'=1
 |[],i,r,e,H,k,hc,h=>by simp only[dG,Option.some.injEq]at hc;subst hc;exact⟨e,H,λrd base w0 rho w a hp ht Q hq=>hq a w rho rfl hp ht (Ext.refl hp.lt),h⟩|o::l,i,r,e,H,k,hc,h=>by
  simp only[dG]at hc;split at hc
  .rename_i d g r' hd hg hr;cases hc;have h':=h;rcases tY hg h' with⟨h1,h2⟩|⟨h1,h2⟩;.obtain⟨v,H1,h3,h4⟩:=eL hph h1;replace h4:bZ d v e (λe'=>jM ph r' e' H1 k)=1:=h4;rw[cj]at h4;obtain⟨e',H',h5,h6⟩:=yj hph l (i+1) r' _ _ k hr h4;refine⟨e',H',λrd base w0 rho w a hp ht Q hq=>?_,h6⟩;simp only[wpListIn,h2 _ _ (ht.gt ops o),if_true];refine kV (h3 rd base w0 rho w a hp (ht.or o)) λa1 w1 hk=>?_;obtain⟨cv,rfl,rho1,v1,p1,x1⟩:=hk;exact h5 rd base w0 rho1 w1 _ p1 (sf (ht.mono x1.mu) hd v1) Q λa' w' rho' q1 q2 q3 q4=>hq a' w' rho' (q1.trans (put_defers _ _ _)) q2 q3 (Ext.trans hp.lt x1 q4)
   .rw[cj]at h1;obtain⟨e',H',h5,h6⟩:=yj hph l (i+1) r' _ _ k hr h1;refine⟨e',H',λrd base w0 rho w a hp ht Q hq=>?_,h6⟩;simp only[wpListIn,h2 _ _ (ht.gt ops o),YV,if_false];refine⟨λ_ _=>trivial,?_⟩;exact h5 rd base w0 rho w _ hp (sf ht hd qz) Q λa' w' rho' q1 q2 q3 q4=>hq a' w' rho' (q1.trans (put_defers _ _ _)) q2 q3 q4
  .cases hc
def aG{α:Type}(f:(α->R)->R):Prop:=(∃a,∀k,f k=k a)\/∀k,f k≠1
section
variable{α β:Type}{id:Nat}
theorem aG.ret(a:α):aG λk=>k a:=YF ⟨a,λ_=>rfl⟩
theorem aG.no(c:Nat):aG λ_:α->R=>no c:=YD λk h=>aw h
theorem aG.bind{f:(β->R)->R}{g:β->(α->R)->R}(h:aG f)(hg:∀b,aG (g b)):aG λk=>f λb=>g b k:=by
 rcases h with⟨b,hb⟩|h
 .rcases hg b with⟨a,ha⟩|h;.exact YF ⟨a,λk=>(hb _).trans (ha k)⟩
  .exact YD λk=>by show f _≠1;rw[hb];exact h k
 .exact YD λk=>h _
theorem aG.aH{b:Bool}{f g:(α->R)->R}(hf:aG f)(hg:aG g):aG λk=>Ev.aH b (f k) (g k):=by
 cases b;.exact hg
 .exact hf
theorem aG.aJ{a:Arg}{e:Env}{g:V->(α->R)->R}(hg:∀b,aG (g b)):aG λk=>Ev.aJ a e λb=>g b k:=by simp only[aq];exact hg _
theorem aG.pT{l:List Arg}{e:Env}{g:List V->(α->R)->R}(hg:∀b,aG (g b)):aG λk=>Ev.pT l e λb=>g b k:=by simp only[iF];exact hg _
theorem aG.av{n:Nat}{g:Nat->(α->R)->R}(hg:∀b,aG (g b)):aG λk=>Ev.av n λb=>g b k:=by simp only[ay];exact hg _
theorem aG.cI{x:V}{g:Nat->Nat->(α->R)->R}(hg:∀a b,aG (g a b)):aG λk=>Ev.cI id x λa b=>g a b k:=by cases x<;>first|exact YD λk h=>aw h|exact hg _ _
theorem aG.fm{x:V}{g:Bool->(α->R)->R}(hg:∀a,aG (g a)):aG λk=>Ev.fm id x λa=>g a k:=by cases x<;>first|exact YD λk h=>aw h|exact hg _
theorem aG.er{x:V}{g:Nat->Nat->(α->R)->R}(hg:∀a b,aG (g a b)):aG λk=>Ev.er id x λa b=>g a b k:=by cases x<;>first|exact YD λk h=>aw h|exact hg _ _
theorem aG.eH{x:V}{g:Nat->Nat->(α->R)->R}(hg:∀a b,aG (g a b)):aG λk=>Ev.eH id x λa b=>g a b k:=by cases x<;>first|exact YD λk h=>aw h|exact hg _ _
theorem aG.mF{x:V}{g:Nat->Nat->Nat->Nat->Nat->(α->R)->R}(hg:∀a b c d e,aG (g a b c d e)):aG λk=>Ev.mF id x λa b c d e=>g a b c d e k:=by cases x<;>first|exact YD λk h=>aw h|exact hg _ _ _ _ _
theorem aG.bC{x:V}{g:Nat->Nat->Nat->Nat->Nat->(α->R)->R}{z:(α->R)->R}(hg:∀a b c d e,aG (g a b c d e))(hz:aG z):aG λk=>Ev.bC id x (λa b c d e=>g a b c d e k) (z k):=by cases x<;>first|exact YD λk h=>aw h|exact hg _ _ _ _ _|exact hz
theorem aG.js{x:V}{g:List V->(α->R)->R}(hg:∀a,aG (g a)):aG λk=>Ev.js id x λa=>g a k:=by cases x<;>first|exact YD λk h=>aw h|exact hg _
theorem aG.AU{x:V}{g:List V->(α->R)->R}(hg:∀a,aG (g a)):aG λk=>Ev.AU id x λa=>g a k:=by cases x<;>first|exact YD λk h=>aw h|exact hg _
theorem aG.dU{x:V}{g:List V->(α->R)->R}(hg:∀a,aG (g a)):aG λk=>Ev.dU id x λa=>g a k:=by cases x<;>first|exact hg _|exact YD λk h=>aw h
theorem aG.vIf{t:Nat}{x:V}{g:V->(α->R)->R}(hg:∀a,aG (g a)):aG λk=>Ev.vIf id t x λa=>g a k:=by cases x<;>first|exact YD λk h=>aw h|exact aG.aH (hg _) (aG.no 0)
theorem PH{x}:aG (gS id x):=by
 cases x<;>first|exact YD λk h=>aw h|exact YF ⟨_,λ_=>rfl⟩|skip
 rename_i b;cases b<;>exact YF ⟨_,λ_=>rfl⟩
theorem aG.gS{x:V}{g:Nat->(α->R)->R}(hg:∀a,aG (g a)):aG λk=>Ev.gS id x λa=>g a k:=aG.bind PH hg
theorem xh:∀(l)(i),aG (nth id l i)|[],i=>YD λk h=>aw h|v::l,0=>YF ⟨v,λ_=>rfl⟩|v::l,i+1=>xh l i
theorem aG.nth{l:List V}{i:Nat}{g:V->(α->R)->R}(hg:∀a,aG (g a)):aG λk=>Ev.nth id l i λa=>g a k:=aG.bind (xh l i) hg
theorem kT:∀(l)(i),aG (takeN id l i)|[],0=>YF ⟨[],λ_=>rfl⟩|[],_+1=>YD λk h=>aw h|v::l,0=>YF ⟨[],λ_=>rfl⟩|v::l,i+1=>aG.bind (g:=λr k=>k (v::r)) (kT l i) λr=>aG.ret _
theorem aG.takeN{l:List V}{i:Nat}{g:List V->(α->R)->R}(hg:∀a,aG (g a)):aG λk=>Ev.takeN id l i λa=>g a k:=aG.bind (kT l i) hg
theorem kR:∀(l)(i),aG (fR id l i)|[],0=>YF ⟨[],λ_=>rfl⟩|[],_+1=>YD λk h=>aw h|v::l,0=>YF ⟨v::l,λ_=>rfl⟩|v::l,i+1=>kR l i
theorem aG.fR{l:List V}{i:Nat}{g:List V->(α->R)->R}(hg:∀a,aG (g a)):aG λk=>Ev.fR id l i λa=>g a k:=aG.bind (kR l i) hg
theorem zJ:∀(m l),aG (over id m l)|[],l=>YF ⟨l,λ_=>rfl⟩|x::m,[]=>YD λk h=>aw h|x::m,y::l=>aG.bind (g:=λr k=>k (x::r)) (zJ m l) λr=>aG.ret _
theorem uU{m}:∀(l)(i),aG (setAt id m l i)|[],0=>zJ (id:=id) m []|[],_+1=>YD λk h=>aw h|v::l,0=>zJ (id:=id) m (v::l)|v::l,i+1=>aG.bind (g:=λr k=>k (v::r)) (uU l i) λr=>aG.ret _
theorem aG.iw{x:Option Arg}{e:Env}{d:Nat}{g:Nat->(α->R)->R}(hg:∀a,aG (g a)):aG λk=>Ev.iw id x e d λa=>g a k:=by cases x with|none=>exact hg d|some a=>exact aG.aJ λv=>aG.cI λkd n=>aG.aH (aG.aH (hg n) (aG.no 0)) (aG.no 0)
theorem aG.idx{i:Arg}{e:Env}{len:Nat}{g:Nat->(α->R)->R}(hg:∀a,aG (g a)):aG λk=>Ev.idx id i e len λa=>g a k:=aG.aJ λv=>aG.cI λkd n=>aG.aH (aG.aH (aG.aH (hg n) (aG.no 0)) (aG.no 0)) (aG.no 0)
theorem B9{e}:∀(ps)(z),aG (lj id e ps z)|[],z=>YF ⟨z,λ_=>rfl⟩|(off,size,a)::ps,z=>aG.aJ λv=>aG.dU λl=>aG.aH (aG.bind (uU z off) λz'=>B9 ps z') (aG.no 0)
end
theorem Vl{id}(f)(a b):aG (iE id f a b):=by cases f<;>first|exact aG.av λn=>aG.ret n|exact aG.aH (aG.av λn=>aG.ret n) (aG.aH (aG.ret 0) (aG.no 0))|exact aG.aH (aG.aH (aG.av λn=>aG.ret n) (aG.aH (aG.ret 0) (aG.no 0))) (aG.no 0)|exact aG.aH (aG.aH (aG.aH (aG.no 0) (aG.av λn=>aG.ret n)) (aG.no 0)) (aG.no 0)
theorem aG.iE{α:Type}{id:Nat}{f:BF}{a b:Nat}{g:Nat->(α->R)->R}(hg:∀a,aG (g a)):aG λk=>Ev.iE id f a b λa=>g a k:=aG.bind (Vl f a b) hg
theorem aG.lj{α:Type}{id:Nat}{e:Env}{ps:List (Nat×Nat×Arg)}{z:List V}{g:List V->(α->R)->R}(hg:∀a,aG (g a)):aG λk=>Ev.lj id e ps z λa=>g a k:=aG.bind (B9 ps z) hg
theorem KS{id}(c)(x y):aG (Ka id c x y):=by match c with|0=>exact aG.fm (id:=id) λa=>aG.fm λb=>aG.aH (aG.ret b) (aG.aH (aG.ret false) (aG.ret true))|1=>exact aG.cI (id:=id) λk1 a=>aG.cI λk2 b=>aG.aH (aG.ret _) (aG.no 0)|c+2=>exact aG.er (id:=id) λl1 a=>aG.er λl2 b=>aG.aH (aG.ret _) (aG.ret false)
theorem Il{id}:∀(cls)(l m),aG (hU id cls l m)|[],l,m=>YF ⟨true,λ_=>rfl⟩|c::cls,[],m=>YD λk h=>aw h|c::cls,a::l,[]=>YD λk h=>aw h|c::cls,a::l,b::m=>aG.bind (g:=λr k=>Ev.aH r (hU id cls l m k) (k false)) (KS c a b) λr=>aG.aH (Il cls l m) (aG.ret false)
theorem aG.hU{α:Type}{id:Nat}{cls:List Nat}{l m:List V}{g:Bool->(α->R)->R}(hg:∀a,aG (g a)):aG λk=>Ev.hU id cls l m λa=>g a k:=aG.bind (Il cls l m) hg
theorem Vm{P:Program}{nt:Nat}{c}{id}{ph}{e}(hp:bQ c=true)(H):aG λk:V->R=>aQ c id ph e H λv _=>k v:=by
 cases c<;>simp only[bQ,YV]at hp;case lz x=>exact aG.aJ λv=>aG.ret v
 case jE cls neg x y=>exact aG.aJ λx=>aG.js λl=>aG.aJ λy=>aG.js λm=>aG.aH (aG.aH (aG.hU λb=>aG.aH (aG.aH (aG.ret _) (aG.ret _)) (aG.ret _)) (aG.no 0)) (aG.no 0)
 case pick c x y=>exact aG.aJ λc=>aG.fm λb=>aG.aH (aG.aJ λv=>aG.ret v) (aG.aJ λv=>aG.ret v)
 case build z ps=>exact aG.lj λl=>aG.ret _
 case AK x=>refine aG.aJ λv=>?_;cases v<;>first|exact aG.ret _|exact aG.no 0
 case bin=>exact aG.aJ λx=>aG.cI λk1 a=>aG.aJ λy=>aG.cI λk2 b=>aG.aH (aG.aH (aG.iE λr=>aG.ret _) (aG.no 0)) (aG.no 0)
 case cmp=>exact aG.aJ λx=>aG.cI λk1 a=>aG.aJ λy=>aG.cI λk2 b=>aG.aH (aG.aH (aG.aH (aG.ret _) (aG.ret _)) (aG.no 0)) (aG.no 0)
 case Ve=>exact aG.aJ λx=>aG.er λk1 a=>aG.aJ λy=>aG.er λk2 b=>aG.av λl=>aG.aH (aG.av λn=>aG.ret _) (aG.no 0)
 case Vh=>exact aG.aJ λx=>aG.er λk1 a=>aG.aJ λy=>aG.er λk2 b=>aG.aH (aG.aH (aG.aH (aG.ret _) (aG.ret _)) (aG.ret _)) (aG.ret _)
 case eqv=>exact aG.aJ λx=>aG.gS λa=>aG.aJ λy=>aG.gS λb=>aG.aH (aG.aH (aG.aH (aG.aH (aG.no 0) (aG.aH (aG.ret _) (aG.ret _))) (aG.ret _)) (aG.no 0)) (aG.no 0)
 case AI=>exact aG.aJ λx=>aG.fm λb=>aG.aH (aG.ret _) (aG.ret _)
 case FC src dst mode c x=>refine aG.aJ λv=>?_;cases mode with|zero=>exact aG.cI λk1 a=>aG.aH (aG.av λr=>aG.ret _) (aG.no 0)|succ m=>exact aG.cI λk1 a=>aG.aH (aG.aH (aG.ret _) (aG.av λr=>aG.ret _)) (aG.no 0)
 case mkI=>exact aG.aJ λv=>aG.ret _
 case tas=>exact aG.aJ λv=>aG.vIf λu=>aG.ret _
 case mkF=>exact aG.pT λv=>aG.ret _
 case slS=>exact aG.aJ λx=>aG.er λlen n=>aG.iw λh=>aG.iw λl=>aG.aH (aG.aH (aG.av λd=>aG.av λr=>aG.ret _) (aG.no 0)) (aG.no 0)
 case slV size x lo hi mx=>refine aG.aJ λv=>?_;cases mx with|none=>exact aG.bC (λb o len cp sz=>by cases cp with|zero=>exact aG.iw λl=>aG.iw λh=>aG.aH (aG.av λd=>aG.aH (aG.aH (aG.av λo'=>aG.ret _) (aG.no 0)) (aG.no 0)) (aG.no 0)|succ q=>exact aG.iw λl=>aG.iw λh=>aG.aH (aG.av λd=>aG.aH (aG.aH (aG.ret _) (aG.av λo'=>aG.av λc'=>aG.ret _)) (aG.no 0)) (aG.no 0)) (aG.iw λl=>aG.iw λh=>aG.iw λm=>aG.aH (aG.aH (aG.aH (aG.ret _) (aG.no 0)) (aG.no 0)) (aG.no 0))|some m=>exact aG.bC (λb o len cp sz=>aG.iw λl=>aG.iw λh=>aG.aH (aG.av λd=>aG.iw λm=>aG.aH (aG.aH (aG.aH (aG.ret _) (aG.av λo'=>aG.av λc'=>aG.ret _)) (aG.no 0)) (aG.no 0)) (aG.no 0)) (aG.iw λl=>aG.iw λh=>aG.iw λm=>aG.aH (aG.aH (aG.aH (aG.ret _) (aG.no 0)) (aG.no 0)) (aG.no 0))
 case slA=>exact aG.aJ λx=>aG.eH λb o=>aG.iw λm=>aG.iw λh=>aG.iw λl=>aG.aH (aG.aH (aG.aH (aG.av λd=>aG.aH (aG.ret _) (aG.av λo'=>aG.av λc'=>aG.ret _)) (aG.no 0)) (aG.no 0)) (aG.no 0)
 case gJ=>exact aG.aJ λx=>aG.eH λb o=>aG.av λo'=>aG.ret _
 case T7=>exact aG.aJ λx=>aG.js λl=>aG.nth λv=>aG.ret _
 case T8=>exact aG.aJ λx=>aG.js λl=>aG.fR λr=>aG.takeN λq=>aG.ret _
 case ixA=>exact aG.aJ λx=>aG.eH λb o=>aG.idx λn=>aG.av λo'=>aG.ret _
 case AH=>exact aG.aJ λx=>aG.mF λb o _ _ _=>aG.idx λn=>aG.av λo'=>aG.ret _
 case ixS=>exact aG.aJ λx=>aG.er λb o=>aG.idx λn=>aG.av λo'=>aG.ret _
 case ixG=>exact aG.aJ λx=>aG.js λl=>aG.idx λn=>aG.aH (aG.fR λr=>aG.takeN λq=>aG.ret _) (aG.nth λv=>aG.ret _)
 case T4=>exact aG.aJ λx=>aG.AU λl=>aG.nth λv=>aG.ret _
theorem uQ{c}{id}{ph}{e}(hp:bQ c=true)(H H2)(k):aQ c id ph e H k=aQ c id ph e H2 λv _=>k v H:=by cases c<;>simp only[bQ,YV]at hp<;>rfl
theorem zq{P}{nt}{o}{id}{ph}{e}{H}{k}(hph:jC P ph)(hp:bQ (ai P nt o)=true)(h:aQ (ai P nt o) id ph e H k=1):∃v,(∀H2,fD P nt o e H2 v H2)/\k v H=1:=by
 rcases Vm (P:=P) (nt:=nt) hp H with⟨v,hv⟩|hv
 .have hv':∀k:V->R,(aQ (ai P nt o) id ph e H λv _=>k v)=k v:=hv;refine⟨v,λH2=>?_,?_⟩;.classical
   have h2:aQ (ai P nt o) id ph e H2 (λv' H'=>if v'=v/\H'=H2 then 1 else 0)=1:=by rw[uQ hp H2 H];simp_all
   obtain⟨v',H',h3,h4⟩:=eL hph h2;simp_all
  .rw[uQ hp H H]at h;simp_all
 .rw[uQ hp H H]at h;simp_all
def iB(P:Program)(nt:Nat)(ops:Array Oper)(iso pur:Bool)(B:Option Nat)(o:Oper)(e:Env)(H:Heap)(v:V)(e':Env)(H':Heap):Prop:=∃d,tp nt o.dst=some d/\e'=dH d v e/\((GW nt e ops o false/\v=.cG []/\H'=H)\/(GW nt e ops o true/\pur=true/\H'=H/\∀H2:Heap,(∀b,B=some b->H2.get b=H.get b)->fD P nt o e H2 v H2)\/(GW nt e ops o true/\pur=false/\iso=true/\fD P nt o e H v H')\/(GW nt e ops o true/\pur=false/\iso=false/\∃H1 H1':Heap,H1.n=H.n/\(∀b,H1.get b=H.get b)/\H1.bD=H.n/\fD P nt o e H1 v H1'/\H.n<=H1'.bD/\H'.n=H1'.n/\(∀b,H'.get b=H1'.get b)/\H'.bD=H.bD))
def rJ(P:Program)(nt:Nat)(e:Env)(o:Oper)(H:Heap)(v:V)(H':Heap):Prop:=∃(bl:eN),v=.ptr H.n 0/\py H bl H'/\bl.alive/\bl≠.mark/\∀(m:M)(a:Act),OR m nt e a o->∃ob:Obj,(∀m,BR P m bl ob)/\∀(rd:Option Nat)(w:World),o.wpIn (WF rd) 0 P a w (λa' w'=>a'=a.put o.dst (.pointer (some ⟨w.heap.size,0,none⟩))/\w'=w.alloc ob) (λ_ _ _=>False)
theorem rJ.ops{P:Program}{nt:Nat}{o:Oper}{e:Env}{H H':Heap}{v:V}(h:rJ P nt e o H v H'):fD P nt o e H v H':=λrd base w0 rho w a hp ho=>by obtain⟨bl,rfl,hN,ha,hm,hx⟩:=h;obtain⟨ob,hb,hx⟩:=hx _ a ho;refine kV (hx rd w) λa' w' hk=>?_;obtain⟨rfl,rfl⟩:=hk;obtain⟨p1,p2⟩:=hp.alloc (w':=w.alloc ob) (o:=ob) hN.n hN.bD hN.get hN.xf ha ⟨rfl,rfl,rfl⟩ (by simp) (World.alloc_heap_new w _) (λj hj=>Below.heap_alloc _ _ _ hj) (hb _);exact⟨_,rfl,_,by simp only[VR];exact⟨_,rfl,by rw[hN.n];omega,λ_=>by simp⟩,p1,p2⟩
theorem Xp{P}{op}{t}{c}{x y}:lP (jH P op t c x y)=false:=by unfold jH;(repeat' split)<;>rfl
theorem abK{k}{op}{x y}:lP (oK k op x y)=false:=by unfold oK;(repeat' split)<;>rfl
theorem abJ{P}{op}{xt yt}{x y}:lP (qG P op xt yt x y)=false:=by unfold qG mU mV;(repeat' split)<;>first|rfl|exact abK|exact Xp
theorem Xq{k k'}{x}:lP (uo k k' x)=false:=by unfold uo;(repeat' split)<;>rfl
theorem Jb{P}{nt}{b}{asL}{ts}:lP (dA P nt b asL ts)=false:=by unfold dA;(repeat' split)<;>rfl
theorem aeb{P}{nt}{o}{id}{ph}{e}{H}{k}(hal:lP (ai P nt o)=true)(h:aQ (ai P nt o) id ph e H k=1):∃v H',rJ P nt e o H v H'/\k v H'=1:=by
 have hop:∃t,o.op=.alloc t:=by unfold ai at hal;split at hal<;>first|exact⟨_,by omega⟩|(revert hal;(repeat' split)<;>first|(rw[abJ];simp)|(rw[Xq];simp)|(rw[Jb];simp)|simp[lP])
 obtain⟨t,hop⟩:=hop;simp only[ai,hop]at h;have hnd:∀c,o.op≠.defer c:=by simp[hop]
 have key:∀(z)(bl),rI P t=some z->rowOf bl=some z->(∀len n,bl=.bytes len n->n<256^len)->bl≠.mark->(cN H bl λn H=>k (.ptr n 0) H)=1->∃v H',rJ P nt e o H v H'/\k v H'=1:=by
  intro z bl hz hrow hcan hmk h';obtain⟨H',h1,h2⟩:=dP h';obtain⟨i,zv,hi,hzv,hvr,hone⟩:=nJ hz;refine⟨_,H',⟨bl,rfl,h2,(iq hrow).1,hmk,λm a _=>⟨.cells zv.cells t,λm=>mJ hrow hcan (jV.exact (hvr _) hone),λrd w=>⟨iY P o a w rd,?_⟩⟩⟩,h1⟩;rw[semAt_eq hnd];have hex:(execOp a.eval o).run P w=.ok (.value (.pointer (some ⟨w.heap.size,0,none⟩))) (w.alloc (.cells zv.cells t)):=by simp[execOp,hop,Instr.alloc,zeroValue,typeInfo,hi,hzv,newVar,newRow]
  rw[hex];exact⟨rfl,rfl⟩
 split at h
 .rename_i z n el hz hu;split at h;.rename_i hc;simp only[Yu,beq_iff_eq]at hc;have hzz:=MR hc.1;rw[hc.2]at hzz;exact key z (.bytes n 0) hz (by rw[hzz];rfl) (λlen m e=>by cases e;exact Nat.pow_pos (by omega)) (by simp) h
  .exact key z (.cells z) hz rfl (λlen m e=>by cases e) (by simp) h
 .exact key _ (.cells _) (by omega) rfl (λlen m e=>by cases e) (by simp) h
 .exact(aw h).elim
def qe{α:Type}(a:α)(f:Nat->α):Nat->α|0=>a|j+1=>f j
theorem By{P}{nt}{ph}{ops}{base}{pl al}{bf}(hph:jC P ph):∀(l)(i)(r)(e)(H)(k),dG P nt base ops pl al bf l i=some r->da ph r e H k=1->∃(E:Nat->Env)(Hh:Nat->Heap)(Vv:Nat->V),E 0=e/\Hh 0=H/\(∀j o,l[j]?=some o->iB P nt ops (dJ pl al bf (i+j)) (bQ (ai P nt o)) none o (E j) (Hh j) (Vv j) (E (j+1)) (Hh (j+1)))/\(∀j o,l[j]?=some o->lP (ai P nt o)=true->dJ pl al bf (i+j)=false->(GW nt (E j) ops o false/\Vv j=.cG []/\Hh (j+1)=Hh j)\/rJ P nt (E j) o (Hh j) (Vv j) (Hh (j+1)))/\k (E l.length) (Hh l.length)=1
 |[],i,r,e,H,k,hc,h=>by simp only[dG,Option.some.injEq]at hc;subst hc;exact⟨λ_=>e,λ_=>H,λ_=>.ny,rfl,rfl,λj o hj=>by simp at hj,λj o hj=>by simp at hj,h⟩|o::l,i,r,e,H,k,hc,h=>by
  simp only[dG]at hc;split at hc
  .rename_i d g r' hd hg hr;cases hc;have fin:∀(v)(H1),iB P nt ops (dJ pl al bf i) (bQ (ai P nt o)) none o e H v (dH d v e) H1->(lP (ai P nt o)=true->dJ pl al bf i=false->(GW nt e ops o false/\v=.cG []/\H1=H)\/rJ P nt e o H v H1)->da ph r' (dH d v e) H1 k=1->∃(E:Nat->Env)(Hh:Nat->Heap)(Vv:Nat->V),E 0=e/\Hh 0=H/\(∀j o',(o::l)[j]?=some o'->iB P nt ops (dJ pl al bf (i+j)) (bQ (ai P nt o')) none o' (E j) (Hh j) (Vv j) (E (j+1)) (Hh (j+1)))/\(∀j o',(o::l)[j]?=some o'->lP (ai P nt o')=true->dJ pl al bf (i+j)=false->(GW nt (E j) ops o' false/\Vv j=.cG []/\Hh (j+1)=Hh j)\/rJ P nt (E j) o' (Hh j) (Vv j) (Hh (j+1)))/\k (E (o::l).length) (Hh (o::l).length)=1:=λv H1 hs ha hev=>by
    obtain⟨E,Hh,Vv,h1,h2,h3,h5,h4⟩:=By hph l (i+1) r' _ _ k hr hev;refine⟨qe e E,qe H Hh,qe v Vv,rfl,rfl,λj o' hj=>?_,λj o' hj q1 q2=>?_,h4⟩;rotate_left;.cases j with|zero=>simp only[Wk,Option.some.injEq]at hj;subst hj;show(GW nt e ops o false/\v=.cG []/\Hh 0=H)\/rJ P nt e o H v (Hh 0);rw[h2];exact ha q1 q2|succ j=>have:=h5 j o' (by simpa using hj) q1;rw[show i+1+j=i+(j+1)by omega]at this;exact this q2
    cases j with|zero=>simp only[Wk,Option.some.injEq]at hj;subst hj;show iB P nt ops (dJ pl al bf (i+0)) _ none o e H v (E 0) (Hh 0);rw[h1,h2];omega|succ j=>have:=h3 j o' (by simpa using hj);rw[show i+1+j=i+(j+1)by omega]at this;exact this
   have h':wz g e (Nat.rec (aQ (ai P nt o) 0 ph e H λv H'=>bZ d v e λe'=>da ph r' e' H' k) (λ_ _=>Heap.rec (λn bD t=>aQ (ai P nt o) 0 ph e (.mk n n t) λv H'=>Heap.rec (λn' wlo' t'=>aH (Yd n wlo') (bZ d v e λe'=>da ph r' e' (.mk n' bD t') k) (no 0)) H') H) (if(bQ (ai P nt o)||dJ pl al bf i)=true then 0 else 1)) (bZ d (.cG []) e λe'=>da ph r' e' H k)=1:=h;rcases tY hg h' with⟨h1,h2⟩|⟨h1,h2⟩
   .by_cases hpu:bQ (ai P nt o)=true;.rw[if_pos (by simp[hpu])]at h1;obtain⟨v,h3,h4⟩:=zq hph hpu (show aQ (ai P nt o) 0 ph e H (λv H'=>bZ d v e λe'=>da ph r' e' H' k)=1from h1);have h4':=h4;rw[cj]at h4';exact fin v H ⟨d,hd,rfl,YD (YF ⟨h2,hpu,rfl,λH2 _=>h3 H2⟩)⟩ (λq=>absurd q (by cases hcc:ai P nt o<;>rw[hcc]at hpu<;>simp[lP,bQ]at hpu⊢)) h4'
    .by_cases his:dJ pl al bf i=true;.rw[if_pos (by simp[his])]at h1;obtain⟨v,H1,h3,h4⟩:=eL hph (show aQ (ai P nt o) 0 ph e H (λv H'=>bZ d v e λe'=>da ph r' e' H' k)=1from h1);have h4':bZ d v e (λe'=>da ph r' e' H1 k)=1:=h4;rw[cj]at h4';exact fin v H1 ⟨d,hd,rfl,YD (YD (YF ⟨h2,by simpa using hpu,his,h3⟩))⟩ (λ_ q=>absurd (his.symm.trans q) (by simp)) h4'
     .rw[if_neg (by simp[hpu,his])]at h1;cases H with|mk n bD t=>
       have h1':aQ (ai P nt o) 0 ph e (.mk n n t) (λv H'=>Heap.rec (λn' wlo' t'=>aH (Yd n wlo') (bZ d v e λe'=>da ph r' e' (.mk n' bD t') k) (no 0)) H')=1:=h1;by_cases hal:lP (ai P nt o)=true;.obtain⟨v,H1,h3,h4⟩:=aeb hal h1';cases H1 with|mk n' wlo' t'=>have h4':=h4;obtain⟨h5,h6⟩:=aX h4';rw[cj]at h6;obtain⟨bl,g1,g2,g3⟩:=h3;exact fin v (.mk n' bD t') ⟨d,hd,rfl,YD (YD (YD ⟨h2,by simpa using hpu,by simpa using his,.mk n n t,.mk n' wlo' t',rfl,λ_=>rfl,rfl,rJ.ops ⟨bl,g1,g2,g3⟩,cH h5,rfl,λ_=>rfl,rfl⟩))⟩ (λ_ _=>YD ⟨bl,g1,⟨g2.n,rfl,g2.get,g2.xf⟩,g3⟩) h6
       .obtain⟨v,H1,h3,h4⟩:=eL hph h1';cases H1 with|mk n' wlo' t'=>have h4':=h4;obtain⟨h5,h6⟩:=aX h4';rw[cj]at h6;exact fin v (.mk n' bD t') ⟨d,hd,rfl,YD (YD (YD ⟨h2,by simpa using hpu,by simpa using his,.mk n n t,.mk n' wlo' t',rfl,λ_=>rfl,rfl,h3,cH h5,rfl,λ_=>rfl,rfl⟩))⟩ (λq=>absurd q hal) h6
   .rw[cj]at h1;exact fin _ H ⟨d,hd,rfl,YF ⟨h2,rfl,rfl⟩⟩ (λ_ _=>YF ⟨h2,rfl,rfl⟩) h1
  .cases hc
section
variable{ops:Array Oper}
def dF(acc:Array Nat)(o:Oper):Array Nat:=acc.push (o.after.foldl (λs e=>if Region.binds .any e then s|||2^e.on|||acc.getD e.on 0 else s) 0)
theorem Bp(acc:Array Nat)(i):∀(l:List Edge)(s),(l.foldl (λs e=>if Region.binds .any e then s|||2^e.on|||acc.getD e.on 0 else s) s).testBit i=true->s.testBit i=true\/∃e∈l,Region.binds .any e=true/\(i=e.on\/(acc.getD e.on 0).testBit i=true)
 |[],s,h=>YF h|e::l,s,h=>by
  rw[Qb]at h;rcases Bp acc i l _ h with h|⟨e',h1,h2⟩
  .split at h
   .rw[YN0,YN0,QU,QU]at h;rcases h with(h|h)|h;.simp_all
    .rw[Nat.testBit_two_pow]at h;simp_all
    simp_all
   simp_all
  .exact YD ⟨e',YI _ h1,h2⟩
theorem pG:∀(l:List Oper)(acc),(l.foldl dF acc).size=acc.size+l.length/\∀j,j<acc.size->(l.foldl dF acc)[j]?=acc[j]?
 |[],acc=>⟨rfl,λ_ _=>rfl⟩|o::l,acc=>by
  obtain⟨h1,h2⟩:=pG l (dF acc o);have hs:(dF acc o).size=acc.size+1:=by simp[dF]
  rw[Qb];refine⟨by simp;omega,λj hj=>?_⟩;rw[h2 j (by omega)];unfold dF;rw[QS,if_neg (by omega)]
theorem mQ:∀(l:List Oper)(acc)(j i)(o),l[j]?=some o->((l.foldl dF acc).getD (acc.size+j) 0).testBit i=true->∃e∈o.after.toList,Region.binds .any e=true/\(i=e.on\/(e.on<acc.size+j/\((l.foldl dF acc).getD e.on 0).testBit i=true))
 |[],acc,j,i,o,hj,_=>by simp_all|o'::l,acc,0,i,o,hj,h=>by
  simp only[Wk,Option.some.injEq]at hj;subst hj;rw[Qb]at h⊢;obtain⟨h1,h2⟩:=pG l (dF acc o');have hs:(dF acc o').size=acc.size+1:=by simp[dF]
  have hg:(l.foldl dF (dF acc o'))[acc.size]?=(dF acc o')[acc.size]?:=h2 _ (by omega);have hv:(dF acc o')[acc.size]?=some (o'.after.foldl (λs e=>if Region.binds .any e then s|||2^e.on|||acc.getD e.on 0 else s) 0):=by simp[dF]
  rw[Nat.add_zero,Yo,hg,hv,YU,<-YD4]at h;rcases Bp acc i _ _ h with h|⟨e,h3,h4,h5⟩;.simp_all
  .refine⟨e,h3,h4,h5.imp id λh6=>?_⟩;have hlt:e.on<acc.size:=by
    rcases Yh e.on acc.size with h|h;.omega
    simp_all
   refine⟨by omega,?_⟩;rw[Yo,h2 _ (by omega)];unfold dF;rw[QS,if_neg (by omega),<-Yo];omega|o'::l,acc,j+1,i,o,hj,h=>by
  have hs:(dF acc o').size=acc.size+1:=by simp[dF]
  have:=mQ l (dF acc o') j i o (by simp_all);rw[hs,show acc.size+1+j=acc.size+(j+1)by omega]at this;simp_all
theorem NB:Region.before ops=ops.toList.foldl dF #[]:=by unfold Region.before;rw[<-YD4];rfl
theorem vu{j i}(h:((Region.before ops).getD j 0).testBit i=true):∃o,ops[j]?=some o/\∃e∈o.after.toList,Region.binds .any e=true/\(i=e.on\/(e.on<j/\((Region.before ops).getD e.on 0).testBit i=true)):=by
 rw[NB]at h⊢;obtain⟨h1,_⟩:=pG ops.toList #[];have hj:j<ops.toList.length:=by
  rcases Yh j (ops.toList.foldl dF #[]).size with h2|h2;.simp_all
  simp_all
 have ho:=List.getElem?_eq_getElem hj;refine⟨_,by rw[<-Ys];omega,?_⟩;have:=mQ ops.toList #[] j i _ ho;simp_all
def Ex(ops:Array Oper):Prop:=∀j o,ops[j]?=some o->∀e∈o.after.toList,Region.binds .any e=true->e.on<j
theorem tu(h:lY ops=true):Ex ops:=λj o hj e he hb=>by unfold lY at h;rw[WR]at h;have h1:=h (o,j) (WU.2 (by simp_all));rw[WR]at h1;have h2:=h1 e (by simp_all);simp_all
theorem ig(hE:Ex ops):∀(j i),((Region.before ops).getD j 0).testBit i=true->i<j:=by intro j;induction j using YD3 with|_ j ih=>
  intro i h;obtain⟨o,h1,e,h2,h3,h4⟩:=vu h;have h5:=hE j o h1 e h2 h3;rcases h4 with rfl|⟨_,h6⟩;.omega
  .have:=ih e.on h5 i h6;omega
def dV(listed:Array Bool)(i:Nat):Prop:=listed.getD i false=true
def ua(ops:Array Oper)(listed:Array Bool):Prop:=∀j,dV listed j->∀o,ops[j]?=some o->∀e∈o.after.toList,Region.binds .any e=true->dV listed e.on
theorem eB{listed}(hE:Ex ops)(hC:ua ops listed):∀(j i),(dV listed j\/∀o,ops[j]?=some o->∀e∈o.after.toList,Region.binds .any e=true->dV listed e.on)->((Region.before ops).getD j 0).testBit i=true->dV listed i:=by intro j;induction j using YD3 with|_ j ih=>
  intro i hj h;obtain⟨o,h1,e,h2,h3,h4⟩:=vu h;have h5:=hj.elim (λhb=>hC j hb o h1 e h2 h3) λhr=>hr o h1 e h2 h3;rcases h4 with rfl|⟨h6,h7⟩;.omega
  .exact ih e.on h6 i (YF h5) h7
theorem dv{listed}{i}(hi:i<listed.size){j}:dV (listed.setIfInBounds i true) j↔j=i\/dV listed j:=by
 unfold dV;simp only[Yo];by_cases h:i=j;.simp_all
 .rw[Array.getElem?_setIfInBounds_ne h];simp[Ne.symm h]
theorem EH{bf}(h:kA ops bf=true){i j}{oi oj}(hi:ops[i]?=some oi)(hj:ops[j]?=some oj)(hne:i≠j){d}(hd:oi.dst=some d)(hm:d∈xd ops oj):if i<j then(bf.getD j 0).testBit i=true else(bf.getD i 0).testBit j=true:=by unfold kA at h;rw[WR]at h;have h1:=h (oi,i) (WU.2 (by simp_all));rw[WR]at h1;have h2:=h1 (oj,j) (WU.2 (by simp_all));simp_all
end
def j9(D:Nat->Option Slot)(Vv:Nat->V)(e0:Env)(S:Nat->Bool):Nat->Env|0=>e0|k+1=>if S k then dH (D k) (Vv k) (j9 D Vv e0 S k)else j9 D Vv e0 S k
theorem fV{s}{d}{v}{e}:af s (dH d v e)=if d=some s then v else af s e:=by cases d with|none=>rfl|some d=>
  show af s (jl d v e)=_;rw[fH];by_cases h:s=d;.simp_all
  .rw[if_neg h,if_neg (by simp;exactλe=>h e.symm)]
theorem Mf{D}{Vv}{E:Nat->Env}{S}{n i}(hi:i<=n)(hE:∀k,k<n->E (k+1)=dH (D k) (Vv k) (E k)){s}(h:∀k,k<n->D k=some s->(S k=true↔k<i)):af s (j9 D Vv (E 0) S n)=af s (E i):=by
 have h1:∀m,m<=i->af s (j9 D Vv (E 0) S m)=af s (E m):=by intro m;induction m with|zero=>intro _;rfl|succ m ih=>
   intro hm;rw[hE m (by omega),fV];simp only[j9];by_cases hd:D m=some s;.rw[if_pos hd,if_pos ((h m (by omega) hd).2 (by omega)),fV,if_pos hd]
   .split;.rw[fV,if_neg hd];exact ih (by omega)
    .exact ih (by omega)
 have h2:∀m,i<=m->m<=n->af s (j9 D Vv (E 0) S m)=af s (E i):=by intro m;induction m with|zero=>simp_all|succ m ih=>
   intro h3 h4;by_cases h5:i=m+1;.simp_all
   .simp only[j9];split
    .rename_i hs;rw[fV];by_cases hd:D m=some s;.have:=(h m (by omega) hd).1 hs;omega
     .rw[if_neg hd];exact ih (by omega) (by omega)
    .exact ih (by omega) (by omega)
 simp_all
theorem TV{D}{Vv}{e0}{S S'}{n i}(hi:i<n)(h0:S i=false)(h1:∀k,S' k=true↔k=i\/S k=true)(h:∀k,k<n->i<k->S k=true->∀s,D k=some s->D i≠some s)(s):af s (j9 D Vv e0 S' n)=af s (dH (D i) (Vv i) (j9 D Vv e0 S n)):=by
 have hS:∀k,k≠i->S' k=S k:=λk hk=>by have:=h1 k;cases h2:S k<;>cases h3:S' k<;>simp[h2,h3,hk]at this⊢
 have g1:∀m,m<=i->j9 D Vv e0 S' m=j9 D Vv e0 S m:=by intro m;induction m with|zero=>intro _;rfl|succ m ih=>intro hm;simp only[j9,hS m (by omega),ih (by omega)]
 have g2:∀m,i<m->m<=n->af s (j9 D Vv e0 S' m)=af s (dH (D i) (Vv i) (j9 D Vv e0 S m)):=by intro m;induction m with|zero=>simp|succ m ih=>
   intro h3 h4;by_cases h5:m=i;.subst h5;have hs:=(h1 m).2 (YF rfl);simp only[j9,hs,if_true,h0,YV,if_false,g1 m (YC _)]
   .have ih:=ih (by omega) (by omega);simp only[j9,hS m h5];split
    .rename_i hs;rw[fV,ih,fV,fV,fV];by_cases hd:D m=some s;.rw[if_pos hd,if_neg (h m (by omega) (by omega) hs s hd),if_pos hd]
     simp_all
    omega
 simp_all
theorem Bw{D}{Vv}{e0}{S}(h:∀k,S k=false):∀n,j9 D Vv e0 S n=e0|0=>rfl|n+1=>by simp only[j9,h,YV,if_false];exact Bw h n
def bh{α:Type}(Q:α->Prop)(f:(α->R)->R):Prop:=(∃a,Q a/\∀k,f k=k a)\/∀k,f k≠1
section
variable{α β:Type}{id:Nat}{Q:α->Prop}
theorem bh.ret{a:α}(h:Q a):bh Q λk=>k a:=YF ⟨a,h,λ_=>rfl⟩
theorem bh.no(c:Nat):bh Q λ_:α->R=>no c:=YD λk h=>aw h
theorem bh.bind{f:(β->R)->R}{g:β->(α->R)->R}(h:aG f)(hg:∀b,bh Q (g b)):bh Q λk=>f λb=>g b k:=by
 rcases h with⟨b,hb⟩|h
 .rcases hg b with⟨a,hq,ha⟩|h;.exact YF ⟨a,hq,λk=>(hb _).trans (ha k)⟩
  .exact YD λk=>by show f _≠1;rw[hb];exact h k
 .exact YD λk=>h _
theorem bh.mR{S:β->Prop}{f:(β->R)->R}{g:β->(α->R)->R}(h:bh S f)(hg:∀b,S b->bh Q (g b)):bh Q λk=>f λb=>g b k:=by
 rcases h with⟨b,hs,hb⟩|h
 .rcases hg b hs with⟨a,hq,ha⟩|h;.exact YF ⟨a,hq,λk=>(hb _).trans (ha k)⟩
  .exact YD λk=>by show f _≠1;rw[hb];exact h k
 .exact YD λk=>h _
theorem bh.aH{b:Bool}{f g:(α->R)->R}(hf:bh Q f)(hg:bh Q g):bh Q λk=>Ev.aH b (f k) (g k):=by
 cases b;.exact hg
 .exact hf
theorem bh.aJ{a:Arg}{e:Env}{g:V->(α->R)->R}(hg:bh Q (g (aA a e))):bh Q λk=>Ev.aJ a e λb=>g b k:=by simp only[aq];exact hg
theorem bh.av{n:Nat}{g:Nat->(α->R)->R}(hg:∀b,bh Q (g b)):bh Q λk=>Ev.av n λb=>g b k:=by simp only[ay];exact hg _
theorem bh.get{f:(α->R)->R}(h:bh Q f){k:α->R}(h1:f k=1):∃a,Q a/\k a=1/\∀k',f k'=k' a:=by
 rcases h with⟨a,hq,ha⟩|h;.exact⟨a,hq,(ha k).symm.trans h1,ha⟩
 .exact absurd h1 (h k)
end
def Fr(ob:Option Nat)(H H':Heap):Prop:=∀b,b<H.n->ob≠some b->H'.get b=H.get b
theorem Ue(x):∀(t:HT)(k),bh (λt':HT=>t'.get k=x/\∀j,j≠k->t'.get j=t.get j) (λc=>t.set x k c):=by
 intro t k;by_cases h:∃c:HT->R,t.set x k c=1
 .obtain⟨c,h⟩:=h;have key:∀(t:HT)(k)(c),t.set x k c=1->∃t',∀c',t.set x k c'=c' t':=by intro t;induction t with
   |e=>intro k c h;cases k with|zero=>exact⟨_,λc'=>rfl⟩|succ k=>exact(aw h).elim
   |n u l r ihl ihr=>intro k c h;cases k with|zero=>exact⟨_,λc'=>rfl⟩|succ k=>
     have e:∀c',HT.set x (.n u l r) (k+1) c'=Nat.rec (l.set x (k/2) λl'=>c' (.n u l' r)) (λ_ _=>r.set x (k/2) λr'=>c' (.n u l r')) (k%2):=λc'=>rfl;rw[e]at h;rcases(by omega:k%2=0\/k%2=1)with hk|hk;.rw[hk]at h;obtain⟨t',ht⟩:=ihl _ _ h;exact⟨_,λc'=>by rw[e,hk];exact ht _⟩
     .rw[hk]at h;obtain⟨t',ht⟩:=ihr _ _ h;exact⟨_,λc'=>by rw[e,hk];exact ht _⟩
  obtain⟨t',ht⟩:=key t k c h;obtain⟨t2,_,h3,h4⟩:=HT.KV t k (λq=>open Classical in if q=t' then 1 else 0) (by rw[ht];simp);have:t2=t':=by simp_all
  subst this;exact YF ⟨t2,⟨h3,h4⟩,ht⟩
 .exact YD λc hc=>h ⟨c,hc⟩
theorem tR{id}(H)(b)(x):bh (λH'=>Fr (some b) H H'/\H'.n=H.n) (λk=>cJ id H b x k):=by cases H with|mk n bD t=>
  refine bh.aH (bh.mR (Ue x t b) λt' ht=>?_) (bh.no 0);refine bh.aH (bh.ret ⟨λb' hb hne=>?_,rfl⟩) (bh.ret ⟨λb' hb hne=>?_,rfl⟩);.exact ht.2 b' λh=>hne (by rw[h])
  .exact ht.2 b' λh=>hne (by rw[h])
theorem nE(H)(x):bh (λp:Nat×Heap=>Fr none H p.2/\H.n<=p.2.n) (λk=>cN H x λn H'=>k (n,H')):=by cases H with|mk n bD t=>refine bh.mR (Ue x t n) λt' ht=>?_;refine bh.ret ⟨λb hb _=>ht.2 b ?_,Nat.le_succ n⟩;have:b<n:=hb;omega
theorem Fr.trans{ob:Option Nat}{H H1 H2:Heap}(h:Fr ob H H1)(k:Fr none H1 H2)(hn:H.n<=H1.n):Fr ob H H2:=λb hb hne=>(k b (YE hb hn) (by simp)).trans (h b hb hne)
theorem Fr.any{ob:Option Nat}{H H1:Heap}(h:Fr none H H1):Fr ob H H1:=λb hb _=>h b hb (by simp)
section
variable{id:Nat}{α:Type}
theorem zI(l):(∀k,bB id l k=k)\/∀k,bB id l k≠1:=by induction l with|nil=>exact YF λk=>rfl|cons v l ih=>
  have e:∀k,bB id (v::l) k=ef id v (bB id l k):=λ_=>rfl;rcases ih with ih|ih;.cases v<;>first|exact YF λk=>by exact ih k|exact YD λk h=>aw h
  .refine YD λk h=>?_;rw[e]at h;exact ih k (yC h).2
theorem bh.bB{Q:α->Prop}{l:List V}{f:(α->R)->R}(hf:bh Q f):bh Q λk=>Ev.bB id l (f k):=by
 rcases zI (id:=id) l with h|h;.simp only[h];exact hf
 .exact YD λk=>h _
theorem Ca(v):(∀k,ef id v k=k)\/∀k,ef id v k≠1:=by cases v<;>first|exact YF λk=>rfl|exact YD λk h=>aw h
theorem bh.ef{Q:α->Prop}{v:V}{f:(α->R)->R}(hf:bh Q f):bh Q λk=>Ev.ef id v (f k):=by
 rcases Ca (id:=id) v with h|h;.simp only[h];exact hf
 .exact YD λk=>h _
theorem uT:∀(l),aG (λk:Nat×Nat->R=>iV id l λa b=>k (a,b))|[]=>YF ⟨(0,0),λ_=>rfl⟩|v::l=>by have e:∀k:Nat×Nat->R,(iV id (v::l) λa b=>k (a,b))=cI id v λkd x=>Ev.aH (Nat.beq kd 4) (iV id l λlen n=>Ev.av (Yi x (Yn 256 n)) λn'=>Ev.av (Nat.succ len) λlen'=>k (len',n')) (no 0):=λ_=>rfl;simp only[e];refine aG.cI λkd x=>aG.aH ?_ (aG.no 0);exact aG.bind (g:=λp k=>Ev.av (Yi x (Yn 256 p.2)) λn'=>Ev.av (Nat.succ p.1) λlen'=>k (len',n')) (uT l) λp=>aG.av λn'=>aG.av λlen'=>aG.ret _
theorem DX{Q}{bl}{kc:List V->(α->R)->R}{kb:Nat->Nat->(α->R)->R}(h1:∀l,bh Q (kc l))(h2:∀a b,bh Q (kb a b)):bh Q λk=>vt id bl (λl=>kc l k) (λa b=>kb a b k):=by cases bl<;>first|exact h1 _|exact h2 _ _|exact YD λk h=>aw h
theorem Ij{bl}{kc:List V->(α->R)->R}{kb:Nat->Nat->(α->R)->R}(h1:∀l,aG (kc l))(h2:∀a b,aG (kb a b)):aG λk=>vt id bl (λl=>kc l k) (λa b=>kb a b k):=by cases bl<;>first|exact h1 _|exact h2 _ _|exact YD λk h=>aw h
theorem sm(H)(b off)(m):bh (λH'=>Fr (some b) H H'/\H'.n=H.n) (λk=>ei id H b off m k):=by
 unfold ei;simp only[aU];refine DX (λl=>?_) (λlen x=>?_);.exact bh.bB (bh.bind (uU l off) λl'=>tR H b _)
 .exact bh.bind (g:=λp k=>Ev.aH (Yd (Yi off p.1) len) (Ev.av (Yi (Nat.mod x (Nat.pow 256 off)) (Yt (Yi p.2 (Yt (Nat.shiftRight x (Yn 8 (Yi off p.1))) (Yn 8 p.1))) (Yn 8 off))) λx'=>cJ id H b (.bytes len x') k) (no 0)) (uT m) λp=>bh.aH (bh.av λx'=>tR H b _) (bh.no 0)
theorem qt(len):∀n,aG (qW len n):=λn=>YF ⟨_,λk=>jr len n k⟩
theorem PG(H)(b off n):aG (fi id H b off n):=by
 unfold fi;simp only[aU];refine Ij (λl=>?_) (λlen x=>?_);.exact aG.bind (kR l off) λr=>kT r n
 .exact aG.aH (qt n _) (aG.no 0)
theorem KR{v}{f:(α->R)->R}(hf:aG f):aG λk=>Ev.ef id v (f k):=by
 rcases Ca (id:=id) v with h|h;.simp_all
 .exact YD λk=>h _
theorem Ii{l}{f:(α->R)->R}(hf:aG f):aG λk=>Ev.bB id l (f k):=by
 rcases zI (id:=id) l with h|h;.simp_all
 .exact YD λk=>h _
theorem Ik{bl}{kc:List V->(α->R)->R}{kb:Nat->Nat->(α->R)->R}{kv:List V->(α->R)->R}(h1:∀l,aG (kc l))(h2:∀a b,aG (kb a b))(h3:∀l,aG (kv l)):aG λk=>bRd id bl (λl=>kc l k) (λa b=>kb a b k) (λl=>kv l k):=by cases bl<;>first|exact h1 _|exact h2 _ _|exact h3 _|exact YD λk h=>aw h
theorem Z1(H)(b off):aG (MI id H b off):=by
 unfold MI;simp only[aU];refine Ik (λl=>xh l off) (λlen n=>?_) (λl=>?_);.exact aG.aH (aG.av λx=>aG.ret _) (aG.no 0)
 .exact aG.bind (xh l off) λv=>KR (aG.ret _)
theorem ML(H)(b off n):aG (HG id H b off n):=by
 unfold HG;simp only[aU];refine Ik (λl=>?_) (λlen x=>?_) (λl=>?_);.exact aG.bind (kR l off) λr=>kT r n
 .exact aG.aH (qt n _) (aG.no 0)
 .exact aG.bind (kR l off) λr=>aG.bind (kT r n) λq=>Ii (aG.ret _)
theorem Cb(H)(b off n):aG (nv id H b off n):=by
 unfold nv;simp only[aU];refine Ij (λl=>?_) (λlen x=>?_);.exact aG.bind (kR l off) λr=>aG.bind (kT r n) λq=>aG.bind (g:=λp k=>k p.2) (uT q) λp=>aG.ret _
 .exact aG.aH (aG.av λx=>aG.ret _) (aG.no 0)
theorem DZ(size)(H)(x):aG (λk:Nat×List V->R=>dg id size H x λn l=>k (n,l)):=by
 cases x<;>first|exact YD λk h=>aw h|exact YF ⟨_,λk=>rfl⟩|skip
 .rename_i l n;exact aG.aH (aG.bind (qt l n) λm=>aG.ret _) (aG.no 0)
 .rename_i b o l c s;cases l with|zero=>exact YF ⟨_,λk=>rfl⟩|succ l=>exact aG.bind (ML H b o _) λm=>aG.ret _
theorem DY(H)(x):aG (λk:Nat×Nat->R=>yU id H x λn l=>k (n,l)):=by
 cases x<;>first|exact YD λk h=>aw h|exact YF ⟨_,λk=>rfl⟩|skip
 rename_i b o l c s;exact aG.bind (Cb H b o _) λm=>aG.ret _
def rk:V->Option Nat|.ptr b _=>some b|.slice b _ _ _ _=>some b|_=>none
def W5(ob:Option Nat)(H:Heap)(p:V×Heap):Prop:=Fr ob H p.2
theorem Vk{size n b o len cp sz}{new}{H}:bh (W5 (some b) H) (λk:V×Heap->R=>sW id size n new b o len cp sz H λv H'=>k (v,H')):=by refine bh.bB (bh.av λneed=>bh.aH ?_ (bh.no 0));cases cp with|zero=>refine bh.aH (bh.aH ?_ (bh.no 0)) (bh.no 0);simp only[aU,fK];refine DX (λl=>?_) (λ_ _=>bh.no 0);refine bh.aH (bh.mR (tR H b .dead) λH1 h1=>?_) (bh.no 0);exact bh.mR (f:=λk=>cN H1 (.cells (l++new)) λn H'=>k (n,H')) (g:=λp(k:V×Heap->R)=>k (V.slice p.1 0 need 0 size,p.2)) (nE H1 _) λp hp=>bh.ret (h1.1.trans hp.1 (by omega))|succ q=>
  refine bh.aH ?_ ?_;.exact bh.mR (sm H b _ new) λH1 h1=>bh.ret h1.1
  .refine bh.bind (PG H b o _) λl=>bh.bB ?_;simp only[fK];exact bh.mR (f:=λk=>cN H (.cells (l++new)) λn H'=>k (n,H')) (g:=λp(k:V×Heap->R)=>k (V.slice p.1 0 need 0 size,p.2)) (nE H _) λp hp=>bh.ret hp.1.any
theorem Vj{n new b o len cp sz}{H}:bh (W5 (some b) H) (λk:V×Heap->R=>Nw id n new b o len cp sz H λv H'=>k (v,H')):=by refine bh.av λneed=>bh.aH ?_ (bh.no 0);cases cp with|zero=>refine bh.aH (bh.aH ?_ (bh.no 0)) (bh.no 0);simp only[aU];refine DX (λ_=>bh.no 0) (λln m=>?_);refine bh.aH (bh.av λm'=>?_) (bh.no 0);refine bh.mR (tR H b .dead) λH1 h1=>?_;exact bh.mR (f:=λk=>cN H1 (.bytes need m') λn H'=>k (n,H')) (g:=λp(k:V×Heap->R)=>k (V.slice p.1 0 need 0 1,p.2)) (nE H1 _) λp hp=>bh.ret (h1.1.trans hp.1 (by omega))|succ q=>refine bh.aH (bh.no 0) ?_;refine bh.bind (Cb H b o _) λm=>bh.av λm'=>?_;exact bh.mR (f:=λk=>cN H (.bytes need m') λn H'=>k (n,H')) (g:=λp(k:V×Heap->R)=>k (V.slice p.1 0 need 0 1,p.2)) (nE H _) λp hp=>bh.ret hp.1.any
theorem Vt{c}(hc:Dl c=true){ph}{e}{H}:bh (W5 (rk (aA (rN c) e)) H) (λk:V×Heap->R=>aQ c id ph e H λv H'=>k (v,H')):=by
 cases c<;>simp only[Dl,YV]at hc
 .rename_i a x;show bh (W5 (rk (aA a e)) H) (λk=>wW a x id ph e H λv H'=>k (v,H'));refine bh.aJ ?_;cases aA a e<;>first|exact YD λk h=>aw h|skip
  rename_i b o;refine bh.aJ (bh.ef ?_);exact bh.mR (sm H b o _) λH1 h1=>bh.ret h1.1
 .rename_i n a x;show bh (W5 (rk (aA a e)) H) (λk=>wX n a x id ph e H λv H'=>k (v,H'));refine bh.aJ ?_;cases aA a e<;>first|exact YD λk h=>aw h|skip
  rename_i b o;refine bh.aJ ?_;cases aA x e<;>first|exact YD λk h=>aw h|skip
  refine bh.aH ?_ (bh.no 0);exact bh.mR (sm H b o _) λH1 h1=>bh.ret h1.1
 .rename_i u size s x;have key:∀(f:Nat->Nat->Nat->Nat->Nat->Nat->(V×Heap->R)->R)(z:Nat->(V×Heap->R)->R)(n),(∀b o len cp sz,bh (W5 (some b) H) (f n b o len cp sz))->(bh (W5 none H) (z n))->bh (W5 (rk (aA s e)) H) (λk=>bC id (aA s e) (λb o len cp sz=>Nat.rec (k (aA s e,H)) (λ_ _=>f n b o len cp sz k) n) (Nat.rec (k (aA s e,H)) (λ_ _=>z n k) n)):=λf z n hf hz=>by
   cases hs:aA s e<;>first|exact YD λk h=>aw h|skip
   .rename_i b o len cp sz;cases n with|zero=>exact bh.ret λ_ _ _=>rfl|succ n=>exact hf b o len cp sz
   .cases n with|zero=>exact bh.ret λ_ _ _=>rfl|succ n=>exact hz
  cases u with|true=>show bh (W5 (rk (aA s e)) H) (λk=>Mc s x id e H λv H'=>k (v,H'));refine bh.aJ (bh.aJ ?_);refine bh.bind (g:=λp(k:V×Heap->R)=>bC id (aA s e) (λb o len cp sz=>Nat.rec (k (aA s e,H)) (λ_ _=>Nw id p.1 p.2 b o len cp sz H λv H'=>k (v,H')) p.1) (Nat.rec (k (aA s e,H)) (λ_ _=>Ev.aH (Yd p.1 1073741824) (cN H (.bytes p.1 p.2) λb' H=>k (V.slice b' 0 p.1 0 1,H)) (no 0)) p.1)) (DY H _) λp=>?_;refine key (λn b o len cp sz k=>Nw id n p.2 b o len cp sz H λv H'=>k (v,H')) (λn k=>Ev.aH (Yd n 1073741824) (cN H (.bytes n p.2) λb' H=>k (V.slice b' 0 n 0 1,H)) (no 0)) p.1 (λb o len cp sz=>Vj) ?_;refine bh.aH ?_ (bh.no 0);exact bh.mR (f:=λk=>cN H (.bytes p.1 p.2) λn H'=>k (n,H')) (g:=λq(k:V×Heap->R)=>k (V.slice q.1 0 p.1 0 1,q.2)) (nE H _) λq hq=>bh.ret hq.1|false=>show bh (W5 (rk (aA s e)) H) (λk=>Md size s x id e H λv H'=>k (v,H'));refine bh.aJ (bh.aJ ?_);refine bh.bind (g:=λp(k:V×Heap->R)=>bC id (aA s e) (λb o len cp sz=>Nat.rec (k (aA s e,H)) (λ_ _=>sW id size p.1 p.2 b o len cp sz H λv H'=>k (v,H')) p.1) (Nat.rec (k (aA s e,H)) (λ_ _=>Ev.bB id p.2 (Ev.aH (Yd p.1 1073741824) (cN H (.cells p.2) λb' H=>k (V.slice b' 0 p.1 0 size,H)) (no 0))) p.1)) (DZ size H _) λp=>?_;refine key (λn b o len cp sz k=>sW id size n p.2 b o len cp sz H λv H'=>k (v,H')) (λn k=>Ev.bB id p.2 (Ev.aH (Yd n 1073741824) (cN H (.cells p.2) λb' H=>k (V.slice b' 0 n 0 size,H)) (no 0))) p.1 (λb o len cp sz=>Vk) ?_;refine bh.bB (bh.aH ?_ (bh.no 0));exact bh.mR (f:=λk=>cN H (.cells p.2) λn H'=>k (n,H')) (g:=λq(k:V×Heap->R)=>k (V.slice q.1 0 p.1 0 size,q.2)) (nE H _) λq hq=>bh.ret hq.1
end
theorem sV{id}{x}{f}(h:mM id x f=1):f (rk x)=1:=by cases x<;>first|exact(aw h).elim|exact h
theorem uf{id bf b}:∀{l}{k},dI id bf b l k=1->(∀p∈l,bf.testBit p.1=false->b≠p.2)/\k=1
 |[],k,h=>⟨λp hp=>(by cases hp),h⟩|(i,c)::l,k,h=>by
  have h2:(Nat.testBit bf i=true\/b≠c)/\dI id bf b l k=1:=by
   rcases bS (show aH (Nat.testBit bf i) (dI id bf b l k) (aH (Nat.beq b c) (no 0) (dI id bf b l k))=1from h)with⟨h3,h4⟩|⟨h3,h4⟩;.simp_all
   .rcases bS h4 with⟨_,h6⟩|⟨h5,h6⟩;.exact(aw h6).elim
    .refine⟨YD λe=>?_,h6⟩;simp_all
  obtain⟨h3,h4⟩:=uf h2.2;refine⟨λp hp=>?_,h4⟩;rcases YN.1 hp with rfl|hp;.intro hb;simp_all
  .exact h3 p hp
theorem ac9{id b off}{H H2}(h:H2.get b=H.get b)(k):MI id H2 b off k=MI id H b off k:=by unfold MI;rw[aU,aU,h]
theorem ade{id b off n}{H H2}(h:H2.get b=H.get b)(k):HG id H2 b off n k=HG id H b off n k:=by unfold HG;rw[aU,aU,h]
theorem Uj{c}(hc:GH c=true){id}{ph}{e}{H}{k}{b}(hb:rk (aA (rN c) e)=some b)(h:aQ c id ph e H k=1):∃v,k v H=1/\∀H2:Heap,H2.get b=H.get b->∀k2:K,aQ c id ph e H2 k2=k2 v H2:=by
 cases c<;>simp only[GH,YV]at hc
 .rename_i a;have e1:∀(H2)(k2),aQ (.cw a) id ph e H2 k2=eH id (aA a e) λb o=>MI id H2 b o λv=>k2 v H2:=λH2 k2=>by show rU a id ph e H2 k2=_;unfold rU;rw[aq]
  rw[e1]at h;obtain⟨b',off,hx,h1⟩:=gu h;have hbb:=by have hb':rk (aA a e)=some b:=hb;rw[hx]at hb';simpa[rk]using hb'
  subst hbb;rcases Z1 (id:=id) H b' off with⟨v,hv⟩|hv;.refine⟨v,by simp_all,λH2 h2 k2=>?_⟩;rw[e1,hx];show MI id H2 b' off (λv=>k2 v H2)=_;rw[ac9 h2,hv]
  simp_all
 .rename_i n a;have e1:∀(H2)(k2),aQ (.dc n a) id ph e H2 k2=eH id (aA a e) λb o=>HG id H2 b o n λl=>k2 (.agg l) H2:=λH2 k2=>by show rV n a id ph e H2 k2=_;unfold rV;rw[aq]
  rw[e1]at h;obtain⟨b',off,hx,h1⟩:=gu h;have hbb:=by have hb':rk (aA a e)=some b:=hb;rw[hx]at hb';simpa[rk]using hb'
  subst hbb;rcases ML (id:=id) H b' off n with⟨l,hv⟩|hv;.refine⟨.agg l,by simp_all,λH2 h2 k2=>?_⟩;rw[e1,hx];show HG id H2 b' off n (λl=>k2 (.agg l) H2)=_;rw[ade h2,hv]
  simp_all
theorem GK{l}{bf}{i j}(h:iG l bf i=true)(hj:l[j]?=some false)(hne:i≠j):kg bf i j=true:=by
 unfold iG at h;rw[WR]at h;have:=h (false,j) (WU.2 hj);simp only[YC3,QU,beq_iff_eq]at this;unfold kg;rcases this with(h1|h1)|h1;.omega
 .simp_all
 simp_all
theorem Ph(bf)(i j):kg bf i j=kg bf j i:=by unfold kg;rw[Bool.or_comm]
def lF(cs:List lU)(bf:Array Nat)(x:Nat):Bool:=bQ (cs.getD x .bad)||rY cs bf x
theorem RJ{P}{op}{t}{c}{x y}:rA (jH P op t c x y)=false:=by unfold jH;(repeat' split)<;>rfl
theorem Xo{k}{op}{x y}:rA (oK k op x y)=false:=by unfold oK;(repeat' split)<;>rfl
theorem Xn{P}{op}{xt yt}{x y}:rA (qG P op xt yt x y)=false:=by unfold qG mU mV;(repeat' split)<;>first|rfl|exact Xo|exact RJ
theorem RK{k k'}{x}:rA (uo k k' x)=false:=by unfold uo;(repeat' split)<;>rfl
theorem EG{P}{nt}{b}{asL}{ts}:rA (dA P nt b asL ts)=false:=by unfold dA;(repeat' split)<;>rfl
theorem Ra{m m'}{v}{cv}(hk:Kd v v)(h:VR m v cv):VR m' v cv:=by
 rcases hk with⟨k,a,b,rfl,_⟩|⟨l,a,q,b,rfl,_⟩;.simpa only[VR]using h
 .simpa only[VR]using h
theorem Af{m m'}:∀{l}{cs},(∀v∈l,Kd v v)->cA m l cs->cA m' l cs|[],_,_,h=>by simpa only[cA]using h|v::l,cs,hk,h=>by obtain⟨c,r,h1,h2,h3⟩:=h;exact⟨c,r,h1,Ra (hk v (YM ..)) h2,Af (λx hx=>hk x (YI _ hx)) h3⟩
theorem abW{P:Program}{nt:Nat}{o:Oper}{id:Nat}{ph:dz}{e:Env}{H:Heap}{k:K}(hal:rA (ai P nt o)=true)(h:aQ (ai P nt o) id ph e H k=1):∃l H',py H (.cells l) H'/\k (.ptr H.n 0) H'=1/\((∀v∈l,Kd v v)->∀(G G':Heap),py G (.cells l) G'->rJ P nt e o G (.ptr G.n 0) G'):=by
 have hop:∃t x,o.op=.box t x:=by unfold ai at hal;split at hal<;>first|exact⟨_,_,by assumption⟩|(exfalso;revert hal;(repeat' split)<;>first|(rw[Xn];simp;done)|(rw[RK];simp;done)|(rw[EG];simp;done)|simp[rA])
 obtain⟨t,x,hop⟩:=hop;simp only[ai,hop]at h;have mem:x∈o.op.operands:=by simp[hop,Op.operands]
 have hnd:∀c,o.op≠.defer c:=by simp[hop]
 split at h
 .rename_i x' hx;have h':Ts x' id ph e H k=1:=h;unfold Ts at h';rw[aq]at h';obtain⟨l,h1,h2⟩:=qx h';obtain⟨h3,h4⟩:=fE h1;obtain⟨H',h5,h6⟩:=dP h4;refine⟨l,H',h6,h5,λhcl G G' hN=>⟨.cells l,rfl,hN,trivial,by simp,λm a ho=>⟨.cells (a.eval x).cells t,λm'=>mJ (row:=l) rfl (λlen m e=>by cases e) (jV.exact (Af hcl (h2 _ _ (ho x mem x' hx))) h3),λrd w=>⟨iY P o a w rd,?_⟩⟩⟩⟩;rw[semAt_eq hnd];have hex:(execOp a.eval o).run P w=.ok (.value (.pointer (some ⟨w.heap.size,0,none⟩))) (w.alloc (.cells (a.eval x).cells t)):=by simp[execOp,hop,Instr.box,newVar,newRow]
  rw[hex];exact⟨rfl,rfl⟩
 .exact(aw h).elim
theorem Tm{id}{l}{k}(h:Bl id (.cells l) k=1):(∀v∈l,Kd v v)/\k=1:=by have h':List.rec k (λv _ ih=>isKey id v ih) l=1:=h;clear h;induction l with|nil=>simp_all|cons v l ih=>obtain⟨h1,h2⟩:=GG (show isKey id v (List.rec k (λv _ ih=>isKey id v ih) l)=1from h');simp_all
theorem Mp{cs}{bf}{i}(h:lr cs bf i=true):rA (cs.getD i .bad)=true:=by unfold lr at h;simp_all
theorem KW{c}(h:Dl c=true):bQ c=false:=by cases c<;>first|rfl|cases h
theorem GP{cs}{bf}{i}(h:lr cs bf i=true):pn cs bf i=false:=by cases hx:pn cs bf i with|false=>rfl|true=>
  have ha:=Mp h;unfold pn at hx;rw[Yu,QU]at hx;have hs:Dl (cs.getD i .bad)=false:=by cases hc:cs.getD i .bad<;>rw[hc]at ha<;>first|rfl|cases ha
  have hi:=hx.2.resolve_left (by simp_all);unfold lr at h;rw[Yu,List.any_eq_true]at h;obtain⟨_,⟨q,j⟩,hq,hb⟩:=h;simp only[Yu,Bool.not_eq_true']at hb;obtain⟨⟨h1,h2⟩,h3⟩:=hb;have hij:i<j:=by simp_all
  have hjq:=WU.1 hq;have:=GK hi (by rw[Yq,hjq];simp[KW h1]) (by omega);simp_all
def abB(P:Program)(nt:Nat)(ops:Array Oper)(cs:List lU)(bf:Array Nat)(n0:Nat)(l:List Oper)(i:Nat)(e:Env)(H:Heap)(fl st:List (Nat×Nat))(k:Env->Heap->R):Prop:=∃(E:Nat->Env)(Hh:Nat->Heap)(Vv:Nat->V)(B:Nat->Option Nat),E 0=e/\Hh 0=H/\(∀j o,l[j]?=some o->iB P nt ops (pn cs bf (i+j)) (lF cs bf (i+j)) (B j) o (E j) (Hh j) (Vv j) (E (j+1)) (Hh (j+1)))/\k (E l.length) (Hh l.length)=1/\(∀j b,j<l.length->B j=some b->b<n0/\(∃c,cs[i+j]?=some c/\bQ c=false)/\∀p∈st,(bf.getD (i+j) 0).testBit p.1=false->b≠p.2)/\(∀j,j<l.length->pn cs bf (i+j)=true->lF cs bf (i+j)=false->∀p∈fl,(bf.getD (i+j) 0).testBit p.1=false->p.2<(Hh j).n->(Hh (j+1)).get p.2=(Hh j).get p.2)/\(∀j1 j2 b,j1<l.length->j2<l.length->B j1=some b->pn cs bf (i+j2)=true->lF cs bf (i+j2)=false->kg bf (i+j1) (i+j2)=false->b<(Hh j2).n->(Hh (j2+1)).get b=(Hh j2).get b)/\(∀j o,l[j]?=some o->lr cs bf (i+j)=true->(GW nt (E j) ops o false/\Vv j=.cG []/\Hh (j+1)=Hh j)\/(rJ P nt (E j) o (Hh j) (Vv j) (Hh (j+1))/\∀j2,j<j2->j2<l.length->pn cs bf (i+j2)=true->lF cs bf (i+j2)=false->kg bf (i+j) (i+j2)=false->(Hh j).n<(Hh j2).n->(Hh (j2+1)).get (Hh j).n=(Hh j2).get (Hh j).n))
theorem Bz{P:Program}{nt:Nat}{ph:dz}{ops:Array Oper}{base n0:Nat}{cs:List lU}{bf:Array Nat}(hph:jC P ph)(hbl:∀x y,(bf.getD x 0).testBit y=true->y<x):∀(l:List Oper)(i:Nat)(r:List wB)(e:Env)(H:Heap)(fl st:List (Nat×Nat))(k:Env->Heap->R),je P nt base ops cs bf l i=some r->(∀j o,l[j]?=some o->cs[i+j]?=some (ai P nt o))->(∀p∈fl,p.1<i/\∃c,cs[p.1]?=some c/\bQ c=false)->bI ph n0 r e H fl st k=1->abB P nt ops cs bf n0 l i e H fl st k
 |[],i,r,e,H,fl,st,k,hc,_,_,h=>by simp only[je,Option.some.injEq]at hc;subst hc;exact⟨λ_=>e,λ_=>H,λ_=>.ny,λ_=>none,rfl,rfl,λj o hj=>by simp at hj,h,λj b hj=>by simp at hj,λj hj=>by simp at hj,λj1 j2 b hj=>by simp at hj,λj o hj=>by simp at hj⟩|o::l,i,r,e,H,fl,st,k,hc,hcs,hfl,h=>by
  simp only[je]at hc;split at hc
  .rename_i d g r' hd hg hr;cases hc;have hci:cs[i]?=some (ai P nt o):=by simpa using hcs 0 o rfl
   have hcd:cs.getD i .bad=ai P nt o:=by rw[List.getD_eq_getElem?_getD,hci];rfl
   have hcs':∀j o',l[j]?=some o'->cs[i+1+j]?=some (ai P nt o'):=λj o' hj=>by have:=hcs (j+1) o' (by simpa using hj);rwa[show i+(j+1)=i+1+j by omega]at this
   have hpi:lF cs bf i=(bQ (ai P nt o)||rY cs bf i):=by unfold lF;rw[hcd]
   have fin:∀(v:V)(H1:Heap)(B0:Option Nat)(fl' st':List (Nat×Nat)),iB P nt ops (pn cs bf i) (lF cs bf i) B0 o e H v (dH d v e) H1->(∀b,B0=some b->b<n0/\bQ (ai P nt o)=false/\(∀p∈st,(bf.getD i 0).testBit p.1=false->b≠p.2)/\(i,b)∈fl'/\lF cs bf i=true)->(pn cs bf i=true->lF cs bf i=false->∀p∈fl,(bf.getD i 0).testBit p.1=false->p.2<H.n->H1.get p.2=H.get p.2)->(pn cs bf i=true->lF cs bf i=false->∀x b,i<x->(∃c,cs[x]?=some c/\bQ c=false)->(∀p∈st',(bf.getD x 0).testBit p.1=false->b≠p.2)->kg bf x i=false->b<H.n->H1.get b=H.get b)->(∀p∈fl',p.1<i+1/\∃c,cs[p.1]?=some c/\bQ c=false)->(∀p∈fl,p∈fl')->(∀p∈st,p∈st')->(lr cs bf i=true->(GW nt e ops o false/\v=.cG []/\H1=H)\/(rJ P nt e o H v H1/\(i,H.n)∈fl'))->bI ph n0 r' (dH d v e) H1 fl' st' k=1->abB P nt ops cs bf n0 (o::l) i e H fl st k:=λv H1 B0 fl' st' hs hA hC hK hfl' s1 s2 hL hev=>by
    obtain⟨E,Hh,Vv,B,h1,h2,h3,h4,h5,h6,h7,h8⟩:=Bz hph hbl l (i+1) r' _ _ fl' st' k hr hcs' hfl' hev;refine⟨qe e E,qe H Hh,qe v Vv,qe B0 B,rfl,rfl,λj o' hj=>?_,h4,λj b hj hb=>?_,λj hj hi hp p hpm hbit hlt=>?_,λj1 j2 b hj1 hj2 hb hi hp hord hlt=>?_,λj o' hj hla=>?_⟩;.cases j with|zero=>simp only[Wk,Option.some.injEq]at hj;subst hj;show iB P nt ops (pn cs bf (i+0)) _ B0 o e H v (E 0) (Hh 0);rw[h1,h2];exact hs|succ j=>have:=h3 j o' (by simpa using hj);rw[show i+1+j=i+(j+1)by omega]at this;exact this
    .cases j with|zero=>obtain⟨q1,q2,q3,_⟩:=hA b hb;exact⟨q1,⟨_,by simpa using hci,q2⟩,q3⟩|succ j=>obtain⟨q1,q2,q3⟩:=h5 j b (by simpa using hj) hb;rw[show i+1+j=i+(j+1)by omega]at q2 q3;exact⟨q1,q2,λp hp=>q3 p (s2 p hp)⟩
    .cases j with|zero=>show(Hh 0).get p.2=H.get p.2;rw[h2];exact hC hi hp p hpm hbit hlt|succ j=>have:=h6 j (by simpa using hj);rw[show i+1+j=i+(j+1)by omega]at this;exact this hi hp p (s1 p hpm) hbit hlt
    .cases j2 with
     |zero=>cases j1 with|zero=>obtain⟨_,_,_,_,q5⟩:=hA b hb;exact absurd (hp.symm.trans q5) (by simp)|succ j1=>obtain⟨_,q2,q3⟩:=h5 j1 b (by simpa using hj1) hb;show(Hh 0).get b=H.get b;rw[h2];exact hK hi hp (i+1+j1) b (by omega) q2 q3 (by rw[show i+1+j1=i+(j1+1)by omega];exact hord) hlt
     |succ j2=>cases j1 with|zero=>obtain⟨_,_,_,q4,_⟩:=hA b hb;have:=h6 j2 (by simpa using hj2);rw[show i+1+j2=i+(j2+1)by omega]at this;refine this hi hp (i,b) q4 ?_ hlt;unfold kg at hord;rw[QK]at hord;exact hord.2|succ j1=>have:=h7 j1 j2 b (by simpa using hj1) (by simpa using hj2) hb;rw[show i+1+j1=i+(j1+1)by omega,show i+1+j2=i+(j2+1)by omega]at this;exact this hi hp hord hlt
    .cases j with
     |zero=>
      simp only[Wk,Option.some.injEq]at hj;subst hj;rcases hL hla with⟨q1,q2,q3⟩|⟨q1,q2⟩;.exact YF ⟨q1,q2,by show Hh 0=H;rw[h2];exact q3⟩
      .refine YD ⟨by show rJ P nt e o H v (Hh 0);rw[h2];exact q1,λj2 hj2 hjl hi hp hord hlt=>?_⟩;cases j2 with|zero=>omega|succ j2=>have:=h6 j2 (by simpa using hjl);rw[show i+1+j2=i+(j2+1)by omega]at this;refine this hi hp (i,H.n) q2 ?_ hlt;unfold kg at hord;rw[QK]at hord;exact hord.2
     |succ j=>have:=h8 j o' (by simpa using hj) (by rw[show i+1+j=i+(j+1)by omega];exact hla);refine this.imp id λhA=>⟨hA.1,λj2 hj2 hjl hi hp hord hlt=>?_⟩;cases j2 with|zero=>omega|succ j2=>have:=hA.2 j2 (by omega) (by simpa using hjl);rw[show i+1+j2=i+(j2+1)by omega,show i+1+j=i+(j+1)by omega]at this;exact this hi hp hord hlt
   have skip0:GW nt e ops o false->iB P nt ops (pn cs bf i) (lF cs bf i) none o e H (.cG []) (dH d (.cG []) e) H->bI ph n0 r' (dH d (.cG []) e) H fl st k=1->abB P nt ops cs bf n0 (o::l) i e H fl st k:=λhgw hs hev=>fin _ H none fl st hs (λb hb=>by cases hb) (λ_ _ _ _ _ _=>rfl) (λ_ _ _ _ _ _ _ _ _=>rfl) (λp hp=>⟨YJ2 (hfl p hp).1,(hfl p hp).2⟩) (λ_ h=>h) (λ_ h=>h) (λ_=>YF ⟨hgw,rfl,rfl⟩) hev;have hla:lr cs bf i=true->rA (ai P nt o)=true:=λhl=>by have:=Mp hl;rwa[hcd]at this
   have hnoI:pn cs bf i=true->∀{X:Prop},lr cs bf i=true->X:=λhi X hl=>by rw[GP hl]at hi;cases hi
   have hfls:∀p∈fl,p.1<i+1/\∃c,cs[p.1]?=some c/\bQ c=false:=λp hp=>⟨YJ2 (hfl p hp).1,(hfl p hp).2⟩;have h':wz g e (Nat.rec (motive:=λ_=>R) (aQ (ai P nt o) 0 ph e H λv H'=>bZ d v e λe'=>bI ph n0 r' e' H' fl st k) (λt1 _=>Nat.rec (motive:=λ_=>R) (Heap.rec (motive:=λ_=>R) (λn bD t=>aQ (ai P nt o) 0 ph e (.mk n n t) λv H'=>Heap.rec (motive:=λ_=>R) (λn' wlo' t'=>aH (Yd n wlo') (bZ d v e λe'=>bI ph n0 r' e' (.mk n' bD t') fl st k) (no 0)) H') H) (λt2 _=>aJ (rN (ai P nt o)) e λa=>mM 0 a λob=>Nat.rec (motive:=λ_=>R) (Option.rec (motive:=λ_=>R) (no 0) (λb=>aH (WC b n0) (dI 0 (bf.getD i 0) b st (aQ (ai P nt o) 0 ph e H λv H'=>bZ d v e λe'=>bI ph n0 r' e' H ((i,b)::fl) st k)) (no 0)) ob) (λt3 _=>Nat.rec (motive:=λ_=>R) (Option.rec (motive:=λ_=>R) (aQ (ai P nt o) 0 ph e H λv H'=>bZ d v e λe'=>bI ph n0 r' e' H' fl st k) (λb=>dI 0 (bf.getD i 0) b fl (aQ (ai P nt o) 0 ph e H λv H'=>bZ d v e λe'=>bI ph n0 r' e' H' fl ((i,b)::st) k)) ob) (λ_ _=>Heap.rec (motive:=λ_=>R) (λn bD t=>aQ (ai P nt o) 0 ph e (.mk n n t) λv H'=>Heap.rec (motive:=λ_=>R) (λn' wlo' t'=>aH (Yd n wlo') (Bl 0 (HT.get t' n) (bZ d v e λe'=>bI ph n0 r' e' (.mk n' bD t') ((i,n)::fl) st k)) (no 0)) H') H) t3) t2) t1) (l9 cs bf (ai P nt o) i)) (bZ d (.cG []) e λe'=>bI ph n0 r' e' H fl st k)=1:=h;rcases tY hg h' with⟨h1,h2⟩|⟨h1,h2⟩;rotate_left;.rw[cj]at h1;exact skip0 h2 ⟨d,hd,rfl,YF ⟨h2,rfl,rfl⟩⟩ h1
   by_cases hf:rY cs bf i=true
   .have hld:GH (ai P nt o)=true:=by unfold rY at hf;rw[Yu,hcd]at hf;exact hf.1
    have hnp:bQ (ai P nt o)=false:=by cases hcc:ai P nt o<;>rw[hcc]at hld<;>first|rfl|cases hld
    rw[show l9 cs bf (ai P nt o) i=2by unfold l9;rw[if_pos hf]]at h1;have h3:aJ (rN (ai P nt o)) e (λa=>mM 0 a λob=>Option.rec (motive:=λ_=>R) (no 0) (λb=>aH (WC b n0) (dI 0 (bf.getD i 0) b st (aQ (ai P nt o) 0 ph e H λv H'=>bZ d v e λe'=>bI ph n0 r' e' H ((i,b)::fl) st k)) (no 0)) ob)=1:=h1;rw[aq]at h3;have h4:=sV h3;cases hob:rk (aA (rN (ai P nt o)) e)with|none=>rw[hob]at h4;exact(aw h4).elim|some b=>
     rw[hob]at h4;obtain⟨h5,h6⟩:=aX (show aH (WC b n0) _ (no 0)=1from h4);obtain⟨h7,h8⟩:=uf h6;obtain⟨v,h9,h10⟩:=Uj hld hob h8;have h9':bZ d v e (λe'=>bI ph n0 r' e' H ((i,b)::fl) st k)=1:=h9;rw[cj]at h9';have hpt:lF cs bf i=true:=by rw[hpi,hf];simp
     refine fin v H (some b) ((i,b)::fl) st ⟨d,hd,rfl,YD (YF ⟨h2,hpt,rfl,λH2 hH2=>?_⟩)⟩ (λb' hb'=>?_) (λ_ hp=>absurd (hp.symm.trans hpt) (by simp)) (λ_ hp=>absurd (hp.symm.trans hpt) (by simp)) (λp hp=>?_) (λp hp=>YI _ hp) (λ_ h=>h) (λhl=>by have:=hla hl;cases hcc:ai P nt o<;>rw[hcc]at hld this<;>first|(cases this;done)|(cases hld;done)) h9'
     .have hev:=h10 H2 (hH2 b rfl) (λv' H'=>open Classical in if v'=v/\H'=H2 then 1 else 0);obtain⟨v',H',q1,q2⟩:=eL hph (P:=P) (nt:=nt) (o:=o) (id:=0) (e:=e) (H:=H2) (by rw[hev];simp);have q3:v'=v/\H'=H2:=by
       by_cases hq:v'=v/\H'=H2;.exact hq
       .simp[hq]at q2
      rw[<-q3.1];have:=q1;rw[q3.2]at this;exact this
     .cases hb';exact⟨fu h5,hnp,h7,YM ..,hpt⟩
     .rcases YN.1 hp with rfl|hp;.exact⟨YK0 i,_,hci,hnp⟩
      .exact hfls p hp
   .have hf':rY cs bf i=false:=by simpa using hf
    by_cases hpu:bQ (ai P nt o)=true
    .rw[show l9 cs bf (ai P nt o) i=0 by unfold l9;rw[if_neg hf,if_pos hpu]]at h1;obtain⟨v,h3,h4⟩:=zq hph hpu (show aQ (ai P nt o) 0 ph e H (λv H'=>bZ d v e λe'=>bI ph n0 r' e' H' fl st k)=1from h1);have h4':bZ d v e (λe'=>bI ph n0 r' e' H fl st k)=1:=h4;rw[cj]at h4';have hpt:lF cs bf i=true:=by rw[hpi,hpu];rfl
     exact fin v H none fl st ⟨d,hd,rfl,YD (YF ⟨h2,hpt,rfl,λH2 _=>h3 H2⟩)⟩ (λb hb=>by cases hb) (λ_ _ _ _ _ _=>rfl) (λ_ _ _ _ _ _ _ _ _=>rfl) hfls (λ_ h=>h) (λ_ h=>h) (λhl=>by have:=hla hl;cases hcc:ai P nt o<;>rw[hcc]at hpu this<;>first|(cases this;done)|(cases hpu;done)) h4'
    .have hpf:lF cs bf i=false:=by rw[hpi,hf'];simpa using hpu
     have hpn:bQ (ai P nt o)=false:=by simpa using hpu
     by_cases his:pn cs bf i=true
     .by_cases hi0:iG (cs.map bQ) bf i=true
      .rw[show l9 cs bf (ai P nt o) i=0 by unfold l9;rw[if_neg hf,if_neg hpu,if_pos his,if_pos hi0]]at h1;obtain⟨v,H1,h3,h4⟩:=eL hph (show aQ (ai P nt o) 0 ph e H (λv H'=>bZ d v e λe'=>bI ph n0 r' e' H' fl st k)=1from h1);have h4':bZ d v e (λe'=>bI ph n0 r' e' H1 fl st k)=1:=h4;rw[cj]at h4';have hno:∀x,x≠i->(∃c,cs[x]?=some c/\bQ c=false)->kg bf i x=true:=λx hx⟨c,hc1,hc2⟩=>GK hi0 (by rw[Yq,hc1];simp[hc2]) (Ne.symm hx);refine fin v H1 none fl st ⟨d,hd,rfl,YD (YD (YF ⟨h2,hpf,his,h3⟩))⟩ (λb hb=>by cases hb) (λ_ _ p hp hbit _=>?_) (λ_ _ x b hx hxc _ hord _=>?_) hfls (λ_ h=>h) (λ_ h=>h) (λhl=>hnoI his hl) h4';.have hlt:=(hfl p hp).1;have ho:=hno p.1 (by omega) (hfl p hp).2;unfold kg at ho;rw[hbit,YC3]at ho;have:=hbl _ _ ho;omega
       .rw[Ph,hno x (by omega) hxc]at hord;cases hord
      .rw[show l9 cs bf (ai P nt o) i=3by unfold l9;rw[if_neg hf,if_neg hpu,if_pos his,if_neg hi0]]at h1;have hst:Dl (ai P nt o)=true:=by have hi:=his;unfold pn at hi;rw[Yu,QU,hcd]at hi;exact hi.2.resolve_right hi0
       have h3:aJ (rN (ai P nt o)) e (λa=>mM 0 a λob=>Option.rec (motive:=λ_=>R) (aQ (ai P nt o) 0 ph e H λv H'=>bZ d v e λe'=>bI ph n0 r' e' H' fl st k) (λb=>dI 0 (bf.getD i 0) b fl (aQ (ai P nt o) 0 ph e H λv H'=>bZ d v e λe'=>bI ph n0 r' e' H' fl ((i,b)::st) k)) ob)=1:=h1;rw[aq]at h3;have h4:=sV h3;have hfr:=Vt (id:=0) hst (ph:=ph) (e:=e) (H:=H);have fire:∀(fl' st':List (Nat×Nat)),aQ (ai P nt o) 0 ph e H (λv H'=>bZ d v e λe'=>bI ph n0 r' e' H' fl' st' k)=1->∃v H1,fD P nt o e H v H1/\Fr (rk (aA (rN (ai P nt o)) e)) H H1/\bI ph n0 r' (dH d v e) H1 fl' st' k=1:=λfl' st' hev=>by
        obtain⟨⟨v,H1⟩,q1,q2,q3⟩:=hfr.get (k:=λp:V×Heap=>bZ d p.1 e λe'=>bI ph n0 r' e' p.2 fl' st' k) hev;obtain⟨v',H',q4,q5⟩:=eL hph (P:=P) (nt:=nt) (o:=o) (id:=0) (e:=e) (H:=H) (k:=λv' H'=>open Classical in if(v',H')=(v,H1)then 1 else 0) (by have:=q3 (λp=>open Classical in if p=(v,H1)then 1 else 0);rw[show(λv' H'=>open Classical in if(v',H')=(v,H1)then 1 else 0)=λv' H'=>(λp:V×Heap=>open Classical in if p=(v,H1)then(1:R)else 0) (v',H')from rfl,this];simp);have q6:(v',H')=(v,H1):=by
         by_cases hq:(v',H')=(v,H1);.exact hq
         .simp[hq]at q5
        cases q6;have q2':bZ d v e (λe'=>bI ph n0 r' e' H1 fl' st' k)=1:=q2;rw[cj]at q2';exact⟨v,H1,q4,q1,q2'⟩
       cases hob:rk (aA (rN (ai P nt o)) e)with|none=>rw[hob]at h4;obtain⟨v,H1,q1,q2,q3⟩:=fire fl st h4;rw[hob]at q2;exact fin v H1 none fl st ⟨d,hd,rfl,YD (YD (YF ⟨h2,hpf,his,q1⟩))⟩ (λb hb=>by cases hb) (λ_ _ p hp hbit hlt=>q2 _ hlt (by simp)) (λ_ _ x b hx hxc _ hord hlt=>q2 _ hlt (by simp)) hfls (λ_ h=>h) (λ_ h=>h) (λhl=>hnoI his hl) q3|some b0=>
        rw[hob]at h4;obtain⟨h7,h8⟩:=uf (show dI 0 (bf.getD i 0) b0 fl _=1from h4);obtain⟨v,H1,q1,q2,q3⟩:=fire fl ((i,b0)::st) h8;rw[hob]at q2;refine fin v H1 none fl ((i,b0)::st) ⟨d,hd,rfl,YD (YD (YF ⟨h2,hpf,his,q1⟩))⟩ (λb hb=>by cases hb) (λ_ _ p hp hbit hlt=>q2 _ hlt ?_) (λ_ _ x b hx hxc hap hord hlt=>q2 _ hlt ?_) hfls (λ_ h=>h) (λp hp=>YI _ hp) (λhl=>hnoI his hl) q3;.intro e0;cases e0;exact h7 p hp hbit rfl
        .intro e0;cases e0;unfold kg at hord;rw[QK]at hord;exact hap (i,b0) (YM ..) hord.1 rfl
     .have hisf:pn cs bf i=false:=by simpa using his
      by_cases hlt:lr cs bf i=true
      .rw[show l9 cs bf (ai P nt o) i=4by unfold l9;rw[if_neg hf,if_neg hpu,if_neg his,if_pos hlt]]at h1;have hbx:=hla hlt;have had:rN (ai P nt o)=.c .aE:=by cases hcc:ai P nt o<;>rw[hcc]at hbx<;>first|rfl|cases hbx
       have h3:aJ (rN (ai P nt o)) e (λa=>mM 0 a λob=>Heap.rec (motive:=λ_=>R) (λn bD t=>aQ (ai P nt o) 0 ph e (.mk n n t) λv H'=>Heap.rec (motive:=λ_=>R) (λn' wlo' t'=>aH (Yd n wlo') (Bl 0 (HT.get t' n) (bZ d v e λe'=>bI ph n0 r' e' (.mk n' bD t') ((i,n)::fl) st k)) (no 0)) H') H)=1:=h1;rw[aq,had]at h3;have h4:=sV h3;cases H with|mk n bD t=>have h4':aQ (ai P nt o) 0 ph e (.mk n n t) (λv H'=>Heap.rec (motive:=λ_=>R) (λn' wlo' t'=>aH (Yd n wlo') (Bl 0 (HT.get t' n) (bZ d v e λe'=>bI ph n0 r' e' (.mk n' bD t') ((i,n)::fl) st k)) (no 0)) H')=1:=h4;obtain⟨bl,H1,hN,h5,hA⟩:=abW hbx h4';cases H1 with|mk n' wlo' t'=>
         have h5':aH (Yd n wlo') (Bl 0 (HT.get t' n) (bZ d (.ptr n 0) e λe'=>bI ph n0 r' e' (.mk n' bD t') ((i,n)::fl) st k)) (no 0)=1:=h5;obtain⟨h6,h7⟩:=aX h5';rw[show HT.get t' n=.cells bl from hN.get]at h7;obtain⟨hcl,h8⟩:=Tm h7;rw[cj]at h8;have hN':py (.mk n bD t) (.cells bl) (.mk n' bD t'):=⟨hN.n,rfl,hN.get,hN.xf⟩;refine fin (.ptr n 0) (.mk n' bD t') none ((i,n)::fl) st ⟨d,hd,rfl,YD (YD (YD ⟨h2,hpf,hisf,.mk n n t,.mk n' wlo' t',rfl,λ_=>rfl,rfl,(hA hcl _ _ hN).ops,cH h6,rfl,λ_=>rfl,rfl⟩))⟩ (λb hb=>by cases hb) (λhi=>absurd (hi.symm.trans hisf) (by simp)) (λhi=>absurd (hi.symm.trans hisf) (by simp)) (λp hp=>?_) (λp hp=>YI _ hp) (λ_ h=>h) (λ_=>YD ⟨hA hcl _ _ hN',YM ..⟩) h8;rcases YN.1 hp with rfl|hp;.exact⟨YK0 i,_,hci,hpn⟩
         .exact hfls p hp
      rw[show l9 cs bf (ai P nt o) i=1by unfold l9;rw[if_neg hf,if_neg hpu,if_neg his,if_neg hlt]]at h1;cases H with|mk n bD t=>obtain⟨v,H1,h3,h4⟩:=eL hph (show aQ (ai P nt o) 0 ph e (.mk n n t) (λv H'=>Heap.rec (motive:=λ_=>R) (λn' wlo' t'=>aH (Yd n wlo') (bZ d v e λe'=>bI ph n0 r' e' (.mk n' bD t') fl st k) (no 0)) H')=1from h1);cases H1 with|mk n' wlo' t'=>have h4':aH (Yd n wlo') (bZ d v e λe'=>bI ph n0 r' e' (.mk n' bD t') fl st k) (no 0)=1:=h4;obtain⟨h5,h6⟩:=aX h4';rw[cj]at h6;exact fin v (.mk n' bD t') none fl st ⟨d,hd,rfl,YD (YD (YD ⟨h2,hpf,hisf,.mk n n t,.mk n' wlo' t',rfl,λ_=>rfl,rfl,h3,cH h5,rfl,λ_=>rfl,rfl⟩))⟩ (λb hb=>by cases hb) (λhi=>absurd (hi.symm.trans hisf) (by simp)) (λhi=>absurd (hi.symm.trans hisf) (by simp)) hfls (λ_ h=>h) (λ_ h=>h) (λhl=>absurd hl hlt) h6
  .cases hc
def M.meet(m1 m2:M):M:=⟨λb c=>(∃c',m1.b b c')/\m2.b b c,m2.z⟩
mutual theorem VR.meet{m1 m2:M}:∀(v:V)(c1 c2:Value),VR m1 v c1->VR m2 v c2->VR (m1.meet m2) v c2|.int ..,_,_,_,h=>by simpa only[VR]using h|.bool _,_,_,_,h=>by simpa only[VR]using h|.str ..,_,_,_,h=>by simpa only[VR]using h|.ptr ..,_,_,h1,h2=>by simp only[VR]at h1 h2⊢;obtain⟨c,_,h3⟩:=h1;obtain⟨c',h4,h5⟩:=h2;exact⟨c',h4,⟨c,h3⟩,h5⟩|.ny,_,_,_,h=>by simpa only[VR]using h|.slice ..,_,_,h1,h2=>by simp only[VR]at h1 h2⊢;obtain⟨c,_,_,_,_,h3,_⟩:=h1;obtain⟨c',cap,o',sp,h4,h5,h6⟩:=h2;exact⟨c',cap,o',sp,h4,⟨⟨c,h3⟩,h5⟩,h6⟩|.aE,_,_,_,h=>by simpa only[VR]using h|.map _,_,_,h1,h2=>by simp only[VR]at h1 h2⊢;obtain⟨c,_,h3⟩:=h1;obtain⟨c',h4,h5⟩:=h2;exact⟨c',h4,⟨c,h3⟩,h5⟩|.wK,_,_,_,h=>by simpa only[VR]using h|.func _ l,_,_,h1,h2=>by simp only[VR]at h1 h2⊢;obtain⟨c,_,h3⟩:=h1;obtain⟨c',h4,h5⟩:=h2;exact⟨c',h4,cA.meet l _ _ h3 h5⟩|.rH _,_,_,h1,h2=>by simp only[VR]at h1 h2⊢;obtain⟨c,_,h3⟩:=h1;obtain⟨c',h4,h5⟩:=h2;exact⟨c',h4,⟨c,h3⟩,h5⟩|.rj,_,_,_,h=>by simpa only[VR]using h|.iface _ x,_,_,h1,h2=>by simp only[VR]at h1 h2⊢;obtain⟨c,_,h3⟩:=h1;obtain⟨c',h4,h5⟩:=h2;exact⟨c',h4,VR.meet x _ _ h3 h5⟩|.Hm,_,_,_,h=>by simpa only[VR]using h|.agg l,_,_,h1,h2=>by simp only[VR]at h1 h2⊢;obtain⟨c,_,h3⟩:=h1;obtain⟨c',h4,h5⟩:=h2;exact⟨c',h4,cA.meet l _ _ h3 h5⟩|.cG l,_,_,h1,h2=>by simp only[VR]at h1 h2⊢;obtain⟨c,_,h3⟩:=h1;obtain⟨c',h4,h5⟩:=h2;exact⟨c',h4,cA.meet l _ _ h3 h5⟩theorem cA.meet{m1 m2:M}:∀(l:List V)(c1 c2:List Value),cA m1 l c1->cA m2 l c2->cA (m1.meet m2) l c2|[],_,_,_,h=>by simpa only[cA]using h|v::l,_,_,h1,h2=>by simp only[cA]at h1 h2⊢;obtain⟨c,r,_,h3,h4⟩:=h1;obtain⟨c',r',h5,h6,h7⟩:=h2;exact⟨c',r',h5,VR.meet v _ _ h3 h6,cA.meet l _ _ h4 h7⟩end
theorem BR.meet{P:Program}{m1 m2:M}{bl:eN}{o1 o2:Obj}(h1:BR P m1 bl o1)(h2:BR P m2 bl o2):BR P (m1.meet m2) bl o2:=by
 cases bl with|dead=>trivial|cells l=>obtain⟨c,e,fr,g1,⟨g2,g3⟩,_⟩:=h1;obtain⟨c',e',fr',k1,⟨k2,k3⟩,k4⟩:=h2;refine⟨c',e',fr',k1,⟨λi v hi=>?_,k3⟩,k4⟩;obtain⟨a1,cv,a2,a3⟩:=g2 i v hi;obtain⟨b1,cv',b2,b3⟩:=k2 i v hi;exact⟨b1,cv',b2,VR.meet v _ _ a3 b3⟩|bytes len n=>exact h2|view l=>obtain⟨c,e,fr,g1,g2⟩:=h1;obtain⟨c',e',fr',k1,k2⟩:=h2;refine⟨c',e',fr',k1,λi v hi ho=>?_⟩;obtain⟨⟨cv,a2,a3⟩,a4⟩:=g2 i v hi ho;obtain⟨⟨cv',b2,b3⟩,b4⟩:=k2 i v hi ho;exact⟨⟨cv',b2,VR.meet v _ _ a3 b3⟩,b4⟩|map es=>
  obtain⟨ents,clock,es1,g1,g4,g5,g6,g2,g3⟩:=h1;obtain⟨ents',clock',es2,k1,k4,k5,k6,k2,k3⟩:=h2;have key:∀(q:V×V->V)(c1 c2:List Value),cA m1 (es1.map q) c1->cA m2 (es2.map q) c2->cA (m1.meet m2) (es2.map q) c2:=λq c1 c2 v1 v2=>by refine cA.qh v2.length λi v c hi hc=>?_;rw[Yq]at hi;obtain⟨p,hp,rfl⟩:=Yj.1 hi;have hm:q p∈es1.map q:=List.mem_map.2 ⟨p,(g4.trans k4.symm).mem_iff.2 (List.mem_of_getElem? hp),rfl⟩;obtain⟨c',_,hc'⟩:=v1.mem hm;obtain⟨c2',e1,e2⟩:=v2.get (i:=i) (v:=q p) (by rw[Yq,hp];rfl);rw[hc]at e1;cases e1;exact VR.meet _ _ _ hc' e2
  exact⟨ents',clock',es2,k1,k4,k5,k6,key _ _ _ g2 k2,key _ _ _ g3 k3⟩|mark=>exact h2|loop st jump e ps asL bo=>
  obtain⟨r,nt,fid,g1,g2,g3,g4,g5,g6,g7⟩:=h1;obtain⟨r',nt',fid',k1,k2,k3,k4,k5,k6,k7⟩:=h2;refine⟨r',nt',fid',k1,k2,k3,⟨k4.size,k4.le,λt v hv=>?_,k4.rest⟩,k5,k6,k7⟩;have h2:=k4.get t v hv;have hlt:t<nt':=by rw[<-k4.size];exact(YO.1 hv).1
  by_cases htn:t<nt
  .have hlt2:t<r.tmps.size:=by rw[g4.size];exact htn
   have hex:r.tmps[t]?=some r.tmps[t]:=Yf hlt2;exact VR.meet _ _ _ (g4.get t _ hex) h2
  .have:=k4.le;rw[g4.rest t (by omega) (by omega)]at h2⊢;simp only[VR]at h2⊢;obtain⟨cs,h5,h6⟩:=h2;exact⟨cs,h5,by simpa only[cA]using h6⟩
section
variable{P:Program}{base:Nat}{w0 w w':World}{rho rho':Nat->Option Nat}{H H1 H':Heap}
structure Part(H1 H:Heap):Prop where
 n:H1.n<=H.n
 get:∀b,b<H1.n->H.get b=H1.get b
 out:∀b,H1.n<=b->H1.get b=.dead
theorem Part.trans{H1 H2 H3:Heap}(h:Part H1 H2)(k:Part H2 H3):Part H1 H3:=⟨Yr h.n k.n,λb hb=>(k.get b (YE hb h.n)).trans (h.get b hb),h.out⟩
def cutAt(n:Nat)(rho:Nat->Option Nat):Nat->Option Nat:=λb=>if b<n then rho b else none
theorem dR{n b c}(h:cutAt n rho b=some c):b<n/\rho b=some c:=by unfold cutAt at h;simp_all
theorem tj{n b}(h:b<n):cutAt n rho b=rho b:=if_pos h
def Kn(P:Program)(H:Heap)(b:Nat):Prop:=∃m o,BR P m (H.get b) o/\∀b' c',m.b b' c'->b'<H.n
theorem PR.kn(h:PR P base w0 rho H w){b c:Nat}(hr:rho b=some c):Kn P H b:=by obtain⟨o,h1,h2⟩:=h.cQ b c hr;exact⟨_,o,h2,λb' c' hm=>hm.1⟩
theorem Kn.part{b:Nat}(h:Kn P H1 b)(hp:Part H1 H)(hb:b<H1.n):Kn P H b:=by obtain⟨m,o,h1,h2⟩:=h;exact⟨m,o,by rw[hp.get b hb];exact h1,λb' c' hm=>YE (h2 b' c' hm) hp.n⟩
theorem He{m1:M}(hm:∀b c,m1.b b c->b<H1.n)(hp:Part H1 H):(m1.meet (mu rho H w)).le (mu (cutAt H1.n rho) H1 w):=⟨λb c⟨⟨c',h1⟩,h2⟩=>⟨hm _ _ h1,λha=>by rw[tj (hm _ _ h1)];exact h2.2 (by rw[hp.get b (hm _ _ h1)];omega)⟩,λ_ _ h=>h⟩
theorem PR.part(h:PR P base w0 rho H w)(hp:Part H1 H)(hw:H1.bD<=H1.n)(hk:∀b c,rho b=some c->b<H1.n->Kn P H1 b):PR P base w0 (cutAt H1.n rho) H1 w where
 below:=h.below;de:=h.de;wn:=hw;j8 b c hr:=by obtain⟨h1,h2⟩:=dR hr;obtain⟨_,h4,h5,h6⟩:=h.j8 b c h2;exact⟨h1,h4,h5,by rw[<-hp.get b h1];exact h6⟩
 inj b b' c h1 h2:=h.inj b b' c (dR h1).2 (dR h2).2;cQ b c hr:=by obtain⟨h1,h2⟩:=dR hr;obtain⟨o,h3,h4⟩:=h.cQ b c h2;obtain⟨m,o',h5,h6⟩:=hk b c h2 h1;rw[hp.get b h1]at h4;exact⟨o,h3,(BR.meet h5 h4).mono (He h6 hp)⟩
 out b hb:=hp.out b hb;gl:=⟨h.gl.1,h.gl.2.1,λb c hr=>h.gl.2.2 b c (dR hr).2⟩
theorem PR.grow(h:PR P base w0 rho H w)(hp:Part H H')(hw:H'.bD<=H'.n)(ho:∀b,H'.n<=b->H'.get b=.dead):PR P base w0 rho H' w/\(mu rho H w).le (mu rho H' w):=by
 have hm:(mu rho H w).le (mu rho H' w):=⟨λb c⟨h1,h2⟩=>⟨YE h1 hp.n,λha=>h2 (by rw[<-hp.get b h1];exact ha)⟩,λ_ _ h=>h⟩;refine⟨⟨h.below,h.de,hw,λb c hr=>?_,h.inj,λb c hr=>?_,ho,h.gl⟩,hm⟩;.obtain⟨h1,h2,h3,h4⟩:=h.j8 b c hr;exact⟨YE h1 hp.n,h2,h3,by rw[hp.get b h1];exact h4⟩
 .obtain⟨h1,_⟩:=h.j8 b c hr;obtain⟨o,h3,h4⟩:=h.cQ b c hr;exact⟨o,h3,by rw[hp.get b h1];exact h4.mono hm⟩
theorem PR.merge{Hi Hi' H1':Heap}(h:PR P base w0 rho H w)(hi:Part Hi H)(hi':Part Hi' H)(hii:Hi.n<=Hi'.n)(hno:∀b c,rho b=some c->b<Hi.n\/Hi'.n<=b)(h1n:H1.n=Hi.n)(run:PR P base w0 rho' H1' w')(x:Ext (cutAt Hi.n rho) H1 w rho' H1' w')(hlo:Hi.n<=H1'.bD)(hn':Hi'.n=H1'.n)(hg':∀b,Hi'.get b=H1'.get b){rho'':Nat->Option Nat}(hr'':rho''=λb=>if b<Hi'.n then rho' b else rho b):PR P base w0 rho'' H w'/\(mu rho H w).le (mu rho'' H w')/\(mu rho' H1' w').le (mu rho'' H w')/\(∀b,b<Hi.n->rho'' b=rho b)/\(∀b c,rho'' b=some c->rho b=some c\/(Hi.n<=b/\b<Hi'.n/\w.heap.size<=c/\rho' b=some c))/\∀c,c<w.heap.size->w'.heap[c]?=w.heap[c]?:=by
 subst hr'';have k1:∀b,b<Hi.n->rho' b=rho b:=λb hb=>by rw[(x.bU b (by omega) (by omega)).2,tj hb]
 have k2:∀b c,Hi.n<=b->rho' b=some c->w.heap.size<=c:=λb c hb hr=>by
  rcases x.new b c (by omega) hr with h'|⟨b0,h1,h2⟩;.exact h'
  .have:=(dR h1).1;omega
 have k3:∀c,c<w.heap.size->w'.heap[c]?=w.heap[c]?:=λc hc=>x.fr c hc λb hb=>YE (dR hb).1 hlo;have m1:(mu rho H w).le (mu (λb=>if b<Hi'.n then rho' b else rho b) H w'):=by
  refine⟨λb c⟨h1,h2⟩=>⟨h1,λha=>?_⟩,x.mu.2⟩;have h3:=h2 ha;show(if b<Hi'.n then rho' b else rho b)=some c;rcases hno b c h3 with h4|h4;.rw[if_pos (by omega),k1 b h4];exact h3
  .rw[if_neg (by omega)];exact h3
 have m2:(mu rho' H1' w').le (mu (λb=>if b<Hi'.n then rho' b else rho b) H w'):=by
  refine⟨λb c⟨h1,h2⟩=>⟨?_,λha=>?_⟩,λ_ _ h=>h⟩;.have:=hi'.n;omega
  .have hb:b<Hi'.n:=by omega
   show(if b<Hi'.n then rho' b else rho b)=some c;rw[if_pos hb];exact h2 (by rw[<-hg' b,<-hi'.get b hb];exact ha)
 refine⟨⟨run.below,run.de,h.wn,λb c hr=>?_,λb b' c hr hr'=>?_,λb c hr=>?_,h.out,run.gl.1,run.gl.2.1,λb c hr=>(show(if b<Hi'.n then rho' b else rho b)=some c->¬GB c fromλhr=>by
  split at hr;.exact run.gl.2.2 b c hr
  .exact h.gl.2.2 b c hr) hr⟩,m1,m2,λb hb=>?_,λb c hr=>?_,k3⟩
 .split at hr;.rename_i hb;obtain⟨h1,h2,h3,h4⟩:=run.j8 b c hr;exact⟨YE hb hi'.n,h2,h3,by rw[hi'.get b hb,hg' b];exact h4⟩
  .obtain⟨h1,h2,h3,h4⟩:=h.j8 b c hr;exact⟨h1,h2,YE h3 x.size,h4⟩
 .have cross:∀b b' c,b<Hi'.n->¬b'<Hi'.n->rho' b=some c->rho b'=some c->False:=λb b' c g1 g2 g3 g4=>by
   have hd:=h.j8 b' c g4;by_cases hb:b<Hi.n;.rw[k1 b hb]at g3;have:=h.inj b b' c g3 g4;omega
   .have:=k2 b c (by omega) g3;omega
  split at hr<;>split at hr';.exact run.inj b b' c hr hr'
  .exact(cross b b' c ‹_› ‹_› hr hr').elim
  .exact(cross b' b c ‹_› ‹_› hr' hr).elim
  .exact h.inj b b' c hr hr'
 .split at hr;.rename_i hb;obtain⟨o,h1,h2⟩:=run.cQ b c hr;exact⟨o,h1,by rw[hi'.get b hb,hg' b];exact h2.mono m2⟩
  .obtain⟨o,h1,h2⟩:=h.cQ b c hr;exact⟨o,(k3 c (h.j8 b c hr).2.2.1).trans h1,h2.mono m1⟩
 .show(if b<Hi'.n then rho' b else rho b)=rho b;rw[if_pos (by omega),k1 b hb]
 .replace hr:(if b<Hi'.n then rho' b else rho b)=some c:=hr;split at hr
  .rename_i hb;by_cases hb1:b<Hi.n;.exact YF ((k1 b hb1).symm.trans hr)
   .exact YD ⟨by omega,hb,k2 b c (by omega) hr,hr⟩
  .exact YF hr
theorem Ext.after{H0:Heap}{rho0 rho'':Nat->Option Nat}{w00:World}{m:Nat}(h:Ext rho0 H0 w00 rho H w)(hd0:∀b c,rho0 b=some c->b<H0.n)(hc0:∀b c,rho0 b=some c->c<w00.heap.size)(ho:∀b,H0.n<=b->H0.get b=.dead)(hm:H0.n<=m)(h1:∀b,b<m->rho'' b=rho b)(h2:∀b c,rho'' b=some c->rho b=some c\/w.heap.size<=c)(h3:∀c,c<w.heap.size->w'.heap[c]?=w.heap[c]?)(hs:w.heap.size<=w'.heap.size):Ext rho0 H0 w00 rho'' H w' where
 n:=h.n;bD:=h.bD;size:=Yr h.size hs;bU b hb hw:=⟨(h.bU b hb hw).1,(h1 b (by omega)).trans (h.bU b hb hw).2⟩;old b c hb hr:=h.old b c hb (by rw[<-h1 b (by omega)];exact hr);live b c hr ha:=by have hl:=h.live b c hr ha;rw[h1 b (YE (hd0 b c hr) hm)];exact hl
 rC:=h.rC;new b c hb hr:=by
  rcases h2 b c hr with h'|h';.exact h.new b c hb h'
  .exact YF (Yr h.size h')
 fr c hc hb:=(h3 c (YE hc h.size)).trans (h.fr c hc hb);marks b hb:=by
  have hbn:b<m:=by
   rcases Yh b H0.n with h'|h';.omega
   .rw[ho b h']at hb;cases hb
  exact⟨(h.marks b hb).1,(h1 b hbn).trans (h.marks b hb).2.1,λc hc=>(h3 c (YE (hc0 b c hc) h.size)).trans ((h.marks b hb).2.2 c hc)⟩
 rows c cs e fr hc:=by obtain⟨cs',e',fr',g1,g2⟩:=h.rows c cs e fr hc;exact⟨cs',e',fr',(h3 c (YO.1 g1).1).trans g1,g2⟩
 loops c r hc:=by obtain⟨r',g1⟩:=h.loops c r hc;exact⟨r',(h3 c (YO.1 g1).1).trans g1⟩
end
end Go.Ev
end
section
namespace Go.Ev
open Go.RowKit
theorem vj{rd}{P}{o:Oper}{a}{w}{K}(h:o.wpIn (WF rd) 0 P a w K (λ_ _ _=>False)):∃a' w',K a' w':=by
 have h:=h.2;have hroom:∀k,(WF rd).room k:=λk=>by simp[Fence.room]
 generalize(o.semAt (WF rd).round a.eval).run P w=r at*;cases r with
 |ok x w'=>
  cases x<;>simp only[Oper.uponIn]at h;case value v=>exact⟨_,_,h⟩
  case skip=>exact⟨_,_,h⟩
  case defer d=>exact⟨_,_,h⟩
  case enter f args=>obtain⟨e,w'',fr,he,_⟩:=h.2.2 [] (hroom _);cases e with|returned u=>exact⟨_,_,he⟩|panicked c=>simp_all|outgrown=>obtain⟨_,_,h⟩:=he;simp_all
  case row row args=>obtain⟨v,w'',he,_⟩:=h.2 default [] (hroom _);exact⟨_,_,he⟩
  case round l f tmps assign body=>obtain⟨e,w'',he,_⟩:=h.2.2 default [] (hroom _);cases e with|returned u=>exact⟨_,_,he⟩|panicked c=>simp_all|outgrown=>obtain⟨_,_,h⟩:=he;simp_all
 |halt x w'=>cases x<;>simp only[Oper.uponIn]at h
theorem M.le_trans{m1 m2 m3:M}(h:m1.le m2)(k:m2.le m3):m1.le m3:=⟨λb c x=>k.1 _ _ (h.1 _ _ x),λc z x=>k.2 _ _ (h.2 _ _ x)⟩
theorem pO{nt}{x}{d}(h:tp nt x=some d):d=x.map bj/\∀t,x=some t->t<nt:=by
 unfold tp at h;split at h;.simp_all
 simp_all
theorem TR.congr{m:M}{nt:Nat}{e e':Env}{tmps:Array Value}(h:TR m nt e tmps)(he:∀s,af s e'=af s e):TR m nt e' tmps:=⟨h.size,h.le,λt v hv=>by rw[he];exact h.get t v hv,λt h1 h2=>by rw[he];exact h.rest t h1 h2⟩
theorem af0{m}{nt}{e e'}{a}{o:Oper}{ops}(h:TR m nt e a.tmps)(he:∀t,t∈o.looksAt ops->t<nt->af (bj t) e=af (bj t) e'):OR m nt e' a o:=λx hx ar har=>by
 have h1:=lf h har;have h2:aA ar e=aA ar e':=by
  unfold aN at har;split at har
  .rename_i t;split at har;.rename_i hlt;cases har;exact he t (WS _ (List.mem_filterMap.2 ⟨.tmp t,by simp_all,rfl⟩)) hlt
   simp_all
  .simp only[Yj]at har;obtain⟨u,_,rfl⟩:=har;rfl
  .cases har;rfl
  simp_all
 simp_all
theorem afc{m}{nt}{e e'}{tmps}{o:Oper}{ops}(h:TR m nt e tmps)(he:∀t,t∈o.looksAt ops->t<nt->af (bj t) e=af (bj t) e'):GT nt m e' ops o tmps:=λj b o' d h1 h2 h3 hlt=>by
 obtain⟨v,h4,h5⟩:=h.gt ops o j b o' d h1 h2 h3 hlt;refine⟨v,h4,?_⟩;rw[<-he d ?_ hlt];.omega
 .unfold Oper.looksAt;simp_all
theorem acy(x):∀(k)(t:HT),∃t':HT,t'.get k=x/\∀j,j≠k->t'.get j=t.get j:=by intro k;induction k using YD3 with|_ k ih=>intro t;cases k with
  |zero=>cases t with|e=>exact⟨.n x .e .e,rfl,λj hj=>by cases j with|zero=>omega|succ j=>rw[HT.db,HT.vO,HT.vO];simp⟩|n u l r=>exact⟨.n x l r,rfl,λj hj=>by cases j with|zero=>omega|succ j=>rfl⟩
  |succ k=>
   have go:∀(u)(l r),(∀j,t.get j=HT.get (.n u l r) j)->∃t':HT,t'.get (k+1)=x/\∀j,j≠k+1->t'.get j=t.get j:=λu l r ht=>by
    by_cases hk:k%2=0;.obtain⟨l',h1,h2⟩:=ih (k/2) (by omega) l;refine⟨.n u l' r,by rw[HT.db,if_pos hk];omega,λj hj=>?_⟩;rw[ht];cases j with|zero=>rfl|succ j=>
      rw[HT.db,HT.db];split;.exact h2 _ (by omega)
      rfl
    .obtain⟨r',h1,h2⟩:=ih (k/2) (by omega) r;refine⟨.n u l r',by rw[HT.db,if_neg hk];omega,λj hj=>?_⟩;rw[ht];cases j with|zero=>rfl|succ j=>
      rw[HT.db,HT.db];split;.rfl
      .exact h2 _ (by omega)
   have he:∀j,HT.get .e j=HT.get (.n .dead .e .e) j:=λj=>by cases j with|zero=>rfl|succ j=>rw[HT.db,HT.vO,HT.vO];simp
   cases t with|e=>simp_all|n u l r=>simp_all
theorem abc(f:Nat->eN):∀N,∃t:HT,∀b,t.get b=if b<N then f b else .dead
 |0=>⟨.e,λb=>by rfl⟩|N+1=>by
  obtain⟨t,h⟩:=abc f N;obtain⟨t',h1,h2⟩:=acy (f N) N t;refine⟨t',λb=>?_⟩;by_cases hb:b=N;.simp_all
  .rw[h2 b hb,h b];by_cases hl:b<N;.rw[if_pos hl,if_pos (by omega)]
   .rw[if_neg hl,if_neg (by omega)]
theorem Df(f:Nat->eN)(N bD):∃H:Heap,H.n=N/\H.bD=bD/\(∀b,b<N->H.get b=f b)/\∀b,N<=b->H.get b=.dead:=by obtain⟨t,h⟩:=abc f N;exact⟨.mk N bD t,rfl,rfl,λb hb=>(h b).trans (if_pos hb),λb hb=>(h b).trans (if_neg (by omega))⟩
theorem Ext.re{r0 rho rho':Nat->Option Nat}{H0 H H':Heap}{w00 w w':World}(h:Ext r0 H0 w00 rho H w)(hd0:∀b c,r0 b=some c->b<H0.n)(hc0:∀b c,r0 b=some c->c<w00.heap.size)(ho:∀b,H0.n<=b->H0.get b=.dead)(hn:H0.n<=H'.n)(hw:H'.bD=H.bD)(hg:∀b,b<H0.n->H'.get b=H.get b)(hr:∀b,b<H0.n->rho' b=rho b)(hnew:∀b c,H0.n<=b->rho' b=some c->rho b=some c\/w00.heap.size<=c)(hf:∀c,c<w00.heap.size->w'.heap[c]?=w.heap[c]?)(hs:w00.heap.size<=w'.heap.size):Ext r0 H0 w00 rho' H' w' where
 n:=hn;bD:=by rw[hw];exact h.bD
 size:=hs;bU b hb hlo:=⟨(hg b hb).trans (h.bU b hb (by omega)).1,(hr b hb).trans (h.bU b hb (by omega)).2⟩;old b c hb hx:=h.old b c hb (by rw[<-hr b hb];exact hx);live b c hx ha:=by have hb:=hd0 b c hx;rw[hr b hb];exact h.live b c hx (by rw[<-hg b hb];exact ha)
 rC b hb ha:=h.rC b hb (by rw[<-hg b hb];exact ha);new b c hb hx:=by
  rcases hnew b c hb hx with h'|h'
  .rcases h.new b c hb h' with h1|⟨b0,h1,h2⟩;.exact YF h1
   .exact YD ⟨b0,h1,by omega⟩
  .exact YF h'
 fr c hc hx:=(hf c hc).trans (h.fr c hc λb hb=>by have:=hx b hb;omega);marks b hb:=by
  have hlt:b<H0.n:=by
   rcases Yh b H0.n with h'|h';.exact h'
   .rw[ho b h']at hb;cases hb
  obtain⟨h1,h2,h3⟩:=h.marks b hb;exact⟨(hg b hlt).trans h1,(hr b hlt).trans h2,λc hc=>(hf c (hc0 b c hc)).trans (h3 c hc)⟩
 rows c cs e fr hc:=by obtain⟨cs',e',fr',h1,h2⟩:=h.rows c cs e fr hc;exact⟨cs',e',fr',(hf c (YO.1 hc).1).trans h1,h2⟩
 loops c r hc:=by obtain⟨r',h1⟩:=h.loops c r hc;exact⟨r',(hf c (YO.1 hc).1).trans h1⟩
section
variable{P:Program}{nt:Nat}{ops:Array Oper}{iso pur:Nat->Bool}{E:Nat->Env}{Hh:Nat->Heap}{Vv:Nat->V}{B:Nat->Option Nat}
def jU(iso pur:Nat->Bool)(i:Nat):Prop:=iso i=true/\pur i=false
structure Ln(n:Nat)(iso pur:Nat->Bool)(Hh:Nat->Heap):Prop where
 wn:∀i,i<=n->(Hh i).bD<=(Hh i).n
 out:∀i,i<=n->∀b,(Hh i).n<=b->(Hh i).get b=.dead
 le:∀i,i<n->(Hh i).n<=(Hh (i+1)).n/\(Hh (i+1)).bD<=(Hh i).bD
 ri:∀i,i<n->¬jU iso pur i->Part (Hh i) (Hh (i+1))/\(Hh (i+1)).bD=(Hh i).bD
theorem VF(hst:∀j o,ops[j]?=some o->iB P nt ops (iso j) (pur j) (B j) o (E j) (Hh j) (Vv j) (E (j+1)) (Hh (j+1))){base}{w0}{rho}{w}{a:Act}(hp:PR P base w0 rho (Hh 0) w)(ht:TR (mu rho (Hh 0) w) nt (E 0) a.tmps):∀i,i<=ops.size->(∃(rho':Nat->Option Nat)(w':World)(a':Act),PR P base w0 rho' (Hh i) w'/\TR (mu rho' (Hh i) w') nt (E i) a'.tmps)/\∀j,j<i->(Hh j).n<=(Hh (j+1)).n/\(Hh (j+1)).bD<=(Hh j).bD/\(¬jU iso pur j->Part (Hh j) (Hh (j+1))/\(Hh (j+1)).bD=(Hh j).bD):=by intro i;induction i with|zero=>exactλ_=>⟨⟨rho,w,a,hp,ht⟩,λj hj=>by omega⟩|succ i ih=>
  intro hi;obtain⟨⟨rho1,w1,a1,p1,t1⟩,h1⟩:=ih (by omega);have hlt:i<ops.size:=by omega
  have ho:=Yf hlt;obtain⟨d,hd,he,hs⟩:=hst i _ ho;have key:(∃(rho':Nat->Option Nat)(w':World)(a':Act),PR P base w0 rho' (Hh (i+1)) w'/\TR (mu rho' (Hh (i+1)) w') nt (E (i+1)) a'.tmps)/\(Hh i).n<=(Hh (i+1)).n/\(Hh (i+1)).bD<=(Hh i).bD/\(¬jU iso pur i->Part (Hh i) (Hh (i+1))/\(Hh (i+1)).bD=(Hh i).bD):=by
   have hself:Part (Hh i) (Hh i):=⟨YC _,λ_ _=>rfl,p1.out⟩;rcases hs with⟨_,hv,hH⟩|⟨_,_,hH,hop⟩|⟨_,hpu,his,hop⟩|⟨_,_,_,H1,H1',g1,g2,g3,hop,g4,g5,g6,g7⟩;.rw[hH,he,hv];exact⟨⟨rho1,w1,a1.put (ops[i]).dst undef,p1,sf t1 hd qz⟩,YC _,YC _,λ_=>⟨hself,rfl⟩⟩
   .obtain⟨a2,w2,cv,rfl,rho2,v2,p2,x2⟩:=vj (hop (Hh i) (λ_ _=>rfl) none base w0 rho1 w1 a1 p1 (t1.or _));rw[hH,he];exact⟨⟨rho2,w2,_,p2,sf (t1.mono x2.mu) hd v2⟩,YC _,YC _,λ_=>⟨hself,rfl⟩⟩
   .obtain⟨a2,w2,cv,rfl,rho2,v2,p2,x2⟩:=vj (hop none base w0 rho1 w1 a1 p1 (t1.or _));rw[he];exact⟨⟨rho2,w2,_,p2,sf (t1.mono x2.mu) hd v2⟩,x2.n,x2.bD,λhn=>absurd ⟨his,hpu⟩ hn⟩
   .have p1':=p1.KL g1 g2 (by omega);have m1:(mu rho1 (Hh i) w1).le (mu rho1 H1 w1):=⟨λb c⟨h1,h2⟩=>⟨by omega,λha=>h2 (by simp_all)⟩,λ_ _ h=>h⟩;obtain⟨a2,w2,cv,rfl,rho2,v2,p2,x2⟩:=vj (hop none base w0 rho1 w1 a1 p1' ((t1.mono m1).or _));have hn:(Hh i).n<=(Hh (i+1)).n:=by have:=x2.n;omega
    have p3:=p2.KL g5 g6 (by have:=p1.wn;omega);have m3:(mu rho2 H1' w2).le (mu rho2 (Hh (i+1)) w2):=⟨λb c⟨h1,h2⟩=>⟨by omega,λha=>h2 (by simp_all)⟩,λ_ _ h=>h⟩;rw[he];refine⟨⟨rho2,w2,_,p3,sf ((t1.mono m1).mono (M.le_trans x2.mu m3)) hd (VR.mono m3 _ _ v2)⟩,hn,by omega,λ_=>⟨⟨hn,λb hb=>?_,p1.out⟩,g7⟩⟩;rw[g6,(x2.bU b (by omega) (by omega)).1,g2]
  refine⟨key.1,λj hj=>?_⟩;by_cases hji:j=i;.simp_all
  .exact h1 j (by omega)
theorem Xv{n}(h:Ln n iso pur Hh):∀T,T<=n->∀k,k<=T->(∀j,k<=j->j<T->¬jU iso pur j)->Part (Hh k) (Hh T)/\(Hh T).bD=(Hh k).bD:=by
 intro T;induction T with|zero=>
  intro hT k hk _;have:k=0:=by omega
  subst this;exact⟨⟨YC _,λ_ _=>rfl,h.out 0 hT⟩,rfl⟩|succ T ih=>
  intro hT k hk hj;by_cases hkT:k=T+1;.subst hkT;exact⟨⟨YC _,λ_ _=>rfl,h.out _ hT⟩,rfl⟩
  .obtain⟨h1,h2⟩:=ih (by omega) k (by omega) λj h1 h2=>hj j h1 (by omega);obtain⟨h3,h4⟩:=h.ri T (by omega) (hj T (by omega) (by omega));exact⟨h1.trans h3,h4.trans h2⟩
theorem dx{n}(h:Ln n iso pur Hh):∀T,T<=n->∀k,k<=T->(Hh k).n<=(Hh T).n/\(Hh T).bD<=(Hh k).bD:=by intro T;induction T with|zero=>simp|succ T ih=>
  intro hT k hk;by_cases hkT:k=T+1;.simp_all
  .obtain⟨h1,h2⟩:=ih (by omega) k (by omega);obtain⟨h3,h4⟩:=h.le T (by omega);omega
theorem BW(iso pur)(n):∀m T,n-T=m->T<=n->∃T',T<=T'/\T'<=n/\(T'<n->jU iso pur T')/\∀j,T<=j->j<T'->¬jU iso pur j:=by intro m;induction m with|zero=>intro T h1 h2;exact⟨T,YC _,h2,λh=>by omega,λj h3 h4=>by omega⟩|succ m ih=>
  intro T h1 h2;by_cases hh:jU iso pur T;.exact⟨T,YC _,h2,λ_=>hh,λj h3 h4=>by omega⟩
  .obtain⟨T',h3,h4,h5,h6⟩:=ih (T+1) (by omega) (by omega);exact⟨T',by omega,h4,h5,λj h7 h8=>by
    by_cases hj:j=T;.simp_all
    .exact h6 j (by omega) h8⟩
def L5(ops:Array Oper)(k:Nat):Option Slot:=(ops[k]?.bind (·.dst)).map bj
structure Mid(P:Program)(nt:Nat)(ops:Array Oper)(iso pur al:Nat->Bool)(E:Nat->Env)(Hh:Nat->Heap)(Vv:Nat->V)(base:Nat)(w0:World)(rho0:Nat->Option Nat)(w00:World)(ds:List Deferred)(listed:Array Bool)(a:Act)(w:World)(T:Nat)(rho:Nat->Option Nat)(Hx:Heap):Prop where
 size:listed.size=ops.size
 closed:ua ops listed
 le:T<=ops.size
 Uc:T<ops.size->jU iso pur T
 not:¬dV listed T
 NA:∀i,i<T->jU iso pur i->dV listed i
 xn:Hx.n=(Hh ops.size).n
 xw:Hx.bD=(Hh T).bD
 xlo:∀b,b<(Hh T).n->Hx.get b=(Hh T).get b
 xhi:∀b,(Hh T).n<=b->b<Hx.n->(Hx.get b).alive
 pr:PR P base w0 rho Hx w
 ext:Ext rho0 (Hh 0) w00 rho Hx w
 tr:TR (mu rho Hx w) nt (j9 (L5 ops) Vv (E 0) (λk=>listed.getD k false) ops.size) a.tmps
 defers:a.defers=ds
 bound:∀b c,rho b=some c->∀k,k<T->¬dV listed k->¬((Hh k).n<=b/\b<(Hh (k+1)).n)kn:∀b c,rho b=some c->∀k,k<=T->(∀j,k<=j->j<T->¬jU iso pur j)->b<(Hh k).n->Kn P (Hh k) b
 KC:∀b c,rho b=some c->(Hh T).n<=b->w00.heap.size<=c/\∃i,T<=i/\i<ops.size/\dV listed i/\al i=true/\b=(Hh i).n/\∃(bl:eN)(ob:Obj),py (Hh i) bl (Hh (i+1))/\bl.alive/\(∀m,BR P m bl ob)/\Hx.get b=bl
section walk
variable{al:Nat->Bool}{base:Nat}{w0:World}{rho0:Nat->Option Nat}{w00:World}{ds:List Deferred}{rd:Option Nat}{Q:Exit->Act->World->Prop}(hst:∀j o,ops[j]?=some o->iB P nt ops (iso j) (pur j) (B j) o (E j) (Hh j) (Vv j) (E (j+1)) (Hh (j+1)))(hE:Ex ops)(hap:kA ops (Region.before ops)=true)(hiso:∀i j,jU iso pur i->i≠j->pur j=false->j<ops.size->((Region.before ops).getD i 0).testBit j=true\/((Region.before ops).getD j 0).testBit i=true\/al j=true)(hhal:∀i,jU iso pur i->al i=false)(hal:∀i o,ops[i]?=some o->al i=true->(GW nt (E i) ops o false/\Vv i=.cG []/\Hh (i+1)=Hh i)\/(rJ P nt (E i) o (Hh i) (Vv i) (Hh (i+1))/\∀k,k<ops.size->jU iso pur k->i<k->kg (Region.before ops) i k=false->(Hh i).n<(Hh k).n->(Hh (k+1)).get (Hh i).n=(Hh k).get (Hh i).n))(hhp:Ln ops.size iso pur Hh)(hnt:nt<=512)(hd0:∀b c,rho0 b=some c->b<(Hh 0).n)(hc0:∀b c,rho0 b=some c->c<w00.heap.size)(hB:∀i b,i<ops.size->B i=some b->b<(Hh 0).n)(hkp:∀i k b,i<ops.size->k<ops.size->B i=some b->jU iso pur k->kg (Region.before ops) i k=false->b<(Hh k).n->(Hh (k+1)).get b=(Hh k).get b)(hke:∀i,i<ops.size->∀t,t<nt->∃m c,VR m (af (bj t) (E i)) c/\∀b c',m.b b c'->b<(Hh i).n)(hQ:∀a' w' rho',a'.defers=ds->PR P base w0 rho' (Hh ops.size) w'->TR (mu rho' (Hh ops.size) w') nt (E ops.size) a'.tmps->Ext rho0 (Hh 0) w00 rho' (Hh ops.size) w'->Q .normal a' w')
include hst in theorem TM:∀k,k<ops.size->E (k+1)=dH (L5 ops k) (Vv k) (E k):=λk hk=>by have ho:=Yf hk;obtain⟨d,hd,he,_⟩:=hst k _ ho;rw[he,(pO hd).1];simp[L5,ho]
include hst hnt in theorem XL{k t}(hk:k<ops.size)(ht:t<nt)(h:L5 ops k=some (bj t)):∃o,ops[k]?=some o/\o.dst=some t:=by have ho:=Yf hk;obtain⟨d,hd,he,_⟩:=hst k _ ho;obtain⟨h1,h2⟩:=pO hd;refine⟨_,ho,?_⟩;unfold L5 at h;rw[ho,YF4,Yj]at h;obtain⟨t',h3,h4⟩:=h;have:=h2 t' h3;rw[h3,fY (YE this hnt) (YE ht hnt) h4]
include hst hE hap hnt in theorem view{listed}{i}{o}(hC:ua ops listed)(ho:ops[i]?=some o)(hi:¬dV listed i)(hr:∀e∈o.after.toList,Region.binds .any e=true->dV listed e.on){t:Nat}(ht:t∈xd ops o)(hlt:t<nt):af (bj t) (j9 (L5 ops) Vv (E 0) (λk=>listed.getD k false) ops.size)=af (bj t) (E i):=by
 have hin:=(YO.1 ho).1;refine Mf (Nat.le_of_lt hin) (TM hst) λk hk hd=>?_;obtain⟨ok,hok,hdk⟩:=XL hst hnt hk hlt hd;by_cases hki:k=i;.subst hki;exact⟨λh=>absurd h hi,λh=>by omega⟩
 .have h1:=EH hap hok ho hki hdk ht;split at h1;.rename_i h2;exact⟨λ_=>h2,λ_=>eB hE hC i k (YD λo' ho'=>by simp_all) h1⟩
  .rename_i h2;exact⟨λhs=>absurd (eB hE hC k i (YF hs) h1) hi,λh=>absurd h h2⟩
include hst hE hap hnt in theorem VG{listed}{i}{o}(hsz:listed.size=ops.size)(hC:ua ops listed)(ho:ops[i]?=some o)(hi:¬dV listed i){m}{a:Act}{cv}(ht:TR m nt (j9 (L5 ops) Vv (E 0) (λk=>listed.getD k false) ops.size) a.tmps)(hv:VR m (Vv i) cv):TR m nt (j9 (L5 ops) Vv (E 0) (λk=>(listed.setIfInBounds i true).getD k false) ops.size) (a.put o.dst cv).tmps:=by
 have hin:=(YO.1 ho).1;obtain⟨d,hd,_⟩:=hst i _ ho;have hdo:L5 ops i=d:=by rw[(pO hd).1];simp[L5,ho]
 refine(sf ht hd hv).congr λs=>?_;rw[<-hdo];refine TV hin (by simpa[dV]using hi) (λk=>dv (by omega)) (λk hk hik hs s' h1 h2=>?_) s;unfold L5 at h1 h2;have hok:=Yf hk;rw[hok,YF4,Yj]at h1;rw[ho,YF4,Yj]at h2;obtain⟨tk,h3,h4⟩:=h1;obtain⟨ti,h5,h6⟩:=h2;obtain⟨dk,hdk,_⟩:=hst k _ hok;have hti:=(pO hd).2 ti h5;have htk:=(pO hdk).2 tk h3;have:=fY (YE hti hnt) (YE htk hnt) (h6.trans h4.symm);have h7:=EH hap ho hok (by omega) h5 (show ti∈xd ops ops[k]from WS _ (by simp_all));rw[if_pos hik]at h7;exact hi (eB hE hC k i (YF hs) h7)
theorem Jt{listed}{i}{o}(hi:i<listed.size)(hC:ua ops listed)(ho:ops[i]?=some o)(hr:∀e∈o.after.toList,Region.binds .any e=true->dV listed e.on):ua ops (listed.setIfInBounds i true):=λj hj o' ho' e he hb=>by
 rw[dv hi]at hj⊢;rcases hj with rfl|hj;.simp_all
 .exact YD (hC j hj o' ho' e he hb)
theorem count_set{l:List Bool}{i}(hi:l[i]?=some false):(l.set i true).count false+1=l.count false:=by have hlt:=(YQ.1 hi).1;have hv:=(YQ.1 hi).2;rw[List.count_set hlt,hv];have:0<l.count false:=List.count_pos_iff.2 (by rw[<-hv];simp);simp_all
include hst hE hap hiso hhal hal hhp hnt hd0 hc0 hke hB hkp hQ in theorem walk(h0out:∀b,(Hh 0).n<=b->(Hh 0).get b=.dead):∀(fuel:Nat)(listed:Array Bool)(a:Act)(w:World)(T:Nat)(rho:Nat->Option Nat)(Hx:Heap),Mid P nt ops iso pur al E Hh Vv base w0 rho0 w00 ds listed a w T rho Hx->listed.toList.count false=fuel->wpAnyIn (WF rd) 0 P .any ops Q fuel listed a w:=by
 have hN:∀T,T<=ops.size->(Hh T).n<=(Hh ops.size).n:=λT hT=>(dx hhp ops.size (YC _) T hT).1;have h0N:∀T,T<=ops.size->(Hh 0).n<=(Hh T).n:=λT hT=>(dx hhp T hT 0 (Ya _)).1;have fin:∀(listed:Array Bool)(a:Act)(w:World)(T:Nat)(rho:Nat->Option Nat)(Hx:Heap),Mid P nt ops iso pur al E Hh Vv base w0 rho0 w00 ds listed a w T rho Hx->(∀i,i<ops.size->dV listed i)->Q .normal a w:=λlisted a w T rho Hx hM hall=>by
  have hT:T=ops.size:=by
   rcases Yh T ops.size with h|h;.exact absurd (hall T h) hM.not
   .have:=hM.le;omega
  subst hT;have hg:∀b,(Hh ops.size).get b=Hx.get b:=λb=>by
   rcases Yh b (Hh ops.size).n with h|h;.exact(hM.xlo b h).symm
   .rw[hhp.out _ (YC _) b h,hM.pr.out b (by rw[hM.xn];exact h)]
  have hm:(mu rho Hx w).le (mu rho (Hh ops.size) w):=⟨λb c hx=>⟨by rw[<-hM.xn];exact hx.1,by rw[hg];exact hx.2⟩,λ_ _ h=>h⟩;refine hQ a w rho hM.defers (hM.pr.KL hM.xn.symm hg (hhp.wn _ (YC _))) ((hM.tr.mono hm).congr λs=>?_) (hM.ext.re hd0 hc0 h0out (h0N _ (YC _)) hM.xw.symm (λb _=>hg b) (λ_ _=>rfl) (λb c _ h=>YF h) (λ_ _=>rfl) hM.ext.size);exact(Mf (YC _) (TM hst) λk hk _=>⟨λ_=>hk,λ_=>hall k hk⟩).symm
 have hready:∀(listed:Array Bool),Region.ready .any ops listed=[]->listed.size=ops.size->∀i,i<ops.size->dV listed i:=λlisted hr hsz i=>by induction i using YD3 with|_ i ih=>
   intro hi;by_cases hb:dV listed i;.exact hb
   .have ho:ops[i]?=some ops[i]:=Yf hi;have hmem:i∈Region.ready .any ops listed:=mem_ready.2 ⟨by have hex:listed[i]?=some listed[i]:=Yf (by omega);unfold dV at hb;rw[Yo,hex]at hb⊢;simpa using hb,_,ho,λe he hbd=>ih e.on (hE i _ ho e (by simpa using he) hbd) (by have:=hE i _ ho e (by simpa using he) hbd;omega)⟩;rw[hr]at hmem;cases hmem
 intro fuel;induction fuel with|zero=>
  intro listed a w T rho Hx hM hc;have hall:∀i,i<ops.size->dV listed i:=λi hi=>by
   have hlt:i<listed.size:=by rw[hM.size];exact hi
   have hex:listed[i]?=some listed[i]:=Yf hlt;unfold dV;rw[Yo,hex,YU];cases hv:listed[i]with|true=>rfl|false=>
    have:false∈listed.toList:=by rw[<-hv];simp
    rw[List.count_eq_zero]at hc;exact absurd this hc
  refine⟨?_,fin listed a w T rho Hx hM hall⟩;refine List.eq_nil_iff_forall_not_mem.2 λi hi=>?_;obtain⟨h1,o,ho,_⟩:=mem_ready.1 hi;have hb:=hall i (YO.1 ho).1;have hlt:i<listed.size:=by rw[hM.size];exact(YO.1 ho).1
  have hex:listed[i]?=some listed[i]:=Yf hlt;unfold dV at hb;rw[Yo,hex,YU]at hb h1;rw[hb]at h1;cases h1|succ fuel ih=>
  intro listed a w T rho Hx hM hc;refine⟨λhr=>fin listed a w T rho Hx hM (hready listed hr hM.size),λi hi=>?_⟩;obtain⟨h1,o,ho,hr0⟩:=mem_ready.1 hi;have hin:i<ops.size:=(YO.1 ho).1;have hil:i<listed.size:=by rw[hM.size];exact hin
  have hex:listed[i]?=some listed[i]:=Yf hil;have hv:listed[i]=false:=by rw[Yo,hex,YU]at h1;exact h1
  have hnb:¬dV listed i:=by unfold dV;rw[Yo,hex,YU,hv];simp
  have hr:∀e∈o.after.toList,Region.binds .any e=true->dV listed e.on:=λe he hb=>hr0 e (by simpa using he) hb;have hc':(listed.setIfInBounds i true).toList.count false=fuel:=by have:=count_set (l:=listed.toList) (i:=i) (by simpa[hv]using hex);rw[Array.toList_setIfInBounds];omega
  have hsz':(listed.setIfInBounds i true).size=ops.size:=by simpa using hM.size
  have hC':=Jt hil hM.closed ho hr;have hview:∀t,t∈o.looksAt ops->t<nt->af (bj t) (j9 (L5 ops) Vv (E 0) (λk=>listed.getD k false) ops.size)=af (bj t) (E i):=λt ht hlt=>view hst hE hap hnt hM.closed ho hnb hr (List.mem_append_right _ ht) hlt;have hgt:GT nt (mu rho Hx w) (E i) ops o a.tmps:=afc hM.tr hview;have hor:OR (mu rho Hx w) nt (E i) a o:=af0 hM.tr hview;have hput:∀{m:M}{cv:Value},TR m nt (j9 (L5 ops) Vv (E 0) (λk=>listed.getD k false) ops.size) a.tmps->VR m (Vv i) cv->TR m nt (j9 (L5 ops) Vv (E 0) (λk=>(listed.setIfInBounds i true).getD k false) ops.size) (a.put o.dst cv).tmps:=λht hv=>VG hst hE hap hnt hM.size hM.closed ho hnb ht hv;have hbi:∀k,((Region.before ops).getD i 0).testBit k=true->dV listed k:=λk hk=>eB hE hM.closed i k (YD λo' ho'=>by rw[ho]at ho';cases ho';exact hr) hk;have hTn:∀j,j≠T->pur j=false->j<ops.size->T<ops.size->¬dV listed j->(∀k,((Region.before ops).getD j 0).testBit k=true->dV listed k)->j<T\/(al j=true/\T<j):=λj h2 h3 h4 h5 h6 h7=>by
   rcases hiso T j (hM.Uc h5) (Ne.symm h2) h3 h4 with h8|h8|h8;.exact YF (ig hE T j h8)
   .exact absurd (h7 T h8) hM.not
   .rcases Yh j T with hjT|hjT;.exact YF hjT
    .exact YD ⟨h8,by omega⟩
  have hpx:Part (Hh T) Hx:=⟨by rw[hM.xn];exact hN T hM.le,hM.xlo,hhp.out T hM.le⟩;have low:∀(H1:Heap),Part H1 Hx->(Hh i).n<=H1.n->OR (mu (cutAt H1.n rho) H1 w) nt (E i) a o:=λH1 hp1 hn1 x hx ar har=>by
   have v2:=hor x hx ar har;have hkn:∃m c,VR m (aA ar (E i)) c/\∀b c',m.b b c'->b<H1.n:=by
    unfold aN at har;split at har
    .split at har;.rename_i t ht;cases har;obtain⟨m,c,q1,q2⟩:=hke i hin t ht;exact⟨m,c,q1,λb c' hm=>YE (q2 b c' hm) hn1⟩
     .cases har
    .simp only[Yj]at har;obtain⟨u,hu,rfl⟩:=har;exact⟨⟨λ_ _=>False,λ_ _=>False⟩,_,um hu,λ_ _ h=>h.elim⟩
    .cases har;exact⟨⟨λ_ _=>False,λ_ _=>False⟩,_,by simp only[aA,VR];exact⟨#[],rfl,by simp only[cA]⟩,λ_ _ h=>h.elim⟩
    .cases har
   obtain⟨m,c,q1,q2⟩:=hkn;exact VR.mono (He q2 hp1) _ _ (VR.meet _ _ _ q1 v2)
  obtain⟨d,hd,he,hs⟩:=hst i o ho;unfold wpOpIn;simp only[ho];by_cases hh:jU iso pur i
  .have hiT:i=T:=by
    by_cases hiT:i=T;.exact hiT
    .exfalso;have hlt:i<T:=by
      rcases Yh T ops.size with h|h
      .rcases hTn i hiT hh.2 hin h hnb hbi with h'|h';.exact h'
       .have h'':=h'.1;rw[hhal i hh]at h'';cases h''
      .omega
     exact hnb (hM.NA i hlt hh)
   subst hiT;have prT:PR P base w0 (cutAt (Hh i).n rho) (Hh i) w:=hM.pr.part hpx (hhp.wn i hM.le) λb c hr hb=>hM.kn b c hr i (YC _) (λj h1 h2=>by omega) hb;have orT:=low (Hh i) hpx (YC _);have adv:∀(rho':Nat->Option Nat)(w':World)(cv:Value),PR P base w0 rho' (Hh (i+1)) w'->Ext (cutAt (Hh i).n rho) (Hh i) w rho' (Hh (i+1)) w'->VR (mu rho' (Hh (i+1)) w') (Vv i) cv->wpAnyIn (WF rd) 0 P .any ops Q fuel (listed.setIfInBounds i true) (a.put o.dst cv) w':=λrho' w' cv p1 x1 v1=>by
    obtain⟨T',t1,t2,t3,t4⟩:=BW iso pur ops.size _ (i+1) rfl hin;obtain⟨b1,b2⟩:=Xv hhp T' t2 (i+1) t1 t4;have hiN:=(dx hhp (i+1) (by omega) i (by omega)).1;obtain⟨Hy,y1,y2,y3,y4⟩:=Df (λb=>if b<(Hh T').n then(Hh T').get b else Hx.get b) (Hh ops.size).n (Hh T').bD;have wait:∀b c,rho b=some c->(Hh i).n<=b->(Hh (i+1)).n<=b/\w00.heap.size<=c/\∃i0,i+1<=i0/\i0<ops.size/\dV listed i0/\al i0=true/\b=(Hh i0).n/\∃(bl:eN)(ob:Obj),py (Hh i0) bl (Hh (i0+1))/\bl.alive/\(∀m,BR P m bl ob)/\Hx.get b=bl:=λb c hr hb=>by
     obtain⟨g0,i0,g1,g2,g3,g4,g5,g6⟩:=hM.KC b c hr hb;have hne:i0≠i:=λh=>by subst h;rw[hhal _ hh]at g4;cases g4
     have hle:i+1<=i0:=by omega
     exact⟨by rw[g5];exact(dx hhp i0 (by omega) (i+1) hle).1,g0,i0,hle,g2,g3,g4,g5,g6⟩
    have pnd:∀b c,rho b=some c->(Hh i).n<=b->Hy.get b=Hx.get b/\b<(Hh ops.size).n/\w'.heap[c]?=w.heap[c]?/\∀b0,rho' b0≠some c:=λb c hr hb=>by
     obtain⟨_,_,i0,g1,g2,_,_,g5,bl,ob,g6,_,_,g7⟩:=wait b c hr hb;have hbN:b<(Hh ops.size).n:=by have:=hN (i0+1) (by omega);have:=g6.n;omega
     have hcs:=(hM.pr.j8 b c hr).2.2.1;refine⟨?_,hbN,x1.fr c hcs λb0 hb0=>?_,λb0 hb0=>?_⟩
     .rw[y3 b hbN];split
      .rename_i hlt;have h2:i0+1<=T':=by
        rcases Yh i0 T' with h|h;.exact h
        .have:=(dx hhp i0 (by omega) T' h).1;omega
       obtain⟨q1,_⟩:=Xv hhp T' t2 (i0+1) h2 λj h3 h4=>t4 j (by omega) h4;rw[q1.get b (by have:=g6.n;omega),g7,g5,g6.get]
      .rfl
     .obtain⟨h3,h4⟩:=dR hb0;have:=hM.pr.inj b0 b c h4 hr;omega
     .rcases Yh b0 (Hh i).n with h|h;.have h3:=(dR (x1.old b0 c h hb0)).2;have:=hM.pr.inj b0 b c h3 hr;omega
      .rcases x1.new b0 c h hb0 with h3|⟨b2,h3,_⟩;.omega
       .obtain⟨h4,h5⟩:=dR h3;have:=hM.pr.inj b2 b c h5 hr;omega
    have hTN:=hN T' t2;have hyget:∀b,b<(Hh (i+1)).n->Hy.get b=(Hh (i+1)).get b:=λb hb=>by have:=b1.n;rw[y3 b (by omega),if_pos (by omega),b1.get b hb]
    generalize hrho2:(λb=>if b<(Hh (i+1)).n then rho' b else rho b)=rho2;have r2lo:∀b,b<(Hh (i+1)).n->rho2 b=rho' b:=λb hb=>by rw[<-hrho2];exact if_pos hb
    have r2hi:∀b,(Hh (i+1)).n<=b->rho2 b=rho b:=λb hb=>by rw[<-hrho2];exact if_neg (by omega)
    have m1:(mu rho' (Hh (i+1)) w').le (mu rho2 Hy w'):=⟨λb c⟨g1,g2⟩=>⟨by rw[y1];have:=b1.n;omega,λha=>by rw[r2lo b g1];exact g2 (by rw[<-hyget b g1];exact ha)⟩,λ_ _ h=>h⟩;have mX:(mu rho Hx w).le (mu rho2 Hy w'):=by
     refine⟨λb c⟨g1,g2⟩=>?_,x1.mu.2⟩;rcases Yh b (Hh i).n with h|h;.exact m1.1 b c (x1.mu.1 b c ⟨h,λha=>by rw[tj h];exact g2 (by rw[hM.xlo b h];exact ha)⟩)
     .have hr:=g2 (hM.xhi b h g1);exact⟨by rw[y1,<-hM.xn];exact g1,λ_=>by rw[r2hi b (wait b c hr h).1];exact hr⟩
    have cross:∀b b' c,rho' b=some c->rho b'=some c->(Hh (i+1)).n<=b'->False:=λb b' c h1 h2 h3=>(pnd b' c h2 (by omega)).2.2.2 b h1;have p2:PR P base w0 rho2 Hy w':=by
     refine⟨p1.below,p1.de,by rw[y1,y2];have:=hhp.wn T' t2;omega,λb c hrb=>?_,λb b' c h1 h2=>?_,λb c hrb=>?_,λb hb=>y4 b (by rw[<-y1];exact hb),p1.gl.1,p1.gl.2.1,λb c hrb=>by
      rcases Yh b (Hh (i+1)).n with h|h;.rw[r2lo b h]at hrb;exact p1.gl.2.2 b c hrb
      .rw[r2hi b h]at hrb;exact hM.pr.gl.2.2 b c hrb⟩
     .rcases Yh b (Hh (i+1)).n with h|h;.rw[r2lo b h]at hrb;obtain⟨g1,g2,g3,g4⟩:=p1.j8 b c hrb;exact⟨by rw[y1];have:=b1.n;omega,g2,g3,by rw[hyget b h];exact g4⟩
      .rw[r2hi b h]at hrb;obtain⟨g1,g2,g3,g4⟩:=hM.pr.j8 b c hrb;exact⟨by rw[y1,<-hM.xn];exact g1,g2,YE g3 x1.size,by rw[(pnd b c hrb (by omega)).1];exact g4⟩
     .rcases Yh b (Hh (i+1)).n with h|h<;>rcases Yh b' (Hh (i+1)).n with h'|h';.rw[r2lo b h]at h1;rw[r2lo b' h']at h2;exact p1.inj b b' c h1 h2
      .rw[r2lo b h]at h1;rw[r2hi b' h']at h2;exact(cross b b' c h1 h2 h').elim
      .rw[r2hi b h]at h1;rw[r2lo b' h']at h2;exact(cross b' b c h2 h1 h).elim
      .rw[r2hi b h]at h1;rw[r2hi b' h']at h2;exact hM.pr.inj b b' c h1 h2
     .rcases Yh b (Hh (i+1)).n with h|h;.rw[r2lo b h]at hrb;obtain⟨ob,g1,g2⟩:=p1.cQ b c hrb;exact⟨ob,g1,by rw[hyget b h];exact g2.mono m1⟩
      .rw[r2hi b h]at hrb;obtain⟨ob,g1,g2⟩:=hM.pr.cQ b c hrb;obtain⟨q1,_,q2,_⟩:=pnd b c hrb (by omega);exact⟨ob,by rw[q2];exact g1,by rw[q1];exact g2.mono mX⟩
    have e1:Ext rho0 (Hh 0) w00 (cutAt (Hh i).n rho) (Hh i) w:=hM.ext.re hd0 hc0 h0out (h0N i hM.le) hM.xw.symm (λb hb=>(hM.xlo b (by have:=h0N i hM.le;omega)).symm) (λb hb=>tj (by have:=h0N i hM.le;omega)) (λb c _ h=>YF (dR h).2) (λ_ _=>rfl) hM.ext.size;have e2:=Ext.trans hd0 e1 x1;have h01:=h0N (i+1) (by omega);have x3:Ext rho0 (Hh 0) w00 rho2 Hy w':=e2.re hd0 hc0 h0out (by rw[y1];exact h0N _ (YC _)) (by rw[y2,b2]) (λb hb=>hyget b (by omega)) (λb hb=>r2lo b (by omega)) (λb c hb hr=>by
     rcases Yh b (Hh (i+1)).n with h|h;.exact YF (by rw[<-r2lo b h];exact hr)
     .rw[r2hi b h]at hr;exact YD (wait b c hr (by omega)).2.1) (λ_ _=>rfl) e2.size;refine ih _ _ _ T' rho2 Hy ⟨hsz',hC',t2,t3,λhb=>?_,λj hj hjh=>?_,y1,y2,λb hb=>by rw[y3 b (by omega),if_pos hb],λb hb hb'=>?_,p2,x3,hput (hM.tr.mono mX) (VR.mono m1 _ _ v1),(put_defers _ _ _).trans hM.defers,λb c hrb k hk hnk=>?_,λb c hrb k hk hkj hbk=>?_,λb c hrb hb=>?_⟩ hc'
    .rw[dv hil]at hb;rcases hb with hb|hb;.omega
     .rcases Yh T' ops.size with h|h
      .have hp:=t3 h;rcases hiso T' i hp (by omega) hh.2 hin with h8|h8|h8;.exact hnb (eB hE hM.closed T' i (YF hb) h8)
       .have:=ig hE i T' h8;omega
       .rw[hhal i hh]at h8;cases h8
      .unfold dV at hb;rw[Yo,Array.getElem?_eq_none (by rw[hM.size];exact h)]at hb;simp at hb
    .rw[dv hil];by_cases hji:j=i;.exact YF hji
     .rcases Yh j i with h|h;.exact YD (hM.NA j h hjh)
      .exact absurd hjh (t4 j (by omega) hj)
    .rw[y1]at hb';rw[y3 b hb',if_neg (by omega)];exact hM.xhi b (by have:=b1.n;omega) (by rw[hM.xn];exact hb')
    .rw[dv hil]at hnk;have hki:k≠i:=λh=>hnk (YF h);rintro⟨g1,g2⟩;rcases Yh b (Hh (i+1)).n with hb|hb
     .rw[r2lo b hb]at hrb;rcases Yh k i with h|h;.have hn1:=(dx hhp i hM.le (k+1) (by omega)).1;exact hM.bound b c (dR (x1.old b c (by omega) hrb)).2 k h (λh=>hnk (YD h)) ⟨g1,g2⟩
      .have hn1:=(dx hhp k (by omega) (i+1) (by omega)).1;omega
     .rw[r2hi b hb]at hrb;obtain⟨_,_,i0,q1,q2,q3,_,q5,bl,ob,q6,_⟩:=wait b c hrb (by omega);have hk0:k≠i0:=λh=>hnk (YD (h▸q3));have:=q6.n;rcases Yh k i0 with h|h;.have:=(dx hhp i0 (by omega) (k+1) (by omega)).1;omega
      .have:=(dx hhp k (by omega) (i0+1) (by omega)).1;omega
    .rcases Yh b (Hh (i+1)).n with hb|hb
     .rw[r2lo b hb]at hrb;rcases Yh i k with h|h;.exact(p1.kn hrb).part (Xv hhp k (by omega) (i+1) h λj h1 h2=>t4 j h1 (by omega)).1 hb
      .exact absurd hh (hkj i h (by omega))
     .rw[r2hi b hb]at hrb;obtain⟨_,_,i0,q1,q2,_,_,q5,bl,ob,q6,_,q7,_⟩:=wait b c hrb (by omega);have hk1:i0+1<=k:=by
       rcases Yh i0 k with h|h;.exact h
       .have:=(dx hhp i0 (by omega) k h).1;omega
      obtain⟨q8,_⟩:=Xv hhp k (by omega) (i0+1) hk1 λj h3 h4=>t4 j (by omega) (by omega);exact⟨⟨λ_ _=>False,λ_ _=>False⟩,ob,by rw[q8.get b (by have:=q6.n;omega),q5,q6.get];exact q7 _,λ_ _ h=>h.elim⟩
    .have hb1:(Hh (i+1)).n<=b:=by have:=b1.n;omega
     rw[r2hi b hb1]at hrb;obtain⟨_,q0,i0,q1,q2,q3,q4,q5,bl,ob,q6,q7,q8,q9⟩:=wait b c hrb (by omega);refine⟨q0,i0,?_,q2,(dv hil).2 (YD q3),q4,q5,bl,ob,q6,q7,q8,by rw[(pnd b c hrb (by omega)).1];exact q9⟩;rcases Yh i0 T' with h|h;.have:=(dx hhp T' t2 (i0+1) h).1;have:=q6.n;omega
     .exact h
   rcases hs with⟨hw,hv,hH⟩|⟨_,hpu,_⟩|⟨hw,hpu,his,hop⟩|⟨_,_,his,_⟩;.simp only[hw _ _ hgt,YV,if_false];refine⟨λ_ _=>trivial,adv (cutAt (Hh i).n rho) w undef (by rw[hH];exact prT) (by rw[hH];exact Ext.refl prT.lt) (by rw[hv];exact qz)⟩
   .rw[hh.2]at hpu;cases hpu
   .simp only[hw _ _ hgt,if_true];refine kV (hop rd base w0 _ w a prT orT) λa1 w1 hk=>?_;obtain⟨cv,rfl,rho1,v1,p1,x1⟩:=hk;exact adv rho1 w1 cv p1 x1 v1
   .rw[hh.1]at his;cases his
  .have hiT:i≠T:=λh=>by subst h;exact hh (hM.Uc hin)
   have hnot':¬dV (listed.setIfInBounds i true) T:=λh=>by rw[dv hil]at h;exact h.elim (λh=>hiT h.symm) hM.not
   have hbeen':∀j,j<T->jU iso pur j->dV (listed.setIfInBounds i true) j:=λj hj hjh=>by rw[dv hil];exact YD (hM.NA j hj hjh)
   have adv:∀(rho':Nat->Option Nat)(w':World)(cv:Value),PR P base w0 rho' Hx w'->Ext rho0 (Hh 0) w00 rho' Hx w'->(mu rho Hx w).le (mu rho' Hx w')->VR (mu rho' Hx w') (Vv i) cv->(∀b c,rho' b=some c->rho b=some c\/(i<T/\(∀j,i<=j->j<T->¬jU iso pur j)/\(Hh i).n<=b/\b<(Hh (i+1)).n/\Kn P (Hh (i+1)) b))->wpAnyIn (WF rd) 0 P .any ops Q fuel (listed.setIfInBounds i true) (a.put o.dst cv) w':=λrho' w' cv p1 x1 m1 v1 hb=>by
    refine ih _ _ _ T rho' Hx ⟨hsz',hC',hM.le,hM.Uc,hnot',hbeen',hM.xn,hM.xw,hM.xlo,hM.xhi,p1,x1,hput (hM.tr.mono m1) v1,(put_defers _ _ _).trans hM.defers,λb c hrb k hk hnk=>?_,λb c hrb k hk hkj hbk=>?_,λb c hrb hbT=>?_⟩ hc'
    .rw[dv hil]at hnk;rcases hb b c hrb with h|⟨h1,_,h2,h3,_⟩;.exact hM.bound b c h k hk λh=>hnk (YD h)
     .rintro⟨g1,g2⟩;have hki:k≠i:=λh=>hnk (YF h);have hTs:=hM.le;rcases Yh k i with h|h;.have:=(dx hhp i (by omega) (k+1) (by omega)).1;omega
      .have:=(dx hhp k (by omega) (i+1) (by omega)).1;omega
    .rcases hb b c hrb with h|⟨h1,h0,h2,h3,h4⟩;.exact hM.kn b c h k hk hkj hbk
     .have hTs:=hM.le;have hik:i+1<=k:=by
       rcases Yh i k with h|h;.exact h
       .have:=(dx hhp i (by omega) k h).1;omega
      exact h4.part (Xv hhp k (by omega) (i+1) hik λj g1 g2=>h0 j (by omega) (by omega)).1 h3
    .rcases hb b c hrb with h|⟨h1,_,_,h3,_⟩;.obtain⟨q0,i0,q1,q2,q3,q4⟩:=hM.KC b c h hbT;exact⟨q0,i0,q1,q2,(dv hil).2 (YD q3),q4⟩
     .have hTs:=hM.le;have:=(dx hhp T hTs (i+1) h1).1;omega
   rcases hs with⟨hw,hv,hH⟩|⟨hw,hpu,hH,hop⟩|⟨hw,hpu,his,hop⟩|⟨hw,hpu,his,H1,H1',g1,g2,g3,hop,g4,g5,g6,g7⟩;.simp only[hw _ _ hgt,YV,if_false];exact⟨λ_ _=>trivial,adv rho w undef hM.pr hM.ext ⟨λ_ _ h=>h,λ_ _ h=>h⟩ (by rw[hv];exact qz) λb c h=>YF h⟩
   .simp only[hw _ _ hgt,if_true];have hget:∀b,B i=some b->∀hi lo,lo<=hi->hi<=ops.size->(∀k,lo<=k->k<hi->jU iso pur k->kg (Region.before ops) i k=false)->(Hh hi).get b=(Hh lo).get b:=λb hb hi=>by induction hi with|zero=>intro lo h1 _ _;rw[show lo=0 by omega]|succ k ihk=>
      intro lo h1 h2 h3;by_cases hlk:lo=k+1;.rw[hlk]
      .have hbn:b<(Hh k).n:=by have:=hB i b hin hb;have:=(dx hhp k (by omega) 0 (Ya _)).1;omega
       rw[<-ihk lo (by omega) (by omega) λq g1 g2=>h3 q g1 (by omega)];by_cases hhk:jU iso pur k;.exact hkp i k b hin (by omega) hb hhk (h3 k (by omega) (by omega) hhk) hbn
       .exact(hhp.ri k (by omega) hhk).1.get b hbn
    have hok:∀b,B i=some b->Hx.get b=(Hh i).get b:=λb hb=>by
     have hbT:b<(Hh T).n:=by have:=hB i b hin hb;have:=h0N T hM.le;omega
     rw[hM.xlo b hbT];rcases Yh i T with hlt|hge
     .refine hget b hb T i (by omega) hM.le λk g1 g2 g3=>?_;have hki:k≠i:=λh=>by subst h;rw[g3.2]at hpu;cases hpu
      have hbk:=hM.NA k g2 g3;unfold kg;rw[QK];refine⟨?_,?_⟩;.cases hx:((Region.before ops).getD i 0).testBit k with|false=>rfl|true=>have:=ig hE i k hx;omega
      .cases hx:((Region.before ops).getD k 0).testBit i with|false=>rfl|true=>exact absurd (eB hE hM.closed k i (YF hbk) hx) hnb
     .refine(hget b hb i T hge (by omega) λk g1 g2 g3=>?_).symm;have hnk:¬dV listed k:=λhbk=>by
       by_cases hkT:k=T;.subst hkT;exact hM.not hbk
       .rcases hiso T k (hM.Uc (by omega)) (Ne.symm hkT) g3.2 (by omega)with h8|h8|h8;.have:=ig hE T k h8;omega
        .exact hM.not (eB hE hM.closed k T (YF hbk) h8)
        .rw[hhal k g3]at h8;cases h8
      unfold kg;rw[QK];refine⟨?_,?_⟩;.cases hx:((Region.before ops).getD i 0).testBit k with|false=>rfl|true=>exact absurd (hbi k hx) hnk
      .cases hx:((Region.before ops).getD k 0).testBit i with|false=>rfl|true=>have:=ig hE k i hx;omega
    refine kV (hop Hx hok rd base w0 rho w a hM.pr hor) λa1 w1 hk=>?_;obtain⟨cv,rfl,rho1,v1,p1,x1⟩:=hk;exact adv rho1 w1 cv p1 (Ext.trans hd0 hM.ext x1) x1.mu v1 λb c h=>YF (x1.old b c (p1.lt b c h) h)
   .exact absurd ⟨his,hpu⟩ hh
   .simp only[hw _ _ hgt,if_true];by_cases hno:i<T/\∀j,i<=j->j<T->¬jU iso pur j
    .obtain⟨hlt,hno⟩:=hno;obtain⟨b1',b2⟩:=Xv hhp T hM.le i (by omega) hno;obtain⟨b3',b4⟩:=Xv hhp T hM.le (i+1) hlt λj h2 h3=>hno j (by omega) h3;have b1:=b1'.trans hpx;have b3:=b3'.trans hpx;have hnn:=(hhp.le i hin).1;have hp1:Part H1 Hx:=⟨by rw[g1];exact b1.n,λb hb=>by rw[g2];exact b1.get b (by omega),λb hb=>by rw[g2];exact b1.out b (by omega)⟩;have pc:PR P base w0 (cutAt H1.n rho) H1 w:=hM.pr.part hp1 (by omega) λb c hrb hb=>by obtain⟨m,o',q1,q2⟩:=hM.kn b c hrb i (by omega) hno (by omega);exact⟨m,o',by rw[g2];exact q1,λb' c' hm=>by rw[g1];exact q2 b' c' hm⟩
     have oc:OR (mu (cutAt H1.n rho) H1 w) nt (E i) a o:=low H1 hp1 (by omega);refine kV (hop rd base w0 _ w a pc oc) λa1 w1 hk=>?_;obtain⟨cv,rfl,rho1,v1,p1,x1⟩:=hk;rw[g1]at x1;obtain⟨p2,m1,m2,e1,e2,e3⟩:=hM.pr.merge (Hi:=Hh i) (Hi':=Hh (i+1)) b1 b3 hnn (λb c hrb=>by
      rcases Yh b (Hh T).n with hbT|hbT;.have:=hM.bound b c hrb i hlt hnb;omega
      .have:=b3'.n;omega) g1 p1 x1 g4 g5 g6 rfl;have hN0:=(dx hhp i (by omega) 0 (Ya _)).1;refine adv _ w1 cv p2 (hM.ext.after hd0 hc0 (hhp.out 0 (Ya _)) hN0 e1 (λb c h=>(e2 b c h).imp id λh=>h.2.2.1) e3 x1.size) m1 (VR.mono m2 _ _ v1) λb c h=>?_;rcases e2 b c h with h|⟨h2,h3,h4,h5⟩;.exact YF h
     .refine YD ⟨hlt,hno,h2,h3,?_⟩;obtain⟨m,o',q1,q2⟩:=p1.kn h5;exact⟨m,o',by rw[g6];exact q1,λb' c' hm=>by rw[g5];exact q2 b' c' hm⟩
    .have hali:al i=true:=by
      rcases(show i<T\/(al i=true/\T<i)by
       rcases Yh T ops.size with h|h;.exact hTn i hiT hpu hin h hnb hbi
       .exact YF (by omega))with hlt|⟨h,_⟩
      .by_cases ha:al i=true;.exact ha
       .exact absurd ⟨hlt,λj h2 h3 hj=>by
         have hbj:=hM.NA j h3 hj;have hji:j≠i:=λh=>by subst h;exact hnb hbj
         rcases hiso j i hj hji hpu hin with h8|h8|h8;.exact hnb (eB hE hM.closed j i (YF hbj) h8)
         .have:=ig hE i j h8;omega
         .exact ha h8⟩ hno
      .exact h
     rcases hal i o ho hali with⟨hw2,_⟩|⟨⟨bl,k1,k2,k3,_,k4⟩,klate⟩;.have h1:=hw _ _ hgt;rw[hw2 _ _ hgt]at h1;cases h1
     obtain⟨ob,k4,k5⟩:=k4 _ a hor;refine kV (k5 rd w) λa1 w1 hk=>?_;obtain⟨rfl,rfl⟩:=hk;have hcase:T<i\/(i<T/\∀k,i+1<=k->k<=T->(Hh k).get (Hh i).n=bl):=by
      rcases Yh T i with h|h;.exact YF h
      .refine YD ⟨by omega,λk=>?_⟩;induction k with|zero=>intro h1 _;omega|succ k ihk=>
        intro h1 h2;by_cases hki:k=i;.subst hki;exact k2.get
        .have hTs:=hM.le;have hnk:(Hh i).n<(Hh k).n:=by have:=(dx hhp k (by omega) (i+1) (by omega)).1;have:=k2.n;omega
         rw[<-ihk (by omega) (by omega)];by_cases hhk:jU iso pur k
         .refine klate k (by omega) hhk (by omega) ?_ hnk;have hbk:=hM.NA k (by omega) hhk;unfold kg;rw[QK];refine⟨?_,?_⟩;.cases hx:((Region.before ops).getD i 0).testBit k with|false=>rfl|true=>have:=ig hE i k hx;omega
          .cases hx:((Region.before ops).getD k 0).testBit i with|false=>rfl|true=>exact absurd (eB hE hM.closed k i (YF hbk) hx) hnb
         .exact(hhp.ri k (by omega) hhk).1.get _ hnk
     have hearly:T<i->(Hh T).n<=(Hh i).n:=λh=>(dx hhp i (by omega) T (by omega)).1;have hlateN:i<T->(Hh i).n<(Hh T).n:=λh=>by have:=(dx hhp T hM.le (i+1) (by omega)).1;have:=k2.n;omega
     have hb0N:(Hh i).n<(Hh ops.size).n:=by have:=hN (i+1) (by omega);have:=k2.n;omega
     have hfree:∀c,rho (Hh i).n≠some c:=λc hr=>by
      rcases hcase with hlt|⟨hlt,_⟩;rotate_left;.exact hM.bound _ c hr i hlt hnb ⟨YC _,by have:=k2.n;omega⟩
      obtain⟨_,i0,q1,q2,q3,_,q5,bl',ob',q6,_⟩:=hM.KC _ c hr (hearly hlt);have hne:i0≠i:=λh=>hnb (h▸q3);rcases Yh i0 i with h|h;.have:=(dx hhp i (by omega) (i0+1) h).1;have:=q6.n;omega
      .have:=(dx hhp i0 (by omega) (i+1) (by omega)).1;have:=k2.n;omega
     have halive:(Hh i).n<Hx.n->(Hx.get (Hh i).n).alive:=λhlx=>by
      rcases hcase with hlt|⟨hlt,hkeep⟩;.exact hM.xhi _ (hearly hlt) hlx
      .rw[hM.xlo _ (hlateN hlt),hkeep T (by omega) (YC _)];exact k3
     obtain⟨Hy,y1,y2,y3,y4⟩:=Df (λb=>if b=(Hh i).n then bl else Hx.get b) (Hh ops.size).n Hx.bD;have hy0:Hy.get (Hh i).n=bl:=by rw[y3 _ hb0N,if_pos rfl]
     have hyo:∀b,b≠(Hh i).n->Hy.get b=Hx.get b:=λb hb=>by
      rcases Yh b (Hh ops.size).n with h|h;.rw[y3 b h,if_neg hb]
      .rw[y4 b h,hM.pr.out b (by rw[hM.xn];exact h)]
     have hold:∀c,c<w.heap.size->(w.alloc ob).heap[c]?=w.heap[c]?:=λc hc=>Below.heap_alloc _ _ _ hc;generalize hrho2:(λb=>if b=(Hh i).n then some w.heap.size else rho b)=rho2;have r20:rho2 (Hh i).n=some w.heap.size:=by rw[<-hrho2];exact if_pos rfl
     have r2o:∀b,b≠(Hh i).n->rho2 b=rho b:=λb hb=>by rw[<-hrho2];exact if_neg hb
     have mX:(mu rho Hx w).le (mu rho2 Hy (w.alloc ob)):=by
      refine⟨λb c⟨q1,q2⟩=>⟨by rw[y1,<-hM.xn];exact q1,λha=>?_⟩,λc z⟨cs,e,fr,q1,q2⟩=>⟨cs,e,fr,by rw[hold c (YO.1 q1).1];exact q1,q2⟩⟩;by_cases hb:b=(Hh i).n;.subst hb;exact absurd (q2 (halive q1)) (hfree c)
      .rw[r2o b hb];exact q2 (by rw[<-hyo b hb];exact ha)
     have p2:PR P base w0 rho2 Hy (w.alloc ob):=by
      refine⟨pH hM.pr.below rfl rfl rfl (by simp) λk hk=>hold k (by have:=hM.pr.de;omega),by have:=hM.pr.de;simp;omega,by rw[y1,y2,<-hM.xn];exact hM.pr.wn,λb c hrb=>?_,λb b' c h1 h2=>?_,λb c hrb=>?_,λb hb=>y4 b (by rw[<-y1];exact hb),wQ hM.pr.gl.1 λc hc=>hold c (hM.pr.gl.2.1 c hc),λc hc=>by have:=hM.pr.gl.2.1 c hc;simp;omega,λb c hrb hc=>by
       by_cases hb:b=(Hh i).n;.subst hb;rw[r20]at hrb;cases hrb;have:=hM.pr.gl.2.1 _ hc;omega
       .rw[r2o b hb]at hrb;exact hM.pr.gl.2.2 b c hrb hc⟩
      .by_cases hb:b=(Hh i).n;.subst hb;rw[r20]at hrb;cases hrb;exact⟨by rw[y1];exact hb0N,hM.pr.de,by simp,by rw[hy0];exact k3⟩
       .rw[r2o b hb]at hrb;obtain⟨q1,q2,q3,q4⟩:=hM.pr.j8 b c hrb;exact⟨by rw[y1,<-hM.xn];exact q1,q2,by simp;omega,by rw[hyo b hb];exact q4⟩
      .by_cases hb:b=(Hh i).n<;>by_cases hb':b'=(Hh i).n;.omega
       .subst hb;rw[r20]at h1;cases h1;rw[r2o b' hb']at h2;have:=(hM.pr.j8 b' _ h2).2.2.1;omega
       .subst hb';rw[r20]at h2;cases h2;rw[r2o b hb]at h1;have:=(hM.pr.j8 b _ h1).2.2.1;omega
       .rw[r2o b hb]at h1;rw[r2o b' hb']at h2;exact hM.pr.inj b b' c h1 h2
      .by_cases hb:b=(Hh i).n;.subst hb;rw[r20]at hrb;cases hrb;exact⟨ob,World.alloc_heap_new w _,by rw[hy0];exact k4 _⟩
       .rw[r2o b hb]at hrb;obtain⟨o',q1,q2⟩:=hM.pr.cQ b c hrb;exact⟨o',by rw[hold c (hM.pr.j8 b c hrb).2.2.1];exact q1,by rw[hyo b hb];exact q2.mono mX⟩
     have h0i:=h0N i (by omega);have x3:Ext rho0 (Hh 0) w00 rho2 Hy (w.alloc ob):=hM.ext.re hd0 hc0 h0out (by rw[y1];exact h0N _ (YC _)) y2 (λb hb=>hyo b (by omega)) (λb hb=>r2o b (by omega)) (λb c _ hr=>by
      by_cases hb:b=(Hh i).n;.subst hb;rw[r20]at hr;cases hr;exact YD hM.ext.size
      .exact YF (by rw[<-r2o b hb];exact hr)) (λc hc=>hold c (YE hc hM.ext.size)) (by have:=hM.ext.size;simp;omega);refine ih _ _ _ T rho2 Hy ⟨hsz',hC',hM.le,hM.Uc,hnot',hbeen',y1,y2.trans hM.xw,λb hb=>by
      by_cases hbb:b=(Hh i).n
      .subst hbb;rcases hcase with hlt|⟨hlt,hkeep⟩;.have:=hearly hlt;omega
       .rw[hy0,hkeep T (by omega) (YC _)]
      .rw[hyo b hbb];exact hM.xlo b hb,λb hb hb'=>?_,p2,x3,hput (hM.tr.mono mX) ?_,(put_defers _ _ _).trans hM.defers,λb c hrb k hk hnk=>?_,λb c hrb k hk hkj hbk=>?_,λb c hrb hbT=>?_⟩ hc'
     .by_cases hbb:b=(Hh i).n;.subst hbb;rw[hy0];exact k3
      .rw[hyo b hbb];exact hM.xhi b hb (by rw[hM.xn,<-y1];exact hb')
     .rw[k1];simp only[VR];exact⟨_,rfl,by rw[y1];exact hb0N,λ_=>r20⟩
     .rw[dv hil]at hnk;by_cases hb:b=(Hh i).n
      .rintro⟨q1,q2⟩;have hki:k≠i:=λh=>hnk (YF h);have hTs:=hM.le;rcases Yh k i with h|h;.have:=(dx hhp i (by omega) (k+1) (by omega)).1;omega
       .have:=(dx hhp k (by omega) (i+1) (by omega)).1;have:=k2.n;omega
      .rw[r2o b hb]at hrb;exact hM.bound b c hrb k hk λh=>hnk (YD h)
     .by_cases hb:b=(Hh i).n
      .rcases hcase with hlt|⟨hlt,hkeep⟩;.have:=(dx hhp T hM.le k hk).1;have:=hearly hlt;omega
       .have hik:i+1<=k:=by
         rcases Yh i k with h|h;.exact h
         .have:=(dx hhp i (by omega) k h).1;omega
        subst hb;exact⟨⟨λ_ _=>False,λ_ _=>False⟩,ob,by rw[hkeep k hik hk];exact k4 _,λ_ _ h=>h.elim⟩
      .rw[r2o b hb]at hrb;exact hM.kn b c hrb k hk hkj hbk
     .by_cases hb:b=(Hh i).n
      .subst hb;rw[r20]at hrb;cases hrb;have hTi:T<i:=hcase.resolve_right λh=>by have:=hlateN h.1;omega
       exact⟨hM.ext.size,i,by omega,hin,(dv hil).2 (YF rfl),hali,rfl,bl,ob,k2,k3,k4,hy0⟩
      .rw[r2o b hb]at hrb;obtain⟨q0,i0,q1,q2,q3,q4,q5,bl',ob',q6,q7,q8,q9⟩:=hM.KC b c hrb hbT;exact⟨q0,i0,q1,q2,(dv hil).2 (YD q3),q4,q5,bl',ob',q6,q7,q8,by rw[hyo b hb];exact q9⟩
end walk
end
end Go.Ev
end
