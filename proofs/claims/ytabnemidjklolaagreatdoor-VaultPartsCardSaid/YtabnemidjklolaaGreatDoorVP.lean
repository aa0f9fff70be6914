/- VP: a part of the evaluator,of its logic,or of the laws' walk in it. -/
import Derived.Test.YtabnemidjklolaaGreatDoorVC
import Derived.OpenShut
open List renaming getElem?_eq_getElem→YA,getD_eq_getElem?_getD→YD,length_cons→YG,mem_cons_of_mem→YI,mem_cons_self→YL,mem_singleton→YM,getElem_mem→YP,length_nil→YQ,mem_cons→YS,mem_map→Ye,getElem?_map→Yq,getElem?_eq_none→WJ,range→WV,mem_range→QD
open Nat renaming le_refl→YC,lt_irrefl→Qc
open Or renaming inr→YE,inl→YH
set_option linter.unusedVariables false
set_option linter.unusedSimpArgs false
set_option linter.unusedSectionVars false
set_option maxHeartbeats 8000000
open Nat renaming reduceLT→ZE
section
namespace Go.Ev
open Go.Proofs
section
variable{pk:List UInt8->List (List UInt8)}{unpk:List (List UInt8)->Option (List UInt8)}{A:AD}{a n:Nat}{us:List Wr}{m:MT}{c:CH}
theorem fW.kept(F:bC pk unpk){o:jB}{c':CH}(I:VI pk A a n us m c)(hf:A.aX=0)(G:fW A m o c'):(∀w∈o.bw,(j8 pk A a o.m1 o.bw).1.read w.1=w.2)/\∀l∈cU m,∀q∈l,cw (j8 pk A a o.m1 o.bw).1 q=cw A q:=by
 obtain⟨h1,h2,h3,h4,h5⟩:=Ah F I.lo I.hi G.ok G.l8 (λw hw=>let⟨a1,a2,a3,a4,_⟩:=G.bw w hw;⟨a1,a2,a3,a4⟩) G.nd G.len;have h0:=(G.done F I hf).1;have hR:j8 pk A a o.m1 o.bw=A.ep pk a (Rq pk A o.m1 o.bw):=by unfold j8;rw[if_pos h1]
 rw[hR]at h0⊢;have hdid:=I.jd.ep F hf h4;have h6:=h5.congr (λk hk=>(hdid.yes h0).1 k hk) λw hw=>(G.bw w hw).1;refine⟨λw hw=>h6.wr w hw,λl hlm q hq=>?_⟩;unfold cw;rcases I.ok.pl l hlm q hq with rfl|⟨h1,h2⟩;.rw[if_pos rfl,if_pos rfl]
 .rw[if_neg (by omega),if_neg (by omega)];exact h6.other q h1 λhk=>by obtain⟨w,hw,rfl⟩:=Ye.1 hk;exact(G.bw w hw).2.2.2.2 l hlm hq
def sy(f:Nat->Nat)(n:Nat):List Wr:=(WV n).map λi=>(i,dT (f i))
theorem sA{f}{n}:(sy f n).length=n:=by simp[sy]
theorem qg{f}{n i}(h:i<n):(sy f n)[i]?=some (i,dT (f i)):=by simp[sy,h]
theorem abD{f}{n}:qp (sy f n) n:=by
 refine⟨λc hc=>?_,λi hi=>?_⟩;.obtain⟨i,hi,rfl⟩:=Ye.1 hc;exact⟨QD.1 hi,rfl,wT _⟩
 .rw[sA]at hi;rw[YD,YD,qg (by omega),qg hi];exact Nat.lt_succ_self i
theorem Ox{l}{f}{n}:∀{i k},i<=n->i<=k->dU l (sy f n) i=dU l (sy f k) i|0,_,_,_=>rfl|i+1,k,h,h'=>by simp only[dU];rw[Ox (k:=k) (by omega) (by omega),YD,YD,qg h,qg h']
def sS(m:MT)(i:Nat):Tk:=⟨(cz m).g,(2,1),i,8,[]⟩
structure PS(pk:List UInt8->List (List UInt8))(A:AD)(a n:Nat)(us:List Wr)(m:MT)(c:CH)(f:Nat->Nat)(bg:Gd)(i:Nat):Prop where
 vi:VI pk A a n us m c
 aX:A.aX=0Vs:A.len=400g:∀s∈m.ae,s.g.1=1/\s.g.2<1000len:m.ae.length<20b:(cz m).g=bg
 tok:(i=0/\m.tok=nY)\/(m.tok.b=bg/\m.tok.t=(2,1)/\m.tok.next=i/\m.tok.all=8/\m.tok.bP.map (cw A)=dU (eX c).iC (sy f 8) i)
theorem PS.zQ{f}{b i}(S:PS pk A a n us m c f b i):dJ (2,1) (cz m).g=true:=by
 rcases hn:m.ae.length with _|q;.rw[ee hn];show dJ (2,1) (0,0)=true;simp[dJ]
 .have hs:m.ae[q]?=some m.ae[q]:=YA (by omega);rw[dG hs hn];obtain⟨g1,g2⟩:=S.g _ (YP (by omega:q<m.ae.length));simp[dJ,g1]
theorem PS.okb{f}{b i}(S:PS pk A a n us m c f b i):jN b:=by
 rw[<-S.b];rcases hn:m.ae.length with _|q;.rw[ee hn];exact⟨by show 0<_;omega,by show 0<_;omega⟩
 .have hs:m.ae[q]?=some m.ae[q]:=YA (by omega);rw[dG hs hn];exact gJ S.vi.yG _ (YP _)
theorem PS.st{f}{b i}(S:PS pk A a n us m c f b i):Hq m (sS m (i+1)) [(i,dT (f i))]\/8<=i:=by
 by_cases hi:i<8;.exact YH ⟨rfl,S.zQ,⟨by show 2<_;omega,by show 1<_;omega⟩,by rw[S.vi.l8];exact YC 8,by show i+1<=8;omega,by show(i+1=0)=(8=0);simp,by rw[S.vi.l8];exact qp.one hi rfl (wT _)⟩
 .exact YE (by omega)
theorem PS.stl{f}{b i}(S:PS pk A a n us m c f b i):gV (mI m (sS m (i+1))) 8 A.len/\(mI m (sS m (i+1))∈cU m\/∀q∈mI m (sS m (i+1)),q=0)/\(mI m (sS m (i+1))).map (cw A)=dU (eX c).iC (sy f 8) i:=by
 rcases S.tok with⟨rfl,h0⟩|⟨h1,h2,h3,h4,h5⟩
 .have:mI m (sS m 1)=(cz m).bP:=by unfold mI;rw[if_neg];intro h;have:=h.2.1;rw[h0]at this;exact absurd (congrArg Prod.fst this) (by show¬(0:Nat)=2;omega)
  rw[this];exact⟨lz S.vi.ok S.vi.l8,Ff,S.vi.last.2⟩
 .have:mI m (sS m (i+1))=m.tok.bP:=by unfold mI;rw[if_pos ⟨by rw[h1];exact S.b.symm,h2,h4⟩]
  rw[this];have hk:=S.vi.ok.tok;unfold qt at hk;rw[if_neg (by rw[h2];simp)]at hk;exact⟨hk.2.2.2.2.2,YH (YI _ (YL ..)),h5⟩
theorem PS.room{f}{b i d}(S:PS pk A a n us m c f b i):¬iQ m A.len [(i,d)]:=λhf=>by unfold iQ at hf;have hr:=S.vi.vT S.Vs;rw[S.Vs]at hf;have:=kM [(i,d)] 1;have h2:[(i,d)].length=1:=rfl;rw[h2]at hf;omega
theorem PS.part(F:bC pk unpk){f}{b i}(S:PS pk A a n us m c f b i)(hi:i<7):∃o,vW m A.len (sS m (i+1)) [(i,dT (f i))]=o/\o.e0=0/\(j8 pk A a o.m1 o.bw).2=0/\∃a' n' us',PS pk (j8 pk A a o.m1 o.bw).1 a' n' us' o.m1 c f b (i+1):=by
 have Z:=S.st.resolve_right (by omega);obtain⟨s1,s2,s3⟩:=S.stl;have hr:=S.room (d:=dT (f i));have hfin:(sS m (i+1)).next<(sS m (i+1)).all:=by show i+1<8;omega
 obtain⟨G,ht,hv⟩:=JL S.vi Z (by show jN (cz m).g;rw[S.b];exact S.okb) hfin (by show 1<=i+1;omega) hr s1 s2 (by simp);have hs0:uK m (sS m (i+1))=0:=by unfold uK;rw[if_neg];rintro⟨h,-⟩;exact absurd h (Nat.ne_of_lt hfin)
 have he:(vW m A.len (sS m (i+1)) [(i,dT (f i))]).e0=0:=by unfold vW;simp[hs0,hr]
 refine⟨_,rfl,he,?_⟩;have G':fW A m (vW m A.len (sS m (i+1)) [(i,dT (f i))]) c:=fW.e0 G;obtain⟨g1,g2,g3,g4,a',n',us',I'⟩:=G'.done F S.vi S.aX;obtain⟨k1,k2⟩:=G'.kept F S.vi S.aX;have hm:(vW m A.len (sS m (i+1)) [(i,dT (f i))]).m1.ae=m.ae:=by show(A8 m A.len (sS m (i+1)) [(i,dT (f i))]).ae=_;unfold A8 stM;rw[if_pos hfin]
 have hls:(cz (vW m A.len (sS m (i+1)) [(i,dT (f i))]).m1).g=b:=by rw[ly,hm,<-ly];exact S.b
 refine⟨g1,a',n',us',I',g2,g3.trans S.Vs,by rw[hm];exact S.g,by rw[hm];exact S.len,hls,YE ?_⟩;have ht':(vW m A.len (sS m (i+1)) [(i,dT (f i))]).m1.tok=_:=ht;rw[ht'];refine⟨S.b,rfl,rfl,rfl,?_⟩;refine(hv _ (λw hw=>k1 w hw) λl hl q hq=>k2 l hl q hq).trans ?_;rw[s3];simp only[dU,YG,YQ];rw[YD (l:=sy f 8),qg (by omega)];rfl
theorem PS.last(F:bC pk unpk){f}{b}(S:PS pk A a n us m c f b 7):dH c (2,1)=0/\∃o,vW m A.len (sS m 8) [(7,dT (f 7))]=o/\o.e0=0/\(j8 pk A a o.m1 o.bw).2=0/\o.m1.tok=nY/\(j8 pk A a o.m1 o.bw).1.aX=0/\∃a' n' us',VI pk (j8 pk A a o.m1 o.bw).1 a' n' us' o.m1 (Hc c (2,1) (sy f 8)):=by
 have Z:=S.st.resolve_right (by omega);obtain⟨s1,s2,s3⟩:=S.stl;have hr:=S.room (d:=dT (f 7));have hl:=S.len;have hlen:=S.vi.ag.len;have hfin:¬(sS m 8).next<(sS m 8).all:=Qc 8;have hx:dH c (2,1)=0:=by unfold dH;rw[<-S.vi.last.1,S.zQ,if_neg (by simp),if_neg (by omega)]
 have hs0:uK m (sS m 8)=0:=by unfold uK;rw[if_neg];rintro⟨-,h⟩;omega
 have he:(vW m A.len (sS m 8) [(7,dT (f 7))]).e0=0:=by unfold vW;simp[hs0,hr]
 have hbv:dU ((mI m (sS m 8)).map (cw A)) [(7,dT (f 7))] [(7,dT (f 7))].length=zR c (sy f 8):=by rw[s3];unfold zR;rw[sA];simp only[dU,YG,YQ];rfl
 have G:=yp S.vi Z hfin hl hr s1 s2 (by simp) hbv;have hc:Hc c (2,1) (sy f 8)={c with ae:=c.ae++[⟨zR c (sy f 8),(2,1),false⟩],live:=zR c (sy f 8)}:=by unfold Hc;rw[if_pos hx]
 have G':fW A m (vW m A.len (sS m 8) [(7,dT (f 7))]) (Hc c (2,1) (sy f 8)):=by rw[hc];exact fW.e0 G
 obtain⟨g1,g2,g3,g4,J⟩:=G'.done F S.vi S.aX;refine⟨hx,_,rfl,he,g1,?_,g2,J⟩;show(A8 m A.len (sS m 8) [(7,dT (f 7))]).tok=nY;unfold A8 stM;rw[if_neg hfin]
def PT(pk:List UInt8->List (List UInt8))(A:AD)(m:MT)(c:CH)(f:Nat->Nat)(bg:Gd)(i:Nat):Prop:=if i<8then∃a n us,PS pk A a n us m c f bg i else dH c (2,1)=0/\m.tok=nY/\A.aX=0/\∃a n us,VI pk A a n us m (Hc c (2,1) (sy f 8))
theorem PT.ps{f}{b i}(h:PT pk A m c f b i)(hi:i<8):∃a n us,PS pk A a n us m c f b i:=by unfold PT at h;rwa[if_pos hi]at h
theorem PT.done{f}{b}(h:PT pk A m c f b 8):dH c (2,1)=0/\m.tok=nY/\A.aX=0/\∃a n us,VI pk A a n us m (Hc c (2,1) (sy f 8)):=by unfold PT at h;rwa[if_neg (Qc 8)]at h
theorem PS.next(F:bC pk unpk){f}{b i}(S:PS pk A a n us m c f b i)(hi:i<8):∃o,vW m A.len (sS m (i+1)) [(i,dT (f i))]=o/\o.e0=0/\(j8 pk A a o.m1 o.bw).2=0/\PT pk (j8 pk A a o.m1 o.bw).1 o.m1 c f b (i+1):=by
 unfold PT;by_cases h7:i=7;.subst h7;obtain⟨hx,o,h1,h2,h3,h4,h5,h6⟩:=S.last F;exact⟨o,h1,h2,h3,by rw[if_neg (by omega)];exact⟨hx,h4,h5,h6⟩⟩
 .obtain⟨o,h1,h2,h3,h4⟩:=S.part F (by omega);exact⟨o,h1,h2,h3,by rw[if_pos (by omega)];exact h4⟩
theorem PT.vi{f}{b i}(h:PT pk A m c f b i):∃a n us c0,VI pk A a n us m c0/\A.aX=0/\∀A':AD,VI pk A' a n us m c0->A'.aX=0->A'.len=A.len->(∀q,cw A' q=cw A q)->PT pk A' m c f b i:=by
 unfold PT at h⊢;split at h;.rename_i hi;obtain⟨a,n,us,S⟩:=h;refine⟨a,n,us,c,S.vi,S.aX,λA' I hf hl hv=>?_⟩;rw[if_pos hi];refine⟨a,n,us,I,hf,hl.trans S.Vs,S.g,S.len,S.b,S.tok.imp_right λ⟨h1,h2,h3,h4,h5⟩=>⟨h1,h2,h3,h4,?_⟩⟩;rw[List.map_congr_left λq _=>hv q];exact h5
 .rename_i hi;obtain⟨h1,h2,h3,a,n,us,I⟩:=h;refine⟨a,n,us,_,I,h3,λA' I' hf hl hv=>?_⟩;rw[if_neg hi];exact⟨h1,h2,hf,a,n,us,I'⟩
theorem PT.tok{f}{b i}(h:PT pk A m c f b i)(h0:0<i)(hi:i<8):m.tok.next=i:=by
 obtain⟨a,n,us,S⟩:=h.ps hi;rcases S.tok with h|h;.omega
 .exact h.2.2.1
theorem PT.agree{f}{b i}(h:PT pk A m c f b i)(hi:i<8):fU A m c:=by obtain⟨a,n,us,S⟩:=h.ps hi;exact S.vi.ag
theorem TM{b n k:Nat}:∀{ss:List Sn}{last:Gd},iq b n last ss->(∀s∈ss,s.g.1=1/\s.g.2<k)->last.1=1->last.2<k->ss.length+last.2<k
 |[],last,_,_,_,h=>by simpa using h|s::ss,last,h,hg,h1,h2=>by
  obtain⟨g1,g2⟩:=hg s (YL ..);have:=TM h.2.2 (λx hx=>hg x (YI _ hx)) g1 g2;rcases h.1with h3|⟨-,h3⟩;.omega
  .rw[YG];omega
theorem abQ{b n k:Nat}{ss:List Sn}(h:iq b n (0,0) ss)(hg:∀s∈ss,s.g.1=1/\s.g.2<k):ss.length<=k:=by cases ss with|nil=>exact Nat.zero_le _|cons s ss=>obtain⟨g1,g2⟩:=hg s (YL ..);have:=TM h.2.2 (λx hx=>hg x (YI _ hx)) g1 g2;rw[YG];omega
theorem PS.first{f}{k:Nat}(I:VI pk A a n us m c)(hf:A.aX=0)(hl:A.len=400)(N:NI m k)(hk:k<20):PS pk A a n us m c f (cz m).g 0:=⟨I,hf,hl,λs hs=>⟨(N.g s hs).1,by have:=(N.g s hs).2;omega⟩,by have:=abQ I.ok.ae N.g;omega,rfl,YH ⟨rfl,N.tok⟩⟩
end
section
variable{t:Nat->Option dr}{fuel:Nat}{H:Heap}{pk:List UInt8->List (List UInt8)}{unpk:List (List UInt8)->Option (List UInt8)}
variable{dp vp p a n:Nat}{A:AD}{O:Nat->Prop}{m:MT}{vl vs vi v:V}{c c0:CH}{us:List Wr}
def lf(ls:List Nat)(i:Nat):Nat:=ls.getD i 0%200
theorem U9{f n}:bK (sy f (n+1))=bK (sy f n)++[.int 3 n,.str 32 (enc (eD (f n) 32))]:=by unfold sy bK;rw[List.range_succ,List.map_append,List.flatMap_append];rfl
theorem Jn{cp}{X:Nat->Prop}(T:aB t)(hc:aP t)(F:bC pk unpk)(hu:t 85=some (.nat (eh unpk)))(P:PD H X dp vp p A O m vl vs vi false c v)(I:VI pk A a n us m c0)(hf:A.aX=0)(hfu:1000000<fuel):∃H' O' A' vp' vl' vs' vi',(∀(d)(k),aj (aT cp t fuel (d+9)) (.func 22 []) [.ptr dp 0] H k=k (.cG [.ptr vp' 0,.int 3 0]) H')/\PD H' X dp vp' p A' O' m vl' vs' vi' false c v/\VI pk A' a n us m c0/\A'.aX=0/\A'.len=A.len/\(∀q,cw A' q=cw A q)/\Step H O H' O'/\H.n<=vp':=by
 obtain⟨r1,r2,r3,r4,r5,r6⟩:=I.jd.recovered hf;have hT:Lt (A.recover n us).1 (pk (bq (mW m))):=⟨λi h=>by rw[AD.read,r6];exact I.rH.at_ i h⟩;obtain⟨H',O',vp',vl',vs',vi',z,s,D,g,hn,ho,hv,hM,hX⟩:=yE T hc F hu P.cO I.jd.FU r1 r2.off (by rw[r4];exact I.lo) (by rw[r4];exact I.hi) (by rw[r4,I.l8];exact I.ok) I.yG hT hfu;have hd:=λb hb h=>P.U2 b hb (YH h);refine⟨H',O',_,vp',vl',vs',vi',z,⟨D,g,hn,ho,hX _ λb hb=>hb.elim (P.xn b) (P.ch.lt b),(P.ch.cm s hd).1,λb hb h=>?_,λb hb=>Nat.lt_of_lt_of_le (P.xn b hb) s.n,P.xc,λb hb h=>?_⟩,⟨r2,by rw[r4];exact I.lo,by rw[r4];exact I.hi,by rw[r4,r5];exact I.room,I.l8,by rw[r4];exact I.ok,I.yG,hT,I.s8,I.agree λl _ q _=>tR r6 q⟩,r3,r4,λq=>tR r6 q,s,hv⟩
 .have hbn:=P.ch.lt b hb;rcases h with h|h;.exact(s.same b hbn (hd b hb)).2 h
  omega
 .have hbn:=P.xn b hb;rcases h with h|h;.exact(s.same b hbn λh=>P.xo b hb (YH h)).2 h
  omega
theorem PD.add{G:Heap}{Tb:Nat}(P:PD H (λ_=>False) dp vp p A O m vl vs vi false c v)(f:ah H G)(h:H.n<=Tb)(hn:Tb<G.n):PD G (λb=>b=Tb) dp vp p A O m vl vs vi false c v:=by have P':=P.fresh f;exact⟨P'.cO,P'.get,P'.vn,P'.vo,(P.lO.mK λb hb h=>h.elim (λh=>h.elim (λh=>by omega) λh=>YH (YE h)) YE).fresh f,P'.ch,P'.U2,λb hb=>by omega,λb hb h=>by have:=P.ch.lt b h;omega,λb hb h=>by have:=P.wlt b h;omega⟩
theorem PD.put{G:Heap}{Tb:Nat}{y:eB}(P:PD H (λb=>b=Tb) dp vp p A O m vl vs vi false c v)(hG:H.put Tb y=G):PD G (λb=>b=Tb) dp vp p A O m vl vs vi false c v/\Step H (λb=>b=Tb\/PQ vp p O v b) G (λb=>b=Tb\/PQ vp p O v b):=by
 have s:Step H (λb=>b=Tb) G (λb=>b=Tb):=by rw[<-hG];exact Step.fy P.cO.wf (P.xn Tb rfl)
 have h1:jO H (λb=>PQ vp p O v b\/b=Tb) m vl vs vi:=P.lO.mK λb _ h=>by
  rcases h with(h|h)|h;.exact YH (YE h)
  .exact YE h
  .exact YH (YH h)
 refine⟨P.cm s (λb hb h=>h.elim (P.xc b hb) (P.xo b hb)) ((h1.cm (s.or (O:=PQ vp p O v))).mK λb _ h=>?_),(s.or (O:=PQ vp p O v)).congr (λb=>Or.comm) λb=>Or.comm⟩;rcases h with(h|h)|h;.exact YE h
 .exact YH (YH h)
 .exact YH (YE h)
theorem Row.agF{O Q:Nat->Prop}{b cx sx:Nat}{cs:List Wr}{w:Wr}{i:Nat}{c' z':Nat}(h:Row H O (.slice b 0 cs.length cx sx) 2 cs.length (bK cs))(hi:cs[i]?=some w)(hQ:∀b,b<H.n->Q b->O b):Row H Q (.slice b (i*2) 1 c' z') 2 1 (bK [w]):=by
 have hlt:=(List.getElem?_eq_some_iff.1 hi).1;obtain⟨h1,h2,⟨hn,h0⟩|⟨b0,o,c,s,l,e,g1,g2,g3,g4,g5⟩⟩:=h;.omega
 .cases e;refine⟨rfl,λx hx=>?_,YE ⟨b,i*2,c',z',l,rfl,g1,g2,λh=>g3 (hQ b g2 h),by omega,?_⟩⟩;.rcases YS.1 hx with rfl|hx;rfl;rw[YM.1 hx];rfl
  .have:=jS hi;rw[<-g5,List.drop_zero,List.drop_take,List.take_take,Nat.min_eq_left (by omega)]at this;exact this
theorem FG(T:aB t)(hc:aP t)(F:bC pk unpk)(hp:t 110=some (.nat (dC pk))){G0:Heap}{lv v2 v4:V}{ds:List D3}(hl:ua H lv ds)(h0:∃A O m vl vs vi c v a n us,LI pk H G0 (λ_=>False) dp vp p A O m vl vs vi c v a n us 1/\A.len=400)(hfu:1000000<fuel):∃G' next,next<10/\(∃A O m vl vs vi c v a n us,LI pk H G' (λ_=>False) dp vp p A O m vl vs vi c v a n us next/\A.len=400)/\∀(d:Nat)(kx:Nat->KE)(e:Env)(x:R),af s000 e=lv->af s002 e=v2->af s004 e=v4->af s007 e=.ptr dp 0->af s010 e=.ptr vp 0->af s011 e=.ptr p 0->af s012 e=.int 3 0->(∀e',af s002 e'=v2->af s004 e'=v4->af s007 e'=.ptr dp 0->af s010 e'=.ptr vp 0->af s011 e'=.ptr p 0->kx 1 e' G'=x)->kf HP fuel (aT (aN Tryz.prog) t fuel (d+10)) kx fuel e G0=x:=by
 have hn:=hl.n;obtain⟨_,G',hL,z⟩:=bG (c:=HP) (fuel:=fuel) (ph:=λd=>aT (aN Tryz.prog) t fuel (d+10)) (n:=min ds.length 8) (I:=λi _ G=>∃A O m vl vs vi c v a n us,LI pk H G (λ_=>False) dp vp p A O m vl vs vi c v a n us (i+1)/\A.len=400) (S:=λi _ e=>af s000 e=lv/\af s002 e=v2/\af s004 e=v4/\af s007 e=.ptr dp 0/\af s010 e=.ptr vp 0/\af s011 e=.ptr p 0/\af s012 e=.int 3 i) (λi _ G hin⟨A,O,m,vl,vs,vi,c,v,a,n,us,L,h400⟩=>by
   have hil:i<ds.length:=by omega
   have hi8:i<8:=by omega
   have hdx:=YA hil;obtain⟨hx1,hx2,hx3⟩:=hl.lt _ (YP hil);have hrow:=hl.row.fresh L.fresh;have hsn:=λ{id}{f}=>hrow.sn (id:=id) (f:=f);obtain⟨bL,oL,cL,zL,hvL,hbL,-,hrL⟩:=hrow.open hil;rw[wY hdx]at hrL;have hrL:=λ{id}{k}=>(hrL rfl).1 (id:=id) (k:=k);generalize ds[i]=x at hx1 hx2 hx3 hrL;obtain⟨G1,A1,O1,vl1,vs1,vi1,v1,m1,ch1,ch2,E,F',a1,n1,us1,z1o,P1,s1,I1,f1,l1,r1,N1,hE,h7⟩:=TQ T hc F hp L.pd L.vi L.aX L.ni (by omega) (by omega) hx1 hx2 hx3 hfu;have z1:=λ{d}{k}=>z1o d k;clear z1o;obtain⟨rfl,rfl⟩:E=F'/\ch2=ch1:=by
    rcases hE with h|h;.exact⟨h.2.1,h.2.2⟩
    .exact absurd h.1 (h7 h400)
   obtain⟨fr1,own1⟩:=L.fresh.own s1 L.own;have b1:=l_ i;have b2:=m_ (i+1);have b3:=n_ i;simp only[RQ]at hrL;refine⟨(),G1,⟨A1,O1,m1,vl1,vs1,vi1,ch2,v1,a1,n1,us1,⟨P1,I1,f1,N1,fr1,own1⟩,l1.trans h400⟩,λd kx r e x⟨q0,q2,q4,q7,q10,q11,q12⟩hk=>?_⟩;rw[hvL]at q0 hsn;rw[ak];simp only[go_sem,ZE,HP,q0,q10,q11,q12,↓hsn,hn,hil,hi8,b1,b2,b3,↓hrL,↓z1];exact hk _ (by simp only[go_sem,q0,q2,q4,q7,q10,q11,hvL,and_self])) (min ds.length 8) 0 () G0 (by omega) h0;refine⟨G',min ds.length 8+1,by omega,hL,λd kx e x q0 q2 q4 q7 q10 q11 q12 hk=>?_⟩;refine z d kx fuel e x (by omega) ⟨q0,q2,q4,q7,q10,q11,q12⟩ λr e'⟨q0,q2,q4,q7,q10,q11,q12⟩=>?_;have hsn:=λ{id}{f}=>hl.row.sn (id:=id) (f:=f);rw[ak];have b1:=n_ (min ds.length 8);have fin:∀{e'},af s002 e'=v2->af s004 e'=v4->af s007 e'=.ptr dp 0->af s010 e'=.ptr vp 0->af s011 e'=.ptr p 0->kx 1 e' G'=x:=hk _;by_cases h30:ds.length<8
 .have e1:min ds.length 8=ds.length:=by omega
  have e2:¬ds.length<ds.length:=Qc _;rw[e1]at q12 b1;simp only[go_sem,HP,q0,q12,↓hsn,hn,b1,e2];exact fin q2 q4 q7 q10 q11
 .have e1:min ds.length 8=8:=by omega
  rw[e1]at q12 b1;by_cases h31:ds.length=8
  .have e2:¬8<ds.length:=by omega
   simp only[go_sem,HP,q0,q12,↓hsn,hn,b1,e2];exact fin q2 q4 q7 q10 q11
  .have e2:8<ds.length:=by omega
   simp only[go_sem,HP,q0,q12,↓hsn,hn,b1,e2,Qc];exact fin q2 q4 q7 q10 q11
theorem FF(T:aB t){G0:Heap}{v2 v7 v10 v11 v14:V}{B:Nat}{ls:List Nat}(hw:G0.wf)(gB:G0.get B=.cells (ls.map (V.int 4)))(hB:B<G0.n)(h8:ls.length=8)(hlt:∀x∈ls,x<256)(hfu:1000<fuel):∃G' v',ah G0 G'/\Own G0 G' v' 2 8 (bK (sy (lf ls) 8))/\∀(d:Nat)(kx:Nat->KE)(e:Env)(x:R),af s002 e=v2->af s004 e=.ptr B 0->af s007 e=v7->af s010 e=v10->af s011 e=v11->af s014 e=v14->af s015 e=.aC->af s016 e=.int 3 0->(∀e',af s002 e'=v2->af s007 e'=v7->af s010 e'=v10->af s011 e'=v11->af s014 e'=v14->af s015 e'=v'->kx 3 e' G'=x)->kf Q3 fuel (aT (aN Tryz.prog) t fuel (d+10)) kx fuel e G0=x:=by obtain⟨v',G',⟨f',o'⟩,z⟩:=bG (c:=Q3) (fuel:=fuel) (ph:=λd=>aT (aN Tryz.prog) t fuel (d+10)) (n:=8) (I:=λi v G=>ah G0 G/\Own G0 G v 2 i (bK (sy (lf ls) i))) (S:=λi v e=>af s002 e=v2/\af s004 e=.ptr B 0/\af s007 e=v7/\af s010 e=v10/\af s011 e=v11/\af s014 e=v14/\af s015 e=v/\af s016 e=.int 3 i) (λi v G hi⟨f,o⟩=>by
   have hil:i<ls.length:=by omega
   have hli:=YA hil;have hx:=hlt _ (YP hil);have hfi:lf ls i=ls[i]%200:=by unfold lf;rw[YD,hli];rfl
   rw[U9,hfi];have gB':=(f.same _ hB).trans gB;have hrd:=λ{id:Nat}{k:V->R}=>yf (id:=id) (k:=k) (YH gB') (show(ls.map (V.int 4))[i]?=some (.int 4 ls[i])by rw[Yq,hli];rfl) rfl;generalize ls[i]=y at hx hrd;have w:=f.wf;obtain⟨G1,z1o,f1⟩:=pT (cp:=aN Tryz.prog) (fuel:=fuel) (c:=y%200) T w (by omega) hfu;have z1:=λ{d}{k}=>z1o (d+9) k;have w1:=f1.wf;obtain⟨G2,hG2,f2,p2,n2⟩:=Heap.aR w1 (.cells [.int 3 i,.str 32 (enc (eD (y%200) 32))]);obtain⟨v',G3,hap,o3,f3,-⟩:=Own.app (w:=.aC) (x:=.slice G1.n 0 1 2 0) (sz:=2) (f.trans (f1.trans f2)) ((o.fresh f1).fresh f2) (λ{id f}=>fT p2 rfl) rfl (λz hz=>by rcases YS.1 hz with rfl|hz;rfl;rw[YM.1 hz];rfl) (by omega);have b1:=l_ i;have b2:=m_ (i+1);have b3:=n_ i;have b4:=n_ 8;have rl:∀{id}{f},gv id (.rem 256) y 200 f=f (y%200):=λ{id f}=>iF (by omega) (by omega) (by omega);refine⟨v',G3,⟨f3,o3⟩,λd kx r e x⟨q2,q4,q7,q10,q11,q14,q15,q16⟩hk=>?_⟩;rw[ak];simp only[go_sem,Q3,q4,q15,q16,hi,b1,b2,b3,b4,↓hrd,↓rl,↓z1,w1,hG2,↓hap];exact hk _ (by simp only[go_sem,q2,q4,q7,q10,q11,q14,and_self])) 8 0 .aC G0 (by omega) ⟨ah.refl hw,Own.nil⟩;refine⟨G',v',f',o',λd kx e x q2 q4 q7 q10 q11 q14 q15 q16 hk=>?_⟩;refine z d kx fuel e x (by omega) ⟨q2,q4,q7,q10,q11,q14,q15,q16⟩ λr e'⟨q2,q4,q7,q10,q11,q14,q15,q16⟩=>?_;have b4:=n_ 8;rw[ak];simp only[go_sem,Q3,q16,b4,Qc];exact hk _ q2 q7 q10 q11 q14 q15
theorem PD.row{G G':Heap}{Tb:Nat}{O':Nat->Prop}{vp:Nat}{vx:V}{row:List V}{sz k:Nat}(h:Row G (λb=>b=Tb\/PQ vp p O v b) vx sz k row)(s:Step G (PQ vp p O v) G' (PQ vp p O' v)):Row G' (λb=>b=Tb\/PQ vp p O' v b) vx sz k row:=h.cm (s.or (O:=λb=>b=Tb))
def Lm(b:Gd)(q:Nat):List V:=[.int 7 b.1,.int 7 b.2,.int 7 2,.int 7 1,.int 3 q,.int 3 8,.aC]
theorem FH(T:aB t)(hc:aP t)(F:bC pk unpk)(hp:t 110=some (.nat (dC pk)))(hu:t 85=some (.nat (eh unpk))){H0 G0:Heap}{Tb ct bx cx sx:Nat}{f:Nat->Nat}{bg:Gd}(P:PD G0 (λb=>b=Tb) dp vp p A O m vl vs vi false c v)(S0:PS pk A a n us m c f bg 0)(gT:G0.get Tb=.cells (Lm bg 0))(fr:ah H0 G0)(own:∀b,PQ vp p O v b->H0.n<=b)(hT0:H0.n<=Tb)(hX:Row G0 (λb=>b=Tb\/PQ vp p O v b) (.slice bx 0 8 cx sx) 2 8 (bK (sy f 8)))(hcx:cx=9\/cx=0/\sx=2)(hct:ct<256)(hfu:1000000<fuel):∃G' vp' A' O' m' vl' vs' vi',PD G' (λb=>b=Tb) dp vp' p A' O' m' vl' vs' vi' false c v/\PT pk A' m' c f bg 8/\ah H0 G'/\(∀b,PQ vp' p O' v b->H0.n<=b)/\Row G' (λb=>b=Tb\/PQ vp' p O' v b) (.slice bx 0 8 cx sx) 2 8 (bK (sy f 8))/\∀(d:Nat)(kx:Nat->KE)(e:Env)(x:R),af s002 e=.int 4 ct->af s007 e=.ptr dp 0->af s010 e=.ptr vp 0->af s011 e=.ptr p 0->af s014 e=.ptr Tb 0->af s015 e=.slice bx 0 8 cx sx->af s017 e=.int 3 0->
  (∀e',af s010 e'=.ptr vp' 0->af s011 e'=.ptr p 0->af s015 e'=.slice bx 0 8 cx sx->kx 5 e' G'=x)->kf uT fuel (aT (aN Tryz.prog) t fuel (d+10)) kx fuel e G0=x:=by obtain⟨vp',G',⟨A',O',m',vl',vs',vi',q,P',Z',fr',own',gT',hX'⟩,z⟩:=bG (c:=uT) (fuel:=fuel) (ph:=λd=>aT (aN Tryz.prog) t fuel (d+10)) (n:=8) (I:=λi vp G=>∃A O m vl vs vi q,PD G (λb=>b=Tb) dp vp p A O m vl vs vi false c v/\PT pk A m c f bg i/\ah H0 G/\(∀b,PQ vp p O v b->H0.n<=b)/\G.get Tb=.cells (Lm bg q)/\Row G (λb=>b=Tb\/PQ vp p O v b) (.slice bx 0 8 cx sx) 2 8 (bK (sy f 8))) (S:=λi vp e=>af s002 e=.int 4 ct/\af s007 e=.ptr dp 0/\af s010 e=.ptr vp 0/\af s011 e=.ptr p 0/\af s014 e=.ptr Tb 0/\af s015 e=.slice bx 0 8 cx sx/\af s017 e=.int 3 i) (λi vp G hi8⟨A,O,m,vl,vs,vi,q,P,Z,fr,own,gT,hX⟩=>by
   obtain⟨a,n,us,S⟩:=Z.ps hi8;have w0:=P.cO.wf;have hTn:=P.xn Tb rfl;obtain⟨G1,hG1,f1,p1,n1,w1,k1⟩:=Heap.aZ fr hT0 hTn (.cells (Lm bg (i+1)));obtain⟨P1,s1⟩:=P.put hG1;have X1:=hX.cm s1;have R1:=λ{c' z'}=>Row.agF (Q:=bz O vp) (c':=c') (z':=z') (by rw[sA];exact X1) (qg hi8) λb _ h=>YE (YE h);obtain⟨o,ho,he,hch,Z2⟩:=S.next F hi8;have htk:sS m (i+1)=⟨bg,(2,1),i+1,8,[]⟩:=by unfold sS;rw[S.b]
   have hl:m.ae.length<900:=by have:=S.len;omega
   have stg:=λ{c' z'}=>GC (y:=.aC) T hc F hp (P1.Uf S.vi) S.vi.ok S.vi.l8 (S.st.resolve_right (by omega)) (by rw[htk];exact S.okb) rfl (R1 (c':=c') (z':=z')) (by show 1<1000;omega) S.stl.1 hl hfu;have e1:o.E pk A a=0:=by unfold jB.E;rw[if_neg (by omega)];exact hch
   have e2:o.A1 pk A a=(j8 pk A a o.m1 o.bw).1:=by unfold jB.A1;rw[if_neg (by omega)]
   have e3:o.M pk A a m=o.m1:=by unfold jB.M HX;rw[if_neg (by omega),if_pos hch]
   have e4:o.L pk A a=false:=by unfold jB.L Rp;simp_all
   obtain⟨vxi,hvx,G2,O2,z2o,hd⟩:∃vxi,(vxi=.slice bx (i*2) 1 (8-i+1) 0/\cx=9\/vxi=.slice bx (i*2) 1 0 2/\cx=0/\sx=2)/\pO pk t fuel 9 G1 dp vp a A O m vl vs vi o (.func 32 []) [.ptr vp 0,.agg (Lm bg (i+1)),vxi]:=by
    rcases hcx with h|⟨h,h'⟩;.refine⟨_,YH ⟨rfl,h⟩,?_⟩;have:=stg (c':=8-i+1) (z':=0);rw[ho,htk]at this;exact this
    .refine⟨_,YE ⟨rfl,h,h'⟩,?_⟩;have:=stg (c':=0) (z':=2);rw[ho,htk]at this;exact this
   rw[e1]at z2o;rw[e2,e3,e4]at hd;have z2:=λ{d}{k}=>z2o (d+1) k;clear z2o stg R1;obtain⟨vl2,vs2,vi2,P2,s2⟩:=P1.vop hd;have X2:=PD.row X1 s2;have gT2:G2.get Tb=.cells (Lm bg (i+1)):=(s2.same Tb (P1.xn Tb rfl) λh=>h.elim (P1.xc Tb rfl) (P1.xo Tb rfl)).1.trans p1;obtain⟨fr2,own2⟩:=f1.own s2 own;clear hd s2;generalize(j8 pk A a o.m1 o.bw).1=A2 at Z2 P2;generalize o.m1=m2 at Z2 P2;obtain⟨G3,vp3,A3,O3,vl3,vs3,vi3,P3,Z3,fr3,own3,gT3,X3,z3⟩:∃G3 vp3 A3 O3 vl3 vs3 vi3,PD G3 (λb=>b=Tb) dp vp3 p A3 O3 m2 vl3 vs3 vi3 false c v/\PT pk A3 m2 c f bg (i+1)/\ah H0 G3/\(∀b,PQ vp3 p O3 v b->H0.n<=b)/\G3.get Tb=.cells (Lm bg (i+1))/\Row G3 (λb=>b=Tb\/PQ vp3 p O3 v b) (.slice bx 0 8 cx sx) 2 8 (bK (sy f 8))/\(if i=ct%8then∀(d:Nat)(k:K),aj (aT (aN Tryz.prog) t fuel (d+10)) (.func 22 []) [.ptr dp 0] G2 k=k (.cG [.ptr vp3 0,.int 3 0]) G3 else G3=G2/\vp3=vp):=by
    by_cases h:i=ct%8
    .obtain⟨a',n',us',c1,I2,hf2,hZ⟩:=Z2.vi;obtain⟨G3,O3,A3,vp3,vl3,vs3,vi3,z3o,P3,I3,hf3,hl3,hv3,s3,hn3⟩:=Jn (cp:=aN Tryz.prog) T hc F hu P2 I2 hf2 hfu;obtain⟨fr3,own3⟩:=fr2.own s3 λb hb=>own2 b (YE (YH hb));refine⟨G3,vp3,A3,O3,vl3,vs3,vi3,P3,hZ A3 I3 hf3 hl3 hv3,fr3,λb hb=>?_,(s3.same Tb (P2.xn Tb rfl) λh=>P2.xo Tb rfl (YH h)).1.trans gT2,X2.aeF s3 λb hb ho=>⟨λh=>ho (YE (YE (YH h))),λh=>?_⟩,by rw[if_pos h];exactλd k=>z3o (d+1) k⟩
     .rcases hb with hb|hb|hb;.exact own2 b (YH hb)
      .exact own3 b hb
      .rw[hb];exact Nat.le_trans fr2.n hn3
     .rcases h with h|h|h|h;.exact ho (YH h)
      .exact ho (YE (YH h))
      .exact(s3.same b hb λh=>ho (YE (YE (YH h)))).2 h
      .omega
    .exact⟨G2,vp,A2,O2,vl2,vs2,vi2,P2,Z2,fr2,own2,gT2,X2,by rw[if_neg h];exact⟨rfl,rfl⟩⟩
   have b1:=l_ i;have b2:=m_ (i+1);have b3:=n_ i;have b4:=n_ 8;have b5:=n_ 7;have b6:i+1<=8:=by omega
   have b7:¬8=i:=by omega
   have b8:ct%8%18446744073709551616=ct%8:=by omega
   have b9:i<=i+1:=by omega
   have ba:i+1-i=1:=by omega
   have bb:=l_ (i+1);have bc:=m_ i;have rc:∀{id}{f},gv id (.rem 256) ct 8 f=f (ct%8):=λ{id f}=>iF (by omega) (by omega) (by omega);simp only[Lm]at hG1 p1 z2 gT;by_cases h7:i<7
   .obtain⟨a4,n4,us4,S4⟩:=Z3.ps (by omega);obtain⟨G4,bl,z4o,P4,s4,hbl⟩:=ZQ (cp:=aN Tryz.prog) (fuel:=fuel) T hc P3 S4.vi S4.vi.s8 (by omega);obtain rfl:bl=true:=hbl (Z3.agree (by omega));have z4:=λ{d}{k}=>z4o (d+4) k;obtain⟨G5,x5,z5o,f5,o5⟩:=uO (cp:=aN Tryz.prog) (fuel:=fuel) T (P4.Uf S4.vi);have z5:=λ{d}{k}=>z5o (d+8) k;simp only[bu,Z3.tok (by omega) (by omega)]at z5;have s4':Step G3 (PQ vp3 p O3 v) G4 (PQ vp3 p O3 v):=s4.or;obtain⟨fr4,own4⟩:=fr3.own s4' own3;have gT4:G4.get Tb=.cells (Lm bg (i+1)):=(s4'.same Tb (P3.xn Tb rfl) λh=>h.elim (P3.xc Tb rfl) (P3.xo Tb rfl)).1.trans gT3;refine⟨vp3,G5,⟨A3,O3,m2,vl3,vs3,vi3,i+1,P4.fresh f5,Z3,fr4.trans f5,own4,(f5.same Tb (P4.xn Tb rfl)).trans gT4,(PD.row X3 s4').fresh f5⟩,λd kx r e x⟨q2,q7,q10,q11,q14,q15,q17⟩hk=>?_⟩;rw[ak];by_cases h:i=ct%8
    .rw[if_pos h]at z3;have z3:=λ{d}{k}=>z3 d k;rcases hvx with⟨rfl,rfl⟩|⟨rfl,rfl,rfl⟩;.simp only[go_sem,uT,q2,q7,q10,q11,q14,q15,q17,hi8,b1,b2,b3,b4,b5,b6,b7,b9,ba,bb,bc,w0,hTn,hG1,gT,p1,↓z2,↓rc,<-h,↓z3,h7,↓z4,↓z5];exact hk _ (by simp only[go_sem,q2,q7,q11,q14,q15,and_self])
     .simp only[go_sem,uT,q2,q7,q10,q11,q14,q15,q17,hi8,b1,b2,b3,b4,b5,b6,b9,ba,bb,bc,w0,hTn,hG1,gT,p1,↓z2,↓rc,<-h,↓z3,h7,↓z4,↓z5];exact hk _ (by simp only[go_sem,q2,q7,q11,q14,q15,and_self])
    .rw[if_neg h]at z3;obtain⟨rfl,rfl⟩:=z3;rcases hvx with⟨rfl,rfl⟩|⟨rfl,rfl,rfl⟩;.simp only[go_sem,uT,q2,q10,q11,q14,q15,q17,hi8,b1,b2,b3,b4,b5,b6,b7,b8,b9,ba,bb,w0,hTn,hG1,gT,p1,↓z2,↓rc,h,h7,↓z4,↓z5];exact hk _ (by simp only[go_sem,q2,q7,q10,q11,q14,q15,and_self])
     .simp only[go_sem,uT,q2,q10,q11,q14,q15,q17,hi8,b1,b2,b3,b4,b5,b6,b8,b9,ba,bb,w0,hTn,hG1,gT,p1,↓z2,↓rc,h,h7,↓z4,↓z5];exact hk _ (by simp only[go_sem,q2,q7,q10,q11,q14,q15,and_self])
   .refine⟨vp3,G3,⟨A3,O3,m2,vl3,vs3,vi3,i+1,P3,Z3,fr3,own3,gT3,X3⟩,λd kx r e x⟨q2,q7,q10,q11,q14,q15,q17⟩hk=>?_⟩;rw[ak];by_cases h:i=ct%8
    .rw[if_pos h]at z3;have z3:=λ{d}{k}=>z3 d k;rcases hvx with⟨rfl,rfl⟩|⟨rfl,rfl,rfl⟩;.simp only[go_sem,↓sh,uT,q2,q7,q10,q14,q15,q17,hi8,b1,b2,b3,b4,b5,b6,b7,b9,ba,bb,bc,w0,hTn,hG1,gT,p1,↓z2,↓rc,<-h,↓z3,h7];exact hk _ (by simp only[go_sem,q2,q7,q11,q14,q15,and_self])
     .simp only[go_sem,↓sh,uT,q2,q7,q10,q14,q15,q17,hi8,b1,b2,b3,b4,b5,b6,b9,ba,bb,bc,w0,hTn,hG1,gT,p1,↓z2,↓rc,<-h,↓z3,h7];exact hk _ (by simp only[go_sem,q2,q7,q11,q14,q15,and_self])
    .rw[if_neg h]at z3;obtain⟨rfl,rfl⟩:=z3;rcases hvx with⟨rfl,rfl⟩|⟨rfl,rfl,rfl⟩;.simp only[go_sem,↓sh,uT,q2,q10,q14,q15,q17,hi8,b1,b2,b3,b4,b5,b6,b7,b8,b9,ba,bb,w0,hTn,hG1,gT,p1,↓z2,↓rc,h,h7];exact hk _ (by simp only[go_sem,q2,q7,q10,q11,q14,q15,and_self])
     .simp only[go_sem,↓sh,uT,q2,q10,q14,q15,q17,hi8,b1,b2,b3,b4,b5,b6,b8,b9,ba,bb,w0,hTn,hG1,gT,p1,↓z2,↓rc,h,h7];exact hk _ (by simp only[go_sem,q2,q7,q10,q11,q14,q15,and_self])) 8 0 vp G0 (by omega) ⟨A,O,m,vl,vs,vi,0,P,by unfold PT;rw[if_pos (by omega)];exact⟨a,n,us,S0⟩,fr,own,gT,hX⟩;refine⟨G',vp',A',O',m',vl',vs',vi',P',Z',fr',own',hX',λd kx e x q2 q7 q10 q11 q14 q15 q17 hk=>?_⟩;refine z d kx fuel e x (by omega) ⟨q2,q7,q10,q11,q14,q15,q17⟩ λr e'⟨q2,q7,q10,q11,q14,q15,q17⟩=>?_;have b4:=n_ 8;rw[ak];simp only[go_sem,uT,q17,b4,Qc];exact hk _ q10 q11 q15
end
section
variable{t:Nat->Option dr}{fuel:Nat}{H:Heap}{pk:List UInt8->List (List UInt8)}{unpk:List (List UInt8)->Option (List UInt8)}
theorem Jm(T:aB t){G0 G:Heap}{v2 v4 v7 v10 v11 vL:V}{Tb:Nat}{m:MT}(fr:ah G0 G)(hT:G0.n<=Tb)(hTn:Tb<G.n)(gT:G.get Tb=.cells (Lm (0,0) 0))(hL:Row G (λb=>b=Tb) vL 2 m.ae.length (hU (m.ae.map (·.g))))(hn:m.ae.length<1000)(hfu:1000<fuel):∃G',ah G0 G'/\G'.n=G.n/\G'.get Tb=.cells (Lm (cz m).g 0)/\(∀j,j≠Tb->G'.get j=G.get j)/\∀(ph:dg)(kx:Nat->KE)(kn:KE)(e:Env)(x:R),af s002 e=v2->af s004 e=v4->af s007 e=v7->af s010 e=v10->af s011 e=v11->af s013 e=vL->af s014 e=.ptr Tb 0->(∀e',af s002 e'=v2->af s004 e'=v4->af s007 e'=v7->af s010 e'=v10->af s011 e'=v11->af s014 e'=.ptr Tb 0->gG aaF fuel ph e' G' kn kx=x)->gG UW fuel ph e G kn kx=x:=by
 have sL:=λ{id:Nat}{f:Nat->R}=>hL.sn (id:=id) (f:=f);have c9:=l_ m.ae.length;have b1:=n_ m.ae.length;have b2:=n_ 0;by_cases h0:m.ae.length=0;.refine⟨G,fr,rfl,by rw[ee h0];exact gT,λ_ _=>rfl,λph kx kn e x q2 q4 q7 q10 q11 q13 q14 hk=>?_⟩;simp only[go_sem,ZE,UW,q13,↓sL,h0,b2,Qc];exact hk _ q2 q4 q7 q10 q11 q14
 .obtain⟨q,hqn⟩:∃q,m.ae.length=q+1:=⟨m.ae.length-1,by omega⟩;have hqs:m.ae[q]?=some m.ae[q]:=YA (by omega);have hgi:(m.ae.map (·.g))[q]?=some m.ae[q].g:=by rw[Yq,hqs];rfl
  have hlg:(cz m).g=m.ae[q].g:=by rw[dG hqs hqn]
  obtain⟨bL,oL,cL,zL,hvL,hbL,-,hrL⟩:=hL.open (i:=q) (by omega);rw[oR hgi]at hrL;have hrL:=λ{id:Nat}{k:List V->R}=>(hrL (G:=G) rfl).1 (id:=id) (k:=k);rw[hlg];generalize m.ae[q].g=g at hrL;simp only[aY]at hrL;obtain⟨G6,hG6,f6,p6,n6,w6,k6⟩:=Heap.aZ fr hT hTn (.cells (Lm g 0));have w:=fr.wf;have h1:0<m.ae.length:=by omega
  have a1:(m.ae.length+18446744073709551615)%18446744073709551616=q:=by omega
  have a2:=l_ q;have a3:q<m.ae.length:=by omega
  subst hvL;simp only[Lm]at gT hG6;refine⟨G6,f6,n6,p6,k6,λph kx kn e x q2 q4 q7 q10 q11 q13 q14 hk=>?_⟩;simp only[go_sem,UW,q13,q14,↓sL,c9,h1,b1,b2,a1,a2,a3,↓hrL,gT,w,hTn,hG6];exact hk _ q2 q4 q7 q10 q11 q14
theorem vq(T:aB t)(hc:aP t)(F:bC pk unpk)(hp:t 110=some (.nat (dC pk)))(hu:t 85=some (.nat (eh unpk)))(hwk:t 7=some (.nat xP))(hw:H.wf){lv:V}{ds:List D3}{ls:List Nat}{ct:Nat}(hl:ua H lv ds)(h8:ls.length=8)(hlt:∀x∈ls,x<256)(hct:ct<256)(hfu:1000000<fuel)(d:Nat)(k:K)(x:R)(hx:∀H',ah H H'->k (.bool true) H'=x):aj (aT (aN Tryz.prog) t fuel (d+12)) (.func 8 []) [lv,.agg (ls.map (V.int 4)),.int 4 ct] H k=x:=by
 obtain⟨Hb,hHb,fb,pb,nb⟩:=Heap.aR hw (.cells (ls.map (V.int 4)));obtain⟨G1,G2,dp,vp,p,z1o,z2o,hL⟩:=Po T hc F hp hu fb.wf hfu;obtain⟨G3,next,hnx,⟨A,O,m,vl,vs,vi,c,v,a,n,us,L,h400⟩,z3⟩:=FG (fuel:=fuel) (v2:=.int 4 ct) (v4:=.ptr H.n 0) T hc F hp (hl.fresh fb) hL hfu;have vK:m.ae.length<1000:=by have:=L.vi.ok.num;omega
 obtain⟨G4,vL,z4o,f4,o4⟩:=rB (cp:=aN Tryz.prog) (fuel:=fuel) T (L.pd.Uf L.vi) (by omega);obtain⟨G5,z5o,f5⟩:=fO (cp:=aN Tryz.prog) (fuel:=fuel) (a:=2) (b:=1) T f4.wf;obtain⟨G6,hG6,f6,p6,n6⟩:=Heap.aR f5.wf (.cells [.int 7 0,.int 7 0,.int 7 0,.int 7 0,.int 3 0,.int 3 0,.aC]);obtain⟨G7,hG7,f7,p7,n7,w7,k7⟩:=Heap.aZ (b:=G5.n) f6 (YC _) (by omega) (.cells (Lm (0,0) 0));have hLr:Row G7 (λb=>b=G5.n) vL 2 m.ae.length (hU (m.ae.map (·.g))):=((o4.toRow (O:=λ_=>False) λb h=>h.elim).mK λb hb h=>by have:=f5.n;omega).fresh (f5.trans f7);obtain⟨G8,f8,n8,p8,k8,z8⟩:=Jm (fuel:=fuel) (v2:=.int 4 ct) (v4:=.ptr H.n 0) (v7:=.ptr dp 0) (v10:=.ptr vp 0) (v11:=.ptr p 0) (Tb:=G5.n) (m:=m) T f7 (YC _) (by omega) p7 hLr vK (by omega);have f38:=f4.trans (f5.trans f8);have P8:=L.pd.add (Tb:=G5.n) f38 (by have:=f4.n;have:=f5.n;omega) (by omega);have gB:G8.get H.n=.cells (ls.map (V.int 4)):=(f38.same _ (by have:=L.fresh.n;omega)).trans ((L.fresh.same _ (by omega)).trans pb);obtain⟨G9,va,f9,o9,z9⟩:=FF (fuel:=fuel) (v2:=.int 4 ct) (v7:=.ptr dp 0) (v10:=.ptr vp 0) (v11:=.ptr p 0) (v14:=.ptr G5.n 0) T f8.wf gB (by have:=f38.n;have:=L.fresh.n;omega) h8 hlt (by omega);have P9:=P8.fresh f9;have S0:=PS.first (f:=lf ls) L.vi L.aX h400 L.ni (by omega);obtain⟨_,_,⟨-,h⟩|⟨bx,cx,sx,rest,rfl,hbx,hcx,hbx1,hbx2⟩⟩:=id o9;.omega
 have X9:Row G9 (λb=>b=G5.n\/PQ vp p O v b) (.slice bx 0 8 cx sx) 2 8 (bK (sy (lf ls) 8)):=o9.toRow λb hb=>hb.elim (λhb=>by omega) λhb=>by have:=L.pd.lt b hb;have:=f38.n;omega
 obtain⟨Ga,vpa,Aa,Oa,ma,vla,vsa,via,Pa,Za,fra,owna,Xa,za⟩:=FH (fuel:=fuel) (ct:=ct) T hc F hp hu P9 S0 ((f9.same _ (by omega)).trans p8) (L.fresh.trans (f38.trans f9)) L.own (by have:=L.fresh.n;have:=f4.n;have:=f5.n;omega) X9 (by rcases hcx with h|h;exact YH h;exact YE ⟨h.1,h.2.1⟩) hct hfu;obtain⟨hx0,htk,hfz,aa,na,usa,Ia⟩:=Za.done;obtain⟨Gb,zbo,fb'⟩:=fO (cp:=aN Tryz.prog) (fuel:=fuel) (a:=2) (b:=1) T Pa.cO.wf;have Pb:=Pa.fresh fb';have Xb:=(Xa.fresh fb');obtain⟨Gc,vc',zco,sc,Cc⟩:=Af (cp:=aN Tryz.prog) (fuel:=fuel) (g:=(2,1)) (cs:=sy (lf ls) 8) T Pb.ch ⟨by show 2<_;omega,by show 1<_;omega⟩ (by rw[sA];exact Xb) (by rw[sA];omega) (by rw[L.vi.s8];exact abD) (by omega);obtain⟨Pc,sc'⟩:=Pb.cop sc Cc;obtain⟨Gd,bl,zdo,Pd,sd,hbl⟩:=ZQ (cp:=aN Tryz.prog) (fuel:=fuel) T hc Pc Ia Ia.s8 (by omega);obtain rfl:bl=true:=hbl Ia.ag;obtain⟨Ge,xe,zeo,fe,oe⟩:=uO (cp:=aN Tryz.prog) (fuel:=fuel) T (Pd.Uf Ia);obtain⟨Gf,zfo,ff⟩:=fO (cp:=aN Tryz.prog) (fuel:=fuel) (a:=0) (b:=0) T fe.wf;obtain⟨frc,owc⟩:=(fra.trans fb').own sc' owna;obtain⟨frd,-⟩:=frc.own sd λb hb=>owc b (YE hb);have fin:ah H Gf:=fb.trans (frd.trans (fe.trans ff));have w5:=f5.wf;have w6:=f6.wf;have b6:G5.n<G6.n:=by omega
 have z0:=λ{d:Nat}{k:K}{G:Heap}=>C7 (fuel:=fuel) hwk (cp:=aN Tryz.prog) d k G;have z1:=λ{k:K}=>z1o (d+1) k;have z2:=λ{k:K}=>z2o (d+9) k;have z4:=λ{k:K}=>z4o (d+10) k;have z5:=λ{k:K}=>z5o (d+10) k;have zb:=λ{k:K}=>zbo (d+10) k;have zc:=λ{k:K}=>zco (d+7) k;have zd:=λ{k:K}=>zdo (d+5) k;have ze:=λ{k:K}=>zeo (d+9) k;have zf:=λ{k:K}=>zfo (d+10) k;have j0:=λ{id:Nat}{k:R}=>aM hl.row.one (id:=id) (k:=k);have j1:=λ{id:Nat}{k:R}=>bT (id:=id) (k:=k) (l:=ls.map (V.int 4)) λv hv=>by obtain⟨y,-,rfl⟩:=Ye.1 hv;rfl
 have jL:=λ{id:Nat}{k:R}=>aM o4.one (id:=id) (k:=k);rw[hx0]at zc;simp only[aY]at zc;simp only[bu,htk,nY]at ze;simp only[Lm]at hG7;rw[aI T.k4 rfl rfl];simp only[go_sem,c4,adp,adq,hw,hHb,↓j1,↓z0,↓z1];simp only[go_sem,adr,ads,adt,↓z2];refine z3 (d+1) _ _ _ ?_ ?_ ?_ ?_ ?_ ?_ ?_ λe' q2 q4 q7 q10 q11=>?_;all_goals first|(simp only[go_sem];done)|skip
 simp only[go_sem,adu,adw,q10,↓z4,↓z5,w5,hG6,p6,b6,w6,hG7];refine z8 _ _ _ _ _ ?_ ?_ ?_ ?_ ?_ ?_ ?_ λe1 q2 q4 q7 q10 q11 q14=>?_;all_goals first|(simp only[go_sem,q2,q4,q7,q10,q11];done)|skip
 simp only[go_sem,aaF,Zm];refine z9 (d+1) _ _ _ ?_ ?_ ?_ ?_ ?_ ?_ ?_ ?_ λe2 q2 q7 q10 q11 q14 q15=>?_;all_goals first|(simp only[go_sem,q2,q4,q7,q10,q11,q14];done)|skip
 simp only[go_sem,Zn];refine za (d+1) _ _ _ ?_ ?_ ?_ ?_ ?_ ?_ ?_ λe3 q10 q11 q15=>?_;all_goals first|(simp only[go_sem,q2,q7,q10,q11,q14,q15];done)|skip
 simp only[go_sem,Zo,Zp,q10,q11,q15,↓zb,↓zc,↓zd,↓ze,↓zf,bB,bU,cW];exact hx _ fin
end
end Go.Ev
end
section
namespace Go.Ev
open Go.Deep Go.ChangeShapes Go.WideShapes Go.RowKit
section
variable{H:Type}{enc:TypeId×Value->H}{P:Program}{w:World}
theorem Ck{r:Reach}{base n:Nat}{t e:TypeId}{v:Value}(ht:P.underlying t=some (.array n e))(h:Value.okWide P w r base t v):∃cs,v=.agg cs:=by simp only[Value.okWide,ht]at h;obtain⟨cs,rfl,-⟩:=h;exact⟨cs,rfl⟩
def ZZ(l:List Int):List Nat:=l.map λa=>(a%(2^IntKind.u8.bits:Nat):Int).toNat
theorem T5{t e:TypeId}{n fuel:Nat}{cs:List Value}{x:DataW H×List MemPlace}(ht:P.underlying t=some (.array n e))(hz:P.cellsOf t=n)(he:P.cellsOf e=1)(hu:P.underlying e=some (.int .u8))(h:DataW.trod enc P w 0 (λ_=>true) true fuel t cs=some x):∃l:List Int,l.length=n/\cs=l.map (Value.int .u8)/\∀a∈l,(Lit.int .u8 a).wf=true:=by
 obtain⟨ys,m,_,_,hl,hyl,hel⟩:=DataW.trod_array ht h;have each:∀i,i<n->∃a:Int,cs[i]?=some (.int .u8 a)/\(Lit.int .u8 a).wf=true:=λi hi=>by
  have h1:=hel i hi;rw[he,Nat.mul_one]at h1;have hc:i<cs.length:=by omega
  have h2:(cs.drop i).take 1=[cs[i]]:=by rw[List.drop_eq_getElem_cons hc];rfl
  rw[h2,YA (by omega)]at h1;obtain⟨a,r0,_,w0⟩:=DataW.trod_int hu h1;simp at r0;exact⟨a,by rw[YA hc,r0],w0⟩
 obtain⟨p,hp⟩:=choose_lt each;refine⟨(WV n).map p,by simp,List.ext_getElem? λi=>?_,λa ha=>?_⟩
 .rw[List.map_map,Yq];by_cases hi:i<n;.rw[(hp i hi).1,List.getElem?_range hi];rfl
  .rw[WJ (by omega),WJ (by simp;omega)];rfl
 .obtain⟨i,hi,rfl⟩:=Ye.1 ha;exact(hp i (QD.1 hi)).2
theorem Ln:∀{l:List Int},(∀a∈l,(Lit.int .u8 a).wf=true)->bZ (mu (uF w) (ft w) w) ((ZZ l).map (V.int 4)) (l.map (Value.int .u8))|[],_=>by simp only[ZZ,List.map_nil,bZ]|a::l,h=>by have h1:=h a (YL ..);have i1:=CU w (.int .u8 a) (by rw[nA h1];rfl);rw[nA h1]at i1;simp only[VR]at i1;have h2:=Ln (l:=l) λb hb=>h b (YI _ hb);simp only[ZZ]at h2;simp only[ZZ,List.map_cons,bZ,VR];exact⟨_,_,rfl,i1,h2⟩
theorem Xz{l:List Int}:(ZZ l).length=l.length:=by simp[ZZ]
theorem abX{l:List Int}:∀x∈ZZ l,x<256:=λx h=>by obtain⟨a,-,rfl⟩:=Ye.1 h;exact yx
end
end Go.Ev
end
