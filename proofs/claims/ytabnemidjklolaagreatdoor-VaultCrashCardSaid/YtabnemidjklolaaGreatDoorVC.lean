/- VC: a part of the evaluator,of its logic,or of the laws' walk in it. -/
import Derived.Test.YtabnemidjklolaaGreatDoorVB
import Derived.Test.YtabnemidjklolaaGreatDoorLC
import Derived.OpenShut
open List renaming getElem?_eq_getElem→YA,length_append→YB,getD_eq_getElem?_getD→YG,length_cons→YH,mem_cons_of_mem→YI,nil_append→YJ,mem_singleton→YK,cons_append→YL,mem_cons_self→YM,mem_cons→YN,map_cons→YP,getElem?_eq_some_iff→YQ,getElem_mem→YT,mem_map→YW,append_nil→YX,eq_nil_of_length_eq_zero→YY,map_nil→YZ,mem_of_getElem?→Yb,replicate→Yc,length_map→Yg,take_of_length_le→Yk,mem_append→Yl,getElem?_append_right→Ym,getElem?_append_left→Yp,getElem?_map→Yq,length_take→Yv,getElem?_take→Yy,map_append→Yz,append_assoc→WA,getElem?_drop→WB,length_drop→WJ,mem_of_mem_take→WK,flatten_cons→WL,mem_append_left→WS,getElem?_eq_none→WT,length_replicate→WW,range→WY,length_pos_iff→Wc,getElem?_of_mem→Wg,map_replicate→Wh,length_set→Wj,take_append_of_le_length→Wm,mem_or_eq_of_mem_set→Wn,mem_filter→Wt,drop_zero→Wz,nodup_append→QC,drop_append_of_le_length→QD,findIdx?_eq_some_iff_getElem→QM,nodup_nil→QP,map_congr_left→QT,mem_range→QZ,ext_getElem?→Qa,drop_drop→Qg,take_add_one→Qp,take_left'→Qy,set_append_right→YA0,getElem?_set→YA2,take_take→YA4,count_eq_zero→YE1,mem_replicate→YE2,map_set→YF1,nodup_range→YK1,replicate_succ'→YN4,findIdx?_cons→YP4,take_sublist→YR0
open Nat renaming le_refl→YC,lt_of_lt_of_le→YE,beq→YR,zero_le→Ya,le_trans→Yr,zero_add→WG,mod_eq_of_lt→WH,add_zero→WN,add_mul→Wi,add_sub_cancel→Wp,sub_zero→Wx,zero_mul→QG,sub_self→QH,le_of_lt→Qe,lt_irrefl→YD2,le_of_eq→YR1
open Or renaming inr→YD,inl→YF
open Option renaming getD_some→YU,getD_none→Wv
open Bool renaming false_eq_true→YV,not_true→WZ,true_eq_false→Qi,and_true→YD1
set_option linter.unusedVariables false
set_option linter.unusedSimpArgs false
set_option linter.unusedSectionVars false
set_option maxHeartbeats 8000000
open Nat renaming reduceLT→ZE
section
namespace Go.Ev
structure Rn(A:AD)(ss:List (List UInt8)):Prop where at_:∀i(h:i<ss.length),A.read (145+i)=tx ss[i]
section
variable{cp:RC->au}{t:Nat->Option du}{fuel:Nat}{H:Heap}{O:Nat->Prop}{pk:List UInt8->List (List UInt8)}{unpk:List (List UInt8)->Option (List UInt8)}
theorem Lf(T:aB t)(hc:aM t)(hu:t 85=some (.nat (eE unpk))){dp:Nat}{A:AD}{ss:List (List UInt8)}{tt:List UInt8}(hD:cB H dp A O)(ho:A.off=false)(hA:193<=A.len)(hA2:A.len<=1024)(hn:ss.length<=48)(h0:ss≠[])(h32:∀s∈ss,s.length=32)(hT:Rn A ss)(hs:∀k,k<ss.length->unpk (ss.take k)=none)(hb:unpk ss=some tt)(hfu:1000<fuel):∃H',(∀(d:Nat)(k:K),aj (aS cp t fuel (d+4)) (.func 82 []) [.ptr dp 0] H k=k (.cG [tv tt,.int 3 0]) H')/\ah H H':=by
 have hl0:=Wc.2 h0;have n48:=n_ 48;have rd:∀(i)(v)(G),i<ss.length->ah H G->Gr H G v 1 i ((ss.take i).map tv)->∃v' G',ah H G'/\Gr H G' v' 1 (i+1) ((ss.take (i+1)).map tv)/\∀(d)(kx)(kn)(e)(x),af s000 e=.ptr dp 0->af s004 e=v->(unpk (ss.take (i+1))=none->∀e',af s000 e'=.ptr dp 0->af s004 e'=v'->kn e' G'=x)->(unpk (ss.take (i+1))=some tt->∀e',af s002 e'=tv tt->af s003 e'=.int 3 0->kx 0 e' G'=x)->(unpk (ss.take (i+1))=none\/unpk (ss.take (i+1))=some tt)->gH Lz fuel (aS cp t fuel (d+3)) e G kn kx=x:=by
  intro i v G hil f g;have hrd:=hT.at_ i hil;have h32i:=h32 _ (YT hil);have htk:ss.take (i+1)=ss.take i++[ss[i]]:=by rw[Qp,YA hil];rfl
  obtain⟨G1,z1,f1⟩:=qm (cp:=cp) (fuel:=fuel) (a:=145+i) (T.jJ hc) (hD.fresh f) ho (by omega);have z1:=λ{d}{k}=>z1 d k;rw[hrd,abv]at z1;generalize ss[i]=s at htk z1 h32i;have w1:=f1.wf;obtain⟨G2,hG2,f2,p2,n2⟩:=Heap.aV w1 (.cells [tv s]);obtain⟨v',G3,hap,g3,f3,-,-⟩:=Gr.app (cx:=2) (sx:=0) (f.trans (f1.trans f2)) ((g.fresh f1).fresh f2) p2 rfl (λz hz=>by rw[YK.1 hz];rfl) (by omega);have hrow:(ss.take (i+1)).map tv=(ss.take i).map tv++[tv s]:=by rw[htk,Yz];rfl
  rw[<-hrow]at g3;have hsn:=λ{id}{f}=>g.sn (id:=id) (f:=f);refine⟨v',G3,f3,g3,λd kx kn e x q0 q4 hkn hkx hor=>?_⟩;have a1:=n_ i;have a2:=l_ i;have a3:i<48:=by omega
  have a4:=m_ (145+i);have i1:=λ{id}{k}=>aP g3.one (id:=id) (k:=k);have w3:=f3.wf;obtain⟨-,-,⟨-,g3'⟩|⟨b,c,sz,rfl,-,-,gb,-,-⟩⟩:=g3;.omega
  have hcl:∀{k},aj (aS cp t fuel (d+3)) (.func 170 []) [.slice b 0 (i+1) c sz] G3 k=k (Q0 (unpk (ss.take (i+1)))) G3:=λ{k}=>by rw[mS hu rfl rfl,YX,vX gb (by rw[Yv];omega) (by omega) (λx hx=>by rw[h32 x (WK hx)];omega)]
  simp only[tv]at z1 hG2;rcases hor with hor|hor
  .rw[hor]at hcl;simp only[go_sem,Lz,q0,q4,↓hsn,a1,a2,a3,a4,n48,↓z1,w1,hG2,↓hap,↓hcl];refine hkn hor _ ?_ ?_;.exact q0
   .rfl
  .rw[hor]at hcl;simp only[go_sem,Lz,q0,q4,↓hsn,a1,a2,a3,a4,n48,↓z1,w1,hG2,↓hap,↓hcl];refine hkx hor _ ?_ ?_;.simp only[go_sem,tv]
   .rfl
 obtain⟨n,hn'⟩:∃n,ss.length=n+1:=⟨ss.length-1,by omega⟩;obtain⟨v1,G1,⟨f1,g1⟩,z1⟩:=bK (n:=n) (I:=λi v G=>ah H G/\Gr H G v 1 i ((ss.take i).map tv)) (S:=λi v e=>af s000 e=.ptr dp 0/\af s004 e=v) (λi v G hin⟨f,g⟩=>by obtain⟨v',G',f',g',z⟩:=rd i v G (by omega) f g;refine⟨v',G',⟨f',g'⟩,λd kx r e x⟨q0,q4⟩hk=>?_⟩;rw[ak];have hno:=hs (i+1) (by omega);exact z d kx _ e x q0 q4 (λ_ e' q0 q4=>hk e' ⟨q0,q4⟩) (λh=>by rw[hno]at h;cases h) (YF hno)) n 0 .aE H (by omega) ⟨ah.refl hD.wf,Gr.aE⟩;obtain⟨v2,G2,f2,g2,z2⟩:=rd n v1 G1 (by omega) f1 g1;have hfull:unpk (ss.take (n+1))=some tt:=by rw[Yk (by omega)];exact hb
 refine⟨G2,λd k=>?_,f2⟩;rw[aI T.k41 rfl rfl];simp only[go_sem,c41,aaX,aaY];refine z1 d _ fuel _ _ (by omega) ⟨?_,?_⟩ λr e'⟨q0,q4⟩=>?_;.rfl
 .rfl
 rw[ak];refine z2 d _ _ e' _ q0 q4 (λh=>by rw[hfull]at h;cases h) (λ_ e'' q2 q3=>?_) (YD hfull);simp only[go_sem,q2,q3]
set_option maxRecDepth 4000in theorem Ae(T:aB t)(hc:aM t)(F:bH pk unpk)(hu:t 85=some (.nat (eE unpk))){dp a n:Nat}{A:AD}{us:List Wr}{m:MT}(hD:cB H dp A O)(C:iW A pk a n us)(h0:(A.recover n us).2=0)(ho:(A.recover n us).1.off=false)(hA:193<=(A.recover n us).1.len)(hA2:(A.recover n us).1.len<=1024)(Y:gG m m.live.length (A.recover n us).1.len)(Z:kf m)(hT:Rn (A.recover n us).1 (pk (bz (oR m))))(hfu:1000000<fuel):∃H' O' vp vl vs vi,(∀(d:Nat)(k:K),aj (aS cp t fuel (d+9)) (.func 22 []) [.ptr dp 0] H k=k (.cG [.ptr vp 0,.int 3 0]) H')/\Step H O H' O'/\cB H' dp (A.recover n us).1 O'/\H'.get vp=.cells (vc m vl vs vi dp false)/\vp<H'.n/\¬O' vp/\H.n<=vp/\kK H' (bg O' vp) m vl vs vi/\∀X:Nat->Prop,(∀b,X b->b<H.n)->kK H' (λb=>X b\/bg O' vp b) m vl vs vi:=by
 obtain⟨G1,O1,z1,s1,D1⟩:=DO (cp:=cp) (fuel:=fuel) T hc F hu hD C (by omega);rw[h0]at z1;have z1:=λ{d}{k}=>z1 (d+1) k;generalize hB:(A.recover n us).1=B at ho hA hA2 Y hT D1⊢;have htl:=Y.text hA2;have hsz:=F.size (bz (oR m)) (by omega);obtain⟨G2,z2,f2⟩:=Lf (cp:=cp) (fuel:=fuel) T hc hu D1 ho hA hA2 (by omega) (F.pos _ (by omega)) (F.len _ (by omega)) hT (λk hk=>F.short _ k (by omega) hk) (F.back _ (by omega)) (by omega);have z2:=λ{d}{k}=>z2 (d+4) k;have D2:=D1.fresh f2;obtain⟨G3,vl,vs,vi,z3,f3,hM⟩:=FO (cp:=cp) (fuel:=fuel) T f2.wf (Y.mono hA2) Z (by omega);have z3:=λ{d}{k}=>z3 d k;have M3:=hM O1 (λb hb=>D2.lt b hb);have M3a:=hM (λb=>b<G2.n) (λb hb=>hb);have w3:=f3.wf;have D3:=D2.fresh f3;obtain⟨G4,hG4,f4,p4,n4⟩:=Heap.aV w3 (.cells [.aE,.aE,.int 7 0,.int 7 0,.int 7 0,.int 7 0,.int 3 0,.int 3 0,.aE]);have b4:G3.n<G4.n:=by omega
 have w4:=f4.wf;obtain⟨G5,hG5,f5,p5,n5,w5,k5⟩:=Heap.bq f4 (YC _) b4 (.cells (aW m vl vs vi));have D5:=D3.fresh f5;have M5:=M3.fresh f5;have wm5:G5.mark.wf:=by exact w5
 obtain⟨G6x,G6,z6,hu6,hl6,f6⟩:=ri ⟨G5.mark,λd k=>tK (cp:=cp) (fuel:=fuel) (T.jJ hc) (D5.fresh (ah.Hc w5)),ah.refl wm5⟩;have z6:=λ{d}{k}=>z6 (d+7) k;have w6:=f6.wf;have M6:=M5.fresh f6;obtain⟨G7,z7,f7⟩:=vW (cp:=cp) (fuel:=fuel) (blocks:=m.live.length) (n:=B.len) T w6 M6 Z (by have:=Z.live.1;unfold nn;omega) (by unfold nn;omega) (by omega);have z7:=λ{d}{k}=>z7 (d+3) k;rw[Mu.2 Y]at z7;have w7:=f7.wf;have M7:=M6.fresh f7;have f57:=f6.trans f7;have p7:=(f57.same _ (by omega)).trans p5;obtain⟨G8,hG8,f8,p8,n8⟩:=Heap.aV w7 (.cells (vc m vl vs vi dp false));have D8:=(D5.fresh f57).fresh f8;have hlt:=D1.lt;have f18:=f2.trans (f3.trans (f5.trans (f57.trans f8)));have m2:=f2.n;have m3:=f3.n;have m57:=f57.n;have sl:=λ{id}{f}=>M3.live.sn (id:=id) (f:=f);have ll:m.live.length<9223372036854775808:=by have:=Z.live.1;omega
 have j1:=λ{id}{k}=>aP M3.live.one (id:=id) (k:=k);have j2:=λ{id}{k}=>aP (let⟨_,h,_⟩:=M3.ae;h.one) (id:=id) (k:=k);have j3:=λ{id}{k}=>aP M3.bT.one (id:=id) (k:=k);refine⟨G8,O1,G7.n,vl,vs,vi,λd k=>?_,s1.trans f18.step,D8,p8,by omega,λh=>by have:=hlt _ h;omega,by have:=s1.n;omega,(M7.qA λb hb h=>h.elim id λe=>by omega).fresh f8,λX hX=>(((M3a.fresh f5).fresh f57).qA λb hb h=>by
  have hs1:=s1.n;rcases h with h|h|h;.have:=hX b h;omega
  .exact D2.lt b h
  .omega).fresh f8⟩;simp only[aW,bE,tv]at z2 z3 hG5 p5 p7 z7;simp only[vc,aW,bE,YL,YJ]at hG8;rw[aI T.k11 rfl rfl];simp only[go_sem,c11,aat,aau,aav,aaw,↓z1,↓z2];simp only[go_sem,aax,↓z3,w3,hG4,p4,b4,w4,↓j1,↓j2,↓j3,hG5];simp only[go_sem,aay,p5,↓sl,ll,↓z6,hu6,hl6,↓z7];simp only[go_sem,aaz,aaA,p7,w7,↓j1,↓j2,↓j3,hG8]
end
def GD(ss:List (List UInt8)):Nat->List Wr|0=>[]|i+1=>GD ss i++[(145+i,tx (ss.getD i []))]
theorem wZ(ss):∀i,(GD ss i).length=i|0=>rfl|i+1=>by simp only[GD,YB,wZ ss i];rfl
theorem Dg{ss}:∀{i}{w},w∈GD ss i->∃j,j<i/\w=(145+j,tx (ss.getD j []))
 |0,w,h=>by cases h|i+1,w,h=>by
  rcases Yl.1 h with h|h;.obtain⟨j,hj,e⟩:=Dg h;exact⟨j,by omega,e⟩
  .exact⟨i,by omega,YK.1 h⟩
theorem Ud{ss}:∀{i j},j<i->((145+j,tx (ss.getD j [])):Wr)∈GD ss i
 |0,j,h=>by omega|i+1,j,h=>by
  simp only[GD];by_cases hj:j=i;.simp_all
  .exact WS _ (Ud (by omega))
theorem uE{ss}:∀i,((GD ss i).map (·.1)).Nodup|0=>QP|i+1=>by simp only[GD,Yz];refine QC.2 ⟨uE i,by simp,λx hx y hy=>?_⟩;obtain⟨w,hw,rfl⟩:=YW.1 hx;obtain⟨j,hj,rfl⟩:=Dg hw;rw[YK.1 (by simp_all:y∈[145+i])];omega
def mz(b:Nat):MT:=⟨Yc b 0,[],sH⟩
theorem yS(b):(mz b).live.length=b:=WW
theorem Zd(b):nz (Yc b 0)=[]:=by unfold nz;simp
theorem Ut{b n}(h1:1<=b)(h2:b<=8):gG (mz b) b n:=⟨⟨h1,h2,yS b,λp hp=>YF (YE2.1 hp).2,by show(nz (Yc b 0)).Nodup;rw[Zd];simp⟩,Ya _,trivial,by exact⟨rfl,rfl,rfl,rfl⟩⟩
theorem Uu{b}(h2:b<=8):kf (mz b):=⟨⟨by rw[yS];omega,λp hp=>by rw[(YE2.1 hp).2];unfold nn;omega⟩,by show 0<1000;omega,λs hs=>(by cases hs),ko⟩
section
variable{cp:RC->au}{t:Nat->Option du}{fuel:Nat}{H:Heap}{O:Nat->Prop}{pk:List UInt8->List (List UInt8)}{unpk:List (List UInt8)->Option (List UInt8)}
theorem OK(T:aB t){vS:V}{dp:Nat}{ss:List (List UInt8)}(hw:H.wf)(hS:Row H O vS 1 ss.length (ss.map tv))(hn:ss.length<1000)(hfu:1000<fuel):∃G' v',ah H G'/\Gr H G' v' 2 ss.length (bX (GD ss ss.length))/\∀(d:Nat)(kx:Nat->KE)(e:Env)(x:R),af s000 e=.ptr dp 0->af s010 e=.aE->af s051 e=vS->af s052 e=.int 3 ss.length->af s053 e=.int 3 0->(∀e',af s000 e'=.ptr dp 0->af s010 e'=v'->kx 2 e' G'=x)->kq EV fuel (aS cp t fuel d) kx fuel e H=x:=by
 have nl:=n_ ss.length;obtain⟨v',G',⟨f',g'⟩,z⟩:=bK (c:=EV) (I:=λi v G=>ah H G/\Gr H G v 2 i (bX (GD ss i))) (S:=λi v e=>af s000 e=.ptr dp 0/\af s010 e=v/\af s051 e=vS/\af s052 e=.int 3 ss.length/\af s053 e=.int 3 i) (λi v G hil⟨f,g⟩=>by
   obtain⟨b,o,c,z,rfl,hbn,-,hrd⟩:=Row.open hS hil;have hrd:=λ{id}{k}=>(hrd (f.same _ hbn)).2 (x:=tv ss[i]) (by simp[hil]) (id:=id) (k:=k);rw[Nat.mul_one]at hrd;have hst:GD ss (i+1)=GD ss i++[(145+i,tx ss[i])]:=by simp only[GD,YG,YA hil,YU]
   generalize ss[i]=s at hrd hst;simp only[tv]at hrd;have w0:=f.wf;obtain⟨G1,hG1,f1,p1,n1⟩:=Heap.aV w0 (.cells [.int 3 (145+i),.str s.length (enc s)]);obtain⟨v',G2,hap,g2,f2,-,-⟩:=Gr.app (cx:=2) (sx:=0) (f.trans f1) (g.fresh f1) p1 rfl (λz hz=>by rcases YN.1 hz with rfl|hz;rfl;rw[YK.1 hz];rfl) (by omega);have a1:=n_ i;have a2:=l_ i;have a3:=m_ (i+1);have a4:=m_ (145+i);refine⟨v',G2,⟨f2,by rw[hst,dY];exact g2⟩,λd kx r e x⟨q0,q10,q51,q52,q53⟩hk=>?_⟩;rw[ak];simp only[go_sem,EV,q10,q51,q52,q53,hil,nl,a1,a2,a3,a4,↓hrd,w0,hG1,↓hap];refine hk _ ?_;simp only[go_sem,q0,q51,q52,and_self]) ss.length 0 .aE H (by omega) ⟨ah.refl hw,Gr.aE⟩;refine⟨G',v',f',g',λd kx e x q0 q10 q51 q52 q53 hk=>z d kx fuel e x (by omega) ⟨q0,q10,q51,q52,q53⟩ λr e'⟨q0,q10,q51,q52,q53⟩=>?_⟩;have e6:¬ss.length<ss.length:=by omega
 rw[ak];simp only[go_sem,EV,q52,q53,nl,e6];exact hk _ q0 q10
set_option maxRecDepth 4000in theorem Ei(T:aB t)(hc:aM t)(F:bH pk unpk)(hp:t 110=some (.nat (dO pk))){H0:Heap}{dp b n r:Nat}(h1:193<=n)(h2:n<=1024)(hr:n<=r)(b1:1<=b)(b2:b<=8)(fr:ah H0 H)(hD:cB H dp ⟨n,r,0,false,[],[]⟩ O)(own:∀b,O b->H0.n<=b)(hfu:1000000<fuel):∃H' A' O',(∀(d:Nat)(k:K),aj (aS cp t fuel (d+8)) (.func 40 []) [.ptr dp 0,.int 3 b] H k=k (.int 3 0) H')/\ah H0 H'/\cB H' dp A' O'/\(∀b,O' b->H0.n<=b)/\(∃a n us,JD pk A' a n us)/\A'.aT=0/\A'.len=n/\A'.room=r/\Rn A' (pk (bz (oR (mz b)))):=by
 generalize hF0:(⟨n,r,0,false,[],[]⟩:AD)=F0 at hD;have e0:F0.len=n:=by rw[<-hF0]
 have e1:F0.off=false:=by rw[<-hF0]
 have e2:F0.aT=0:=by rw[<-hF0]
 have e3:F0.es=[]:=by rw[<-hF0]
 have e4:F0.us=[]:=by rw[<-hF0]
 have e5:F0.room=r:=by rw[<-hF0]
 obtain⟨G1,O1,z1,s1,D1⟩:=Gj (cp:=cp) (fuel:=fuel) T hc hD e1 (by omega) (by omega) (by rw[e3];decide) (by rw[e4];decide) (YD (by rw[e3,e5];show 0<r;omega)) (by omega);obtain⟨J,j2,j3,j4⟩:=JD.start (pk:=pk) (by omega) (by omega) e1 (by rw[e3];exact eP.nil) e2;rw[j3]at z1;obtain⟨q1,q2,q3,q4⟩:=j4;generalize(F0.runs [[(0,tx (fF 0 0))]]).1=B at D1 J j2 q1 q2 q3 q4;have hl:=q1.trans e0;have hrr:=q2.trans e5;obtain⟨fr1,own1⟩:=fr.own s1 own;have w1:=fr1.wf;have z1:=λ{d}{k}=>z1 d k;obtain⟨G2,f2,o2,-,n2,z2⟩:=uK (x:=.int 3 0) (n:=b) rfl w1 rfl (by omega) (YC _) (a:=.s s040);have M2:kK G2 (λ_=>False) (mz b) (.slice G1.n 0 b (b+1) 0) .aE .aE:=⟨by have:=o2.toRow (O:=λ_=>False) (λb h=>h.elim);unfold cP;rw[yS];show Row G2 _ _ 1 b ((Yc b 0).map (V.int 3));rw[Wh];exact this,⟨[],⟨rfl,λx hx=>(by cases hx),YF ⟨YF rfl,rfl⟩⟩,rfl,λi s h=>(by cases i<;>cases h)⟩,⟨rfl,λx hx=>(by cases hx),YF ⟨YF rfl,rfl⟩⟩⟩;have hYok:gG (mz b) (mz b).live.length 1024:=by rw[yS];exact Ut b1 b2
 have henc:=hYok.enc;have htl:=hYok.text (YC _);obtain⟨G3,vS,z3,f3,hv1,hS⟩:=zV (cp:=cp) (fuel:=fuel) T F hp f2.wf M2 (Uu b2) (by omega);rw[henc]at z3 hS;have hS:=hS rfl;simp only at hS;have z3:=λ{d}{k}=>z3 d k;have hsz:=F.size (bz (oR (mz b))) (by omega);have h32:=F.len (bz (oR (mz b))) (by omega);have hpos:=F.pos (bz (oR (mz b))) (by omega);generalize pk (bz (oR (mz b)))=ss at hS hsz h32 hpos⊢;have hss:=by omega
 obtain⟨G4,vw,f4,g4,z4⟩:=OK (fuel:=fuel) (dp:=dp) T f3.wf (hS.toRow (O:=λ_=>False) (λb h=>h.elim)) (by omega) (by omega);have f24:=f2.trans (f3.trans f4);have hmem:∀w∈GD ss ss.length,145<=w.1/\w.1<n/\w.2.1=32/\tM w.2:=λw hw=>by obtain⟨j,hj,rfl⟩:=Dg hw;have:(ss.getD j []).length=32:=h32 _ (by rw[YG,YA hj];exact YT _);exact⟨by show 145<=145+j;omega,by show 145+j<n;omega,this,jj _⟩
 have hwsAt:nN G4 vw (GD ss ss.length) O1:=by
  obtain⟨p1,p2,⟨p3,p4⟩|⟨b,c,s,p3,p4,p5,p6,p7,p8⟩⟩:=g4;.exact absurd (YY p4) hpos
  .exact YD ⟨b,c,s,by rw[wZ];exact p3,p6,p8,λhb=>by have:=D1.lt b hb;have:=f2.n;have:=f3.n;omega⟩
 have D4:=D1.fresh f24;obtain⟨G5,O5,z5,s5,D5⟩:=vF (cp:=cp) (fuel:=fuel) T hc F hp D4 J.AM.can hwsAt (λw hw=>⟨by have:=(hmem w hw).2.1;omega,by rw[(hmem w hw).2.2.1];omega,(hmem w hw).2.2.2⟩) (by rw[wZ];omega) (by omega);have z5:=λ{d}{k}=>z5 d k;have hok:=λw hw=>(hmem w hw).2.2.2;have hcode:=J.code F j2 (by omega) hok;have hdid:=J.dm F j2 hok;have hmay:gm B.len [] (GD ss ss.length)=true:=Dt (λw hw=>⟨⟨(hmem w hw).1,by rw[hl];exact(hmem w hw).2.1,(hmem w hw).2.2.1⟩,λh=>(by cases h)⟩) (uE _);have h0:(B.dm pk 0 (GD ss ss.length)).2=0:=by rw[hcode];unfold Ev.code;rw[wZ,hmay];have:=Wc.2 hpos;rw[if_neg (by omega),if_neg (by omega),if_neg (by simp)]
 rw[h0]at z5;obtain⟨fr5,own5⟩:=(fr1.trans f24).own s5 own1;refine⟨G5,_,O5,λd k=>?_,fr5,D5,own5,hdid.jd,hdid.aT,hdid.len.trans hl,hdid.room.trans hrr,⟨λi hi=>?_⟩⟩
 .have hL:∀{d}{k},aj (aS cp t fuel (d+1)) (.func 88 []) [.ptr dp 0] H k=k (.int 3 n) H:=λ{d k}=>by rw[tK (T.jJ hc) hD,e0]
  have c1:=n_ n;have c2:=n_ b;have c3:=n_ 193;have c4:=n_ 1;have c5:=n_ 8;have c6:¬n<193:=by omega
  have c7:¬b<1:=by omega
  have c8:¬8<b:=by omega
  have ssn:=λ{id}{f}=>hS.sn (id:=id) (f:=f);have c9:=l_ ss.length;simp only[aW,bE,mz,sH]at z3;rw[aI T.k20 rfl rfl];simp only[go_sem,c20,aaO,↓hL,c1,c2,c3,c4,c5,c6,c7,c8];simp only[go_sem,aaP,aaQ,↓z1,↓z2,↓z3];simp only[go_sem,aaR,aaS,aaT,↓ssn,c9];refine z4 (d+7) _ _ _ ?_ ?_ ?_ ?_ ?_ λe' q0 q10=>?_;.rfl
  .rfl
  .rfl
  .rfl
  .rfl
  simp only[go_sem,aaU,aaV,q0,q10,↓z5]
 .have hy:=(hdid.yes h0).1 (145+i) (by omega);have hin:=Ud (ss:=ss) hi;have:=cz (es:=B.es) (uE ss.length) hin;rw[AD.read,hy,this,YG,YA hi];rfl
end
structure Cn where
 jB:List Tx
 g:Gd
 hid:Bool
structure CH where
 live:List Tx
 size:Nat
 ae:List Cn
def zT(n:Nat):List Tx:=Yc n (32,0)++Yc (8-n) (0,0)
theorem mH{n}(h:n<=8):(zT n).length=8:=by unfold zT;simp_all
def dq(c:Cn):List V:=c.jB.map sv++[.int 7 c.g.1,.int 7 c.g.2,.bool c.hid]
def dW(l:List Cn):List V:=l.flatMap dq
structure Ew(c:CH):Prop where
 l8:c.live.length=8s1:1<=c.size
 s8:c.size<=8n:c.ae.length<1000v8:∀s∈c.ae,s.jB.length=8g:∀s∈c.ae,kP s.g
theorem gD{α:Type}{l:List α}(h:l.length=8):∃x0 x1 x2 x3 x4 x5 x6 x7,l=[x0,x1,x2,x3,x4,x5,x6,x7]:=by rcases l with _|⟨x0,_|⟨x1,_|⟨x2,_|⟨x3,_|⟨x4,_|⟨x5,_|⟨x6,_|⟨x7,_|⟨x8,l⟩⟩⟩⟩⟩⟩⟩⟩⟩<;>simp at h;simp
theorem jg{c}(h:c.jB.length=8):(dq c).length=11:=by unfold dq;simp_all
theorem ux:∀{l},(∀s∈l,s.jB.length=8)->(dW l).length=l.length*11|[],_=>rfl|s::l,h=>by show(dq s++dW l).length=_;rw[YB,ux λt ht=>h t (YI _ ht),jg (h s (YM ..)),YH];omega
theorem pP:∀{l}{i}{s},(∀s∈l,s.jB.length=8)->l[i]?=some s->((dW l).drop (i*11)).take 11=dq s|[],i,s,_,h=>by simp_all|a::l,0,s,h8,h=>by simp at h;subst h;show((dq a++dW l).drop (0*11)).take 11=_;rw[QG,Wz,Qy (jg (h8 _ (YM ..)))]|a::l,i+1,s,h8,h=>by have:=pP (λt ht=>h8 t (YI _ ht)) (by simpa using h);show((dq a++dW l).drop ((i+1)*11)).take 11=_;rw[show(i+1)*11=(dq a).length+i*11by rw[jg (h8 _ (YM ..))];omega,<-Qg,List.drop_left' rfl];omega
theorem On(a b):dW (a++b)=dW a++dW b:=List.flatMap_append
theorem Om(c):∀y∈dq c,y.one=true:=λy hy=>by
 rcases Yl.1 hy with hy|hy;.obtain⟨x,_,rfl⟩:=YW.1 hy;rfl
 .rcases YN.1 hy with rfl|hy;.rfl
  .rcases YN.1 hy with rfl|hy;.rfl
   .rw[YK.1 hy];rfl
def hZ:Heap:=.mk 0 0 .e
def nK(c:CH)(v:V):List V:=c.live.map sv++[.int 3 c.size,v]
structure iO(H:Heap)(cp:Nat)(c:CH)(v:V):Prop where
 wf:H.wf
 get:H.get cp=.cells (nK c v)cn:cp<H.n
 own:Own hZ H v 11 c.ae.length (dW c.ae)off:iP v cp
 ok:Ew c
def CB(v:V)(b:Nat):Prop:=∃o n c s,v=.slice b o n c s
def CQ(cp:Nat)(v:V)(b:Nat):Prop:=b=cp\/CB v b
theorem Own.cb{H G:Heap}{v:V}{sz n b:Nat}{row:List V}(h:Own H G v sz n row)(hb:CB v b):H.n<=b/\b<G.n:=by obtain⟨o,n',c,s,e⟩:=hb;exact h.cQ e
theorem iO.lt{H:Heap}{cp:Nat}{c:CH}{v:V}(h:iO H cp c v):∀b,CQ cp v b->b<H.n:=λb hb=>hb.elim (λe=>by rw[e];exact h.cn) λe=>(h.own.cb e).2
theorem iO.bU{H H':Heap}{cp:Nat}{c:CH}{v:V}{P P':Nat->Prop}(h:iO H cp c v)(s:Step H P H' P')(hd:∀b,CQ cp v b->¬P b):iO H' cp c v/\∀b,CQ cp v b->¬P' b:=by
 refine⟨⟨s.wf,(s.same _ h.cn (hd _ (YF rfl))).1.trans h.get,YE h.cn s.n,?_,h.off,h.ok⟩,λb hb=>(s.same _ (h.lt b hb) (hd b hb)).2⟩;obtain⟨h1,h2,h3|⟨b,c,z,r,g1,g2,g3,g4,g5⟩⟩:=h.own;.exact⟨h1,h2,YF h3⟩
 .exact⟨h1,h2,YD ⟨b,c,z,r,g1,(s.same b g5 (hd b (YD ⟨_,_,_,_,g1⟩))).1.trans g2,g3,g4,YE g5 s.n⟩⟩
theorem iO.fresh{H H':Heap}{cp:Nat}{c:CH}{v:V}(h:iO H cp c v)(f:ah H H'):iO H' cp c v:=(h.bU (f.step (O:=λ_=>False)) λ_ _ h=>h).1
theorem iO.row{H:Heap}{cp:Nat}{c:CH}{v:V}(h:iO H cp c v):Row H (λ_=>False) v 11 c.ae.length (dW c.ae):=h.own.toRow λb h=>h.elim
section
variable{cp:RC->au}{t:Nat->Option du}{fuel:Nat}{H:Heap}
theorem Lm(T:aB t){n B:Nat}{G0:Heap}{b0:V}(f0:ah H G0)(hn:n<=8)(hB:H.n<=B)(hBn:B<G0.n)(gB:G0.get B=.cells ((zT 0).map sv))(hfu:1000<fuel):∃G',ah H G'/\G'.get B=.cells ((zT n).map sv)/\(∀j,j<G0.n->j≠B->G'.get j=G0.get j)/\G0.n<=G'.n/\∀(d:Nat)(kx:Nat->KE)(e:Env)(x:R),af s002 e=b0->af s003 e=.ptr B 0->af s005 e=.int 3 n->af s006 e=.int 3 0->(∀e',af s002 e'=b0->af s003 e'=.ptr B 0->kx 1 e' G'=x)->kq EX fuel (aS cp t fuel d) kx fuel e G0=x:=by
 have nl:=n_ n;obtain⟨_,G',⟨f',g',k',n'⟩,z⟩:=bK (c:=EX) (fuel:=fuel) (n:=n) (I:=λi _ G=>ah H G/\G.get B=.cells ((zT i).map sv)/\(∀j,j<G0.n->j≠B->G.get j=G0.get j)/\G0.n<=G.n) (S:=λi _ e=>af s002 e=b0/\af s003 e=.ptr B 0/\af s005 e=.int 3 n/\af s006 e=.int 3 i) (λi _ G hil⟨f,g,k,hn'⟩=>by
   have w0:=f.wf;have hset:((zT i).map sv).set i (.str 32 0)=(zT (i+1)).map sv:=by unfold zT;rw[show(8-i)=(8-(i+1))+1by omega];rw[Yz,Yz,Wh,Wh,Wh,Wh,YA0 _ _ (by simp),WW,QH,List.replicate_succ,List.set_cons_zero,YN4,WA];rfl
   have hlen:((zT i).map sv).length=8:=by rw[Yg,mH (by omega)]
   generalize(zT i).map sv=X at g hset hlen;obtain⟨G1,hG1,f1,p1,n1⟩:=Heap.aV w0 (.bytes 32 0);have w1:=f1.wf;have g1:=(f1.same _ (by omega)).trans g;have b1:B<G1.n:=by omega
   obtain⟨G2,hG2,f2,p2,n2,w2,k2⟩:=Heap.bq (f.trans f1) hB b1 (.cells (X.set i (.str 32 0)));have a1:=n_ i;have a2:=l_ i;have a3:=m_ (i+1);have a4:i<X.length:=by omega
   have a5:i<8:=by omega
   refine⟨(),G2,⟨f2,by rw[<-hset];exact p2,λj hj hne=>by rw[k2 _ hne,f1.same _ (by omega)];exact k j hj hne,by omega⟩,λd kx r e x⟨q2,q3,q5,q6⟩hk=>?_⟩;rw[ak];simp only[go_sem,EX,q3,q5,q6,hil,nl,a1,a2,a3,a4,a5,w0,hG1,p1,g1,w1,b1,hG2];exact hk _ (by simp only[go_sem,q2,q3,q5,and_self])) n 0 () G0 (by omega) ⟨f0,gB,λ_ _ _=>rfl,YC _⟩;refine⟨G',f',g',k',n',λd kx e x q2 q3 q5 q6 hk=>z d kx fuel e x (by omega) ⟨q2,q3,q5,q6⟩ λr e'⟨q2,q3,q5,q6⟩=>?_⟩;have e6:¬n<n:=by omega
 rw[ak];simp only[go_sem,EX,q5,q6,nl,e6];exact hk _ q2 q3
theorem sG(T:aB t){n}(hw:H.wf)(hn:n<=8)(hfu:1000<fuel):∃H',(∀(d)(k),aj (aS cp t fuel (d+1)) (.func 68 []) [.int 3 n] H k=k (.agg ((zT n).map sv)) H')/\ah H H':=by
 obtain⟨G1,hG1,f1,p1,n1⟩:=Heap.aV hw (.cells [.str 0 0,.str 0 0,.str 0 0,.str 0 0,.str 0 0,.str 0 0,.str 0 0,.str 0 0]);have w1:=f1.wf;obtain⟨G2,hG2,f2,p2,n2⟩:=Heap.aV w1 (.cells [.str 0 0,.str 0 0,.str 0 0,.str 0 0,.str 0 0,.str 0 0,.str 0 0,.str 0 0]);have f12:=f1.trans f2;obtain⟨G3,f3,g3,k3,n3,z3⟩:=Lm (b0:=.ptr H.n 0) T f12 hn (by omega) (by omega) p2 hfu;have q3:G3.get H.n=.cells [.str 0 0,.str 0 0,.str 0 0,.str 0 0,.str 0 0,.str 0 0,.str 0 0,.str 0 0]:=by rw[k3 _ (by omega) (by omega),f2.same _ (by omega)];omega
 have hlen:((zT n).map sv).length=8:=by rw[Yg,mH hn]
 have hone:∀y∈(zT n).map sv,y.one=true:=λy hy=>by obtain⟨x,_,rfl⟩:=YW.1 hy;rfl
 generalize(zT n).map sv=X at g3 hlen hone⊢;have b3:H.n<G3.n:=by omega
 have w3:=f3.wf;obtain⟨G4,hG4,f4,p4,n4,w4,k4⟩:=Heap.bq f3 (YC _) b3 (.cells X);refine⟨G4,λd k=>?_,f4⟩;obtain⟨x0,x1,x2,x3,x4,x5,x6,x7,rfl⟩:=gD hlen;have i0:=λ{id}{k}=>aP (hone x0 (by simp)) (id:=id) (k:=k);have i1:=λ{id}{k}=>aP (hone x1 (by simp)) (id:=id) (k:=k);have i2:=λ{id}{k}=>aP (hone x2 (by simp)) (id:=id) (k:=k);have i3:=λ{id}{k}=>aP (hone x3 (by simp)) (id:=id) (k:=k);have i4:=λ{id}{k}=>aP (hone x4 (by simp)) (id:=id) (k:=k);have i5:=λ{id}{k}=>aP (hone x5 (by simp)) (id:=id) (k:=k);have i6:=λ{id}{k}=>aP (hone x6 (by simp)) (id:=id) (k:=k);have i7:=λ{id}{k}=>aP (hone x7 (by simp)) (id:=id) (k:=k);rw[aI T.k34 rfl rfl];simp only[go_sem,c34,hw,hG1,w1,hG2];refine z3 d _ _ _ ?_ ?_ ?_ ?_ λe' q2 q3'=>?_;.rfl
 .rfl
 .rfl
 .rfl
 simp only[go_sem,q2,q3',g3,q3,w3,b3,hG4,↓i0,↓i1,↓i2,↓i3,↓i4,↓i5,↓i6,↓i7,↓eM,p4]
theorem fQ(T:aB t){c}{v}{p}(C:iO H p c v)(d)(k):aj (aS cp t fuel (d+1)) (.func 130 []) [.ptr p 0] H k=k (.bool false) H:=by
 have g:=C.get;obtain⟨x0,x1,x2,x3,x4,x5,x6,x7,e⟩:=gD C.ok.l8;have h1:¬c.size=0:=by have:=C.ok.s1;omega
 simp only[nK,e,YP,YZ,YL,YJ]at g;rw[aI T.k65 rfl rfl];simp only[go_sem,c65,g,h1]
theorem Bm(T:aB t){c}{v}{p b l x}(C:iO H p c v)(hb:nn b)(hl:l<1000000)(d)(k):aj (aS cp t fuel (d+1)) (.func 122 []) [.ptr p 0,.int 3 b,.str l x] H k=k (.bool (decide (b<c.size)&&decide (l=32))) H:=by
 have g:=C.get;obtain⟨x0,x1,x2,x3,x4,x5,x6,x7,e⟩:=gD C.ok.l8;have h1:nn c.size:=by have:=C.ok.s8;unfold nn;omega
 have h2:=l_ l;simp only[nK,e,YP,YZ,YL,YJ]at g;rw[aI T.k61 rfl rfl];by_cases c1:b<c.size<;>by_cases c2:l=32<;>simp only[go_sem,ZE,c61,g,h1,h2,hb,c1,c2,Ya,decide_true,decide_false,YD1,Bool.and_false]
end
theorem Own.afb{G:Heap}{v w x:V}{sz n m:Nat}{row new:List V}(hw:G.wf)(h:Own hZ G v sz n row)(hN:∀{id:Nat}{f:Nat->List V->R},dg id sz G x f=f m new)(hl:new.length=m*sz)(hone:∀v∈new,v.one=true)(hb:n+m<1000000):∃v' G',(∀{id:Nat}{ph:dz}{e:Env}{k:K}{a y:Arg},aA a e=v->aA y e=x->aQ (.app false sz a y) id ph e G k=k v' G')/\Own hZ G' v' sz (n+m) (row++new)/\G'.wf/\(∀j,j<G.n->iP v j->G'.get j=G.get j)/\G.n<=G'.n/\(∀j,j<G.n->iP v j->iP v' j)/\∀lo,lo<=G.bD->lo<=G.n->(∀b,CB v b->lo<=b)->lo<=G'.bD/\∀b,CB v' b->lo<=b:=by
 by_cases hm:m=0
 .subst hm;have hr:new=[]:=YY (by omega);subst hr;refine⟨v,G,λ{id ph e k a y}ha hx=>?_,by rw[YX];exact h,hw,λj _ _=>rfl,YC _,λj _ h=>h,λ_ h _ h'=>⟨h,h'⟩⟩;rw[dn,ha,hx,hN];obtain⟨_,_,⟨rfl,_⟩|⟨b,c,s,r,rfl,_⟩⟩:=h;.rw[eI,if_pos rfl]
  .rw[cE,if_pos rfl]
 have hne:∀j,j<G.n->∀c s l,iP (.slice G.n 0 l c s) j:=λj hj c s l b o n c' s' he=>by cases he;omega
 have hcb:∀lo,lo<=G.n->∀c s l b,CB (.slice G.n 0 l c s) b->lo<=b:=λlo h c s l b⟨_,_,_,_,e⟩=>by cases e;exact h
 obtain⟨h1,h2,⟨rfl,rfl⟩|⟨b,c,s,rest,rfl,g2,g3,g5,g6⟩⟩:=h
 .have hr:row=[]:=YY (by omega);subst hr;refine⟨.slice G.n 0 m 0 sz,G.new (.cells new),λ{id ph e k a y}ha hx=>?_,⟨by simp[hl],by simpa using hone,YD ⟨G.n,0,sz,[],by rw[WG],?_,YD ⟨rfl,rfl,rfl⟩,Ya _,by rw[Heap.aK];omega⟩⟩,by rw[Heap.aY];exact hw,λj hj _=>?_,by rw[Heap.aK];omega,λj hj _=>hne j hj _ _ _,λlo a a2 _=>⟨by rw[Heap.oH];exact a,hcb lo a2 _ _ _⟩⟩;.rw[dn,ha,hx,hN,eI,if_neg hm,ck hone,if_pos (by omega),cO hw]
  .rw[Heap.aD hw,if_pos rfl,YX];rfl
  .rw[Heap.aD hw,if_neg (by omega)]
 .have hlr:∀{id:Nat}{g:List V->R},fi id G b 0 (n*sz) g=g row:=λ{id g}=>by rw[qc,g2,gi,fA (Ya _),eW (by simp[h1])];rw[Wz,<-h1,Qy rfl]
  have hlen:(row++new).length=(n+m)*sz:=by rw[YB,h1,hl,Wi]
  have hon:∀v∈row++new,v.one=true:=λv hv=>(Yl.1 hv).elim (h2 v) (hone v);rcases g3 with rfl|⟨rfl,rfl,rfl⟩
  .refine⟨.slice G.n 0 (n+m) 0 sz,G.new (.cells (row++new)),λ{id ph e k a y}ha hx=>?_,⟨hlen,hon,YD ⟨G.n,0,sz,[],rfl,?_,YD ⟨rfl,rfl,rfl⟩,Ya _,by rw[Heap.aK];omega⟩⟩,by rw[Heap.aY];exact hw,λj hj _=>?_,by rw[Heap.aK];omega,λj hj _=>hne j hj _ _ _,λlo a a2 _=>⟨by rw[Heap.oH];exact a,hcb lo a2 _ _ _⟩⟩;.rw[dn,ha,hx,hN,cE,if_neg hm,jb (by omega),ck hone,if_pos (by omega),hlr,ck h2,cO hw]
   .rw[Heap.aD hw,if_pos rfl,YX]
   .rw[Heap.aD hw,if_neg (by omega)]
  .rw[YX]at g2;have hw2:(G.put b .dead).wf:=by rw[Heap.bu];exact hw
   refine⟨.slice G.n 0 (n+m) 0 s,(G.put b .dead).new (.cells (row++new)),λ{id ph e k a y}ha hx=>?_,⟨hlen,hon,YD ⟨G.n,0,s,[],rfl,?_,YD ⟨rfl,rfl,rfl⟩,Ya _,by rw[Heap.aK,Heap.aR];omega⟩⟩,by rw[Heap.aY];exact hw2,λj hj ho=>?_,by rw[Heap.aK,Heap.aR];omega,λj hj _=>hne j hj _ _ _,λlo a a2 hcbv=>⟨?_,hcb lo a2 _ _ _⟩⟩;.rw[dn,ha,hx,hN,cE,if_neg hm,mO,ck hone,if_pos (by omega),g2,gi,if_pos h1,ee hw g6,cO hw2,Heap.aR]
   .rw[Heap.aD hw2,if_pos (by rw[Heap.aR]),YX]
   .rw[Heap.aD hw2,if_neg (by rw[Heap.aR];omega),Heap.aC hw g6,if_neg (ho _ _ _ _ _ rfl)]
   .rw[Heap.oH];exact Heap.dN a (hcbv b ⟨_,_,_,_,rfl⟩)
def fT(c:CH):Cn:=c.ae.getLast?.getD ⟨zT c.size,(0,0),false⟩
theorem qN{c}{q}{s}(hs:c.ae[q]?=some s)(hq:c.ae.length=q+1):fT c=s:=by unfold fT;rw[List.getLast?_eq_getElem?,hq,Wp,hs];rfl
theorem qO{c}(h:c.ae.length=0):fT c=⟨zT c.size,(0,0),false⟩:=by unfold fT;simp_all
theorem yK{c}(h:Ew c):(fT c).jB.length=8/\kP (fT c).g:=by
 rcases hn:c.ae.length with _|q;.rw[qO hn];exact⟨mH h.s8,by simp,by simp⟩
 .have hs:c.ae[q]?=some c.ae[q]:=YA (by omega);rw[qN hs hn];exact⟨h.v8 _ (YT _),h.g _ (YT _)⟩
def eF(c:CH)(g:Gd):Nat:=if ek g (fT c).g=false then 2 else if 20<=c.ae.length then 3 else 0
theorem qM{a b}:J3 a b↔ek a b=true:=by unfold J3 ek;simp
section
variable{cp:RC->au}{t:Nat->Option du}{fuel:Nat}{H:Heap}
theorem iO.el{c:CH}{v:V}{p i:Nat}(C:iO H p c v)(hi:i<c.ae.length):∃b o z s,v=.slice b o c.ae.length z s/\b<H.n/\∀{G:Heap},G.get b=H.get b->∀{id:Nat}{k:List V->R},wL id (G.get b) (o+i*11) 11 k=k (dq c.ae[i]):=by obtain⟨b,o,z,s,h1,h2,-,h4⟩:=C.row.open hi;refine⟨b,o,z,s,h1,h2,λ{G}hG{id k}=>?_⟩;rw[(h4 hG).1,pP C.ok.v8 (YA hi)]
set_option maxRecDepth 4000in theorem rP(T:aB t){c}{v}{p}(C:iO H p c v)(hfu:1000<fuel):∃H',(∀(d)(k),aj (aS cp t fuel (d+2)) (.func 120 []) [.ptr p 0] H k=k (.agg (dq (fT c))) H')/\ah H H':=by
 have hn:=C.ok.n;obtain⟨x0,x1,x2,x3,x4,x5,x6,x7,e⟩:=gD C.ok.l8;obtain⟨G1,hG1,f1,p1,n1⟩:=Heap.aV C.wf (.cells [.str 0 0,.str 0 0,.str 0 0,.str 0 0,.str 0 0,.str 0 0,.str 0 0,.str 0 0,.int 7 0,.int 7 0,.bool false]);have w:=C.wf;have w1:=f1.wf;have C1:=C.fresh f1;have g:=C1.get;simp only[nK,e,YP,YZ,YL,YJ,sv]at g;have sn:=λ{id}{f}=>C.own.sn (id:=id) (f:=f);have a1:=by omega
 have a2:=n_ c.ae.length;have a3:=n_ 0;have b1:H.n<G1.n:=by omega
 rcases hq:c.ae.length with _|q
 .rw[qO hq];obtain⟨G2,z2,f2⟩:=sG (cp:=cp) T w1 C.ok.s8 hfu;have z2:=λ{d}{k}=>z2 d k;have p2:=(f2.same _ b1).trans p1;have w2:=f2.wf;have b2:H.n<G2.n:=by have:=f2.n;omega
  obtain⟨y0,y1,y2,y3,y4,y5,y6,y7,ez⟩:=gD (mH C.ok.s8);rw[ez]at z2⊢;simp only[YP,YZ,sv]at z2;obtain⟨G3,hG3,f3,p3,n3,w3,k3⟩:=Heap.bq (f1.trans f2) (YC _) b2 (.cells (dq ⟨[y0,y1,y2,y3,y4,y5,y6,y7],(0,0),false⟩));simp only[dq,YP,YZ,YL,YJ,sv]at hG3 p3⊢;have a4:=by omega
  rw[hq]at sn a1 a2;refine⟨G3,λd k=>?_,f3⟩;rw[aI T.k60 rfl rfl];simp only[go_sem,ZE,c60,w,hG1,g,a1,a2,a4,↓z2,p2,w2,b2,hG3,↓eM]
 .have hlt:q<c.ae.length:=by omega
  have hs:=YA hlt;obtain⟨b,o,z,s,hv,hbn,hrd⟩:=C.el hlt;have hrd:=λ{id}{k}=>hrd (f1.same _ hbn) (id:=id) (k:=k);rw[qN hs hq];have h8:=C.ok.v8 _ (YT hlt);generalize c.ae[q]=sn' at hrd h8;obtain⟨y0,y1,y2,y3,y4,y5,y6,y7,ey⟩:=gD h8;obtain⟨G3,hG3,f3,p3,n3,w3,k3⟩:=Heap.bq f1 (YC _) b1 (.cells (dq sn'));simp only[dq,ey,YP,YZ,YL,YJ,sv]at hG3 p3 hrd⊢;have a5:=n_ q;have a6:=l_ q;have a7:(q+1+18446744073709551615)%18446744073709551616=q:=by omega
  have a8:=l_ (q+1);have a9:0<q+1:=by omega
  have a10:q<q+1:=by omega
  have a11:=n_ (q+1);rw[hq]at sn hv;subst hv;refine⟨G3,λd k=>?_,f3⟩;rw[aI T.k60 rfl rfl];simp only[go_sem,c60,w,hG1,g,↓sn,a3,a6,a7,a8,a9,a10,a11,↓hrd,p1,w1,b1,hG3,↓eM,p3]
theorem xN(T:aB t){c:CH}{v:V}{p:Nat}{g:Gd}(C:iO H p c v)(hg:kP g)(hfu:1000<fuel):∃H',(∀(d:Nat)(k:K),aj (aS cp t fuel (d+3)) (.func 118 []) [.ptr p 0,.agg (aZ g)] H k=k (.int 3 (eF c g)) H')/\ah H H':=by
 have hn:=C.ok.n;obtain⟨l8,lg⟩:=yK C.ok;have w:=C.wf;obtain⟨G0,hG0,f0,p0,n0⟩:=Heap.aV w (.cells (aZ g));have C0:=C.fresh f0;have z0:=λ{d}{k}=>fQ (cp:=cp) (fuel:=fuel) T C0 d k;obtain⟨G1,z1,f1⟩:=rP (cp:=cp) T C0 hfu;have z1:=λ{d}{k}=>z1 d k;have w1:=f1.wf;obtain⟨G2,hG2,f2,p2,n2⟩:=Heap.aV w1 (.cells [.int 7 0,.int 7 0]);have b2:G1.n<G2.n:=by omega
 have w2:=f2.wf;obtain⟨G3,hG3,f3,p3,n3,w3,k3⟩:=Heap.bq f2 (YC _) b2 (.cells (aZ (fT c).g));have q3:G3.get H.n=.cells (aZ g):=by rw[f3.same _ (by have:=f1.n;omega),f1.same _ (by omega)];exact p0
 have wm3:G3.mark.wf:=by exact w3
 obtain⟨G4x,G4,z4,hu4,hl4,f4⟩:=ri ⟨G3.mark,λd k=>tg (cp:=cp) (fuel:=fuel) T hg.1 lg.1 d k,ah.refl wm3⟩;have z4:=λ{d}{k}=>z4 d k;have p4:=(f4.same _ (by omega)).trans p3;have q4:=(f4.same _ (by have:=f1.n;omega)).trans q3;have w4:=f4.wf;have z5:=λ{d}{k}=>tg (cp:=cp) (fuel:=fuel) (H:=G4) T hg.2 lg.2 d k;obtain⟨G5,hG5,f5,p5,n5⟩:=Heap.aV w4 (.cells [.int 3 (pj g.1 (fT c).g.1),.int 3 (pj g.2 (fT c).g.2)]);have z6:=λ{d}{k}=>MB (cp:=cp) (fuel:=fuel) (c:=3) (s:=0) T p5 (by omega) d k;have f05:=f0.trans (f1.trans (f3.trans (f4.trans f5)));have C5:=C.fresh f05;obtain⟨x0,x1,x2,x3,x4,x5,x6,x7,e⟩:=gD C.ok.l8;have g5:=C5.get;simp only[nK,e,YP,YZ,YL,YJ,sv]at g5;have sn:=λ{id}{f}=>C.own.sn (id:=id) (f:=f);have e3:=DC g (fT c).g;unfold ZI at e3;have a1:=l_ c.ae.length;have a2:=n_ c.ae.length;have a3:=n_ 20;obtain⟨y0,y1,y2,y3,y4,y5,y6,y7,ey⟩:=gD l8;unfold eF;generalize fT c=lc at*;simp only[dq,ey,YP,YZ,YL,YJ,sv]at z1;simp only[aZ]at hG0 hG3 p3 q3 p4 q4;refine⟨G5,λd k=>?_,f05⟩;rw[aI T.k59 rfl rfl];rw[qM]at e3;rcases hab:ek g lc.g with _|_
 .rw[hab]at e3;have e4:(ej (.le 9223372036854775808 18446744073709551616) (if pj g.1 lc.g.1=0then pj g.2 lc.g.2else pj g.1 lc.g.1) 0=true)=True:=by rw[e3];simp
  simp only[go_sem,c59,aZ,w,hG0,↓z0,↓z1,w1,hG2,p2,b2,w2,hG3,q3,p3,↓z4,hu4,hl4,p4,q4,↓z5,w4,hG5,↓z6,e4]
 .rw[hab]at e3;have e4:(ej (.le 9223372036854775808 18446744073709551616) (if pj g.1 lc.g.1=0then pj g.2 lc.g.2else pj g.1 lc.g.1) 0=true)=False:=by rw[e3];simp
  by_cases h20:20<=c.ae.length;.simp only[go_sem,c59,aZ,w,hG0,↓z0,↓z1,w1,hG2,p2,b2,w2,hG3,q3,p3,↓z4,hu4,hl4,p4,q4,↓z5,w4,hG5,↓z6,e4,g5,↓sn,a1,a2,a3,h20,Qi]
  .simp only[go_sem,c59,aZ,w,hG0,↓z0,↓z1,w1,hG2,p2,b2,w2,hG3,q3,p3,↓z4,hu4,hl4,p4,q4,↓z5,w4,hG5,↓z6,e4,g5,↓sn,a1,a2,a3,h20,Qi]
theorem XH{c}{v}(h:Ew c):(nK c v).length=10:=by unfold nK;rw[YB,Yg,h.l8];rfl
def Lh(c:CH)(b:Nat)(x:Tx):CH:=if b<c.size/\x.1=32then{c with live:=c.live.set b x}else c
theorem iO.put{c c':CH}{v:V}{p:Nat}{l:List V}(C:iO H p c v)(hc:Ew c')(hs:c'.ae=c.ae)(e:l=nK c' v):iO (H.put p (.cells l)) p c' v/\Step H (CQ p v) (H.put p (.cells l)) (CQ p v):=by subst e;refine⟨⟨by rw[Heap.bu];exact C.wf,by rw[Heap.aC C.wf C.cn,if_pos rfl],by rw[Heap.aR];exact C.cn,by rw[hs];exact C.own.qk C.wf C.cn C.off,C.off,hc⟩,Step.ju C.wf C.cn (YF rfl)⟩
theorem adG{c}{b}{x}(h:Ew c):Ew (Lh c b x):=by
 unfold Lh;split;.exact⟨by rw[Wj];exact h.l8,h.s1,h.s8,h.n,h.v8,h.g⟩
 omega
theorem FG(T:aB t){c}{v}{p b l x}(C:iO H p c v)(hb:nn b)(hl:l<1000000):∃H',(∀(d)(k),aj (aS cp t fuel (d+2)) (.func 70 []) [.ptr p 0,.int 3 b,.str l x] H k=k (.int 3 (if b<c.size/\l=32then 0 else 2)) H')/\Step H (CQ p v) H' (CQ p v)/\iO H' p (Lh c b (l,x)) v:=by
 have z0:=λ{d}{k}=>fQ (cp:=cp) (fuel:=fuel) T C d k;have z1:=λ{d}{k}=>Bm (cp:=cp) (fuel:=fuel) (x:=x) T C hb hl d k;by_cases h:b<c.size/\l=32
 .obtain⟨h1,h2⟩:=h;subst h2;have hs8:=C.ok.s8;have hw:Lh c b (32,x)={c with live:=c.live.set b (32,x)}:=by unfold Lh;simp_all
  have hset:(nK c v).set b (.str 32 x)=nK (Lh c b (32,x)) v:=by rw[hw];unfold nK;rw[List.set_append_left _ _ (by rw[Yg,C.ok.l8];omega),YF1];rfl
  have hlen:=XH (v:=v) C.ok;have g:=C.get;have hCn:=C.cn;have hCw:=C.wf;obtain⟨C',s'⟩:=C.put (adG C.ok) (by rw[hw]) hset;generalize nK c v=L at g hlen hset C' s';generalize hG:H.put p (.cells (L.set b (.str 32 x)))=G at C' s';have a1:b<L.length:=by omega
  have a2:b<8:=by omega
  have a3:=l_ b;refine⟨G,λd k=>?_,s',C'⟩;simp only[h1,decide_true,YD1]at z1;rw[aI T.k35 rfl rfl];simp only[go_sem,c35,↓z0,↓z1,g,a1,a2,a3,hCw,hCn,hG,h1,and_self]
 .have hf:(decide (b<c.size)&&decide (l=32))=false:=by simp_all
  rw[hf]at z1;refine⟨H,λd k=>?_,Step.refl C.wf,by unfold Lh;rw[if_neg h];omega⟩;rw[aI T.k35 rfl rfl];simp only[go_sem,c35,↓z0,↓z1,h]
end
theorem DA{v}{b}:iP v b↔¬CB v b:=⟨λh⟨o,n,c,s,e⟩=>h b o n c s e rfl,λh b' o n c s e hb=>h ⟨o,n,c,s,by simp_all⟩⟩
theorem iO.Iv{G G':Heap}{p:Nat}{c c':CH}{v v':V}(C:iO G p c v)(w:G'.wf)(n:G.n<=G'.n)(same:∀j,j<G.n->iP v j->G'.get j=G.get j)(off:∀j,j<G.n->iP v j->iP v' j)(lo:∀lo,lo<=G.bD->lo<=G.n->(∀b,CB v b->lo<=b)->lo<=G'.bD/\∀b,CB v' b->lo<=b)(own:Own hZ G' v' 11 c'.ae.length (dW c'.ae))(ok:Ew c'):iO (G'.put p (.cells (nK c' v'))) p c' v'/\Step G (CQ p v) (G'.put p (.cells (nK c' v'))) (CQ p v'):=by
 have hp:p<G'.n:=YE C.cn n;have ho:iP v' p:=off p C.cn C.off;refine⟨⟨by rw[Heap.bu];exact w,by rw[Heap.aC w hp,if_pos rfl],by rw[Heap.aR];exact hp,own.qk w hp ho,ho,ok⟩,⟨by rw[Heap.bu];exact w,by rw[Heap.aR];exact n,λb hb hq=>?_,λl h1 h2 h3=>?_⟩⟩
 .have h1:b≠p:=λe=>hq (YF e);have h2:iP v b:=DA.2 λh=>hq (YD h);refine⟨by rw[Heap.aC w hp,if_neg h1];exact same b hb h2,λh=>?_⟩;rcases h with h|h;.exact h1 h
  .exact DA.1 (off b hb h2) h
 .obtain⟨g1,g2⟩:=lo l h1 h2 λb hb=>h3 b (YD hb);exact⟨Heap.dN g1 (h3 p (YF rfl)),λb hb=>hb.elim (λe=>by rw[e];exact h3 p (YF rfl)) (g2 b)⟩
theorem iO.snoc{G:Heap}{p X:Nat}{c:CH}{v:V}{s:Cn}(C:iO G p c v)(hX:G.get X=.cells (dq s))(h8:s.jB.length=8)(hg:kP s.g)(hn:c.ae.length<900):∃v' G',(∀{id:Nat}{ph:dz}{e:Env}{k:K}{a y:Arg},aA a e=v->aA y e=.slice X 0 1 2 0->aQ (.app false 11 a y) id ph e G k=k v' G')/\G'.wf/\p<G'.n/\G'.get p=.cells (nK c v)/\v'.one=true/\iO (G'.put p (.cells (nK {c with ae:=c.ae++[s]} v'))) p {c with ae:=c.ae++[s]} v'/\Step G (CQ p v) (G'.put p (.cells (nK {c with ae:=c.ae++[s]} v'))) (CQ p v'):=by
 obtain⟨v',G',hop,own,w,same,n,off,lo⟩:=Own.afb (w:=v) (x:=.slice X 0 1 2 0) (m:=1) (new:=dq s) C.wf C.own (λ{id f}=>ia hX (jg h8)) (by rw[jg h8]) (Om s) (by omega);have own':Own hZ G' v' 11 (c.ae++[s]).length (dW (c.ae++[s])):=by rw[YB,On];show Own hZ G' v' 11 (c.ae.length+1) (dW c.ae++(dq s++[]));rw[YX];exact own
 obtain⟨C',s'⟩:=C.Iv (c':={c with ae:=c.ae++[s]}) w n same off lo own' ⟨C.ok.l8,C.ok.s1,C.ok.s8,by show(c.ae++[s]).length<1000;rw[YB];show c.ae.length+1<1000;omega,λt ht=>(Yl.1 ht).elim (C.ok.v8 t) λh=>by rw[YK.1 h];exact h8,λt ht=>(Yl.1 ht).elim (C.ok.g t) λh=>by rw[YK.1 h];exact hg⟩;exact⟨v',G',hop,w,YE C.cn n,(same p C.cn C.off).trans C.get,own.one,C',s'⟩
def AS(c:CH)(g:Gd):CH:=if eF c g=0then{c with ae:=c.ae++[⟨c.live,g,false⟩]}else c
theorem UD{c}{g}:eF c g<10:=by unfold eF;split;omega;split<;>omega
theorem BV{c}{g}(h:eF c g=0):c.ae.length<20:=by
 unfold eF at h;split at h;.omega
 simp_all
section
variable{cp:RC->au}{t:Nat->Option du}{fuel:Nat}{H:Heap}
set_option maxRecDepth 4000in theorem Jz(T:aB t){c}{v}{p}{g}(C:iO H p c v)(hg:kP g)(hfu:1000<fuel):∃H' v',(∀(d)(k),aj (aS cp t fuel (d+4)) (.func 72 []) [.ptr p 0,.agg (aZ g)] H k=k (.int 3 (eF c g)) H')/\Step H (CQ p v) H' (CQ p v')/\iO H' p (AS c g) v':=by
 have w:=C.wf;obtain⟨G0,hG0,f0,p0,n0⟩:=Heap.aV w (.cells (aZ g));have C0:=C.fresh f0;obtain⟨G1,z1,f1⟩:=xN (cp:=cp) T C0 hg hfu;have z1:=λ{d}{k}=>z1 d k;have C1:=C0.fresh f1;have p1:=(f1.same _ (by omega)).trans p0;have f01:=f0.trans f1;unfold AS;by_cases h:eF c g=0
 .rw[h]at z1⊢;have hlen:=BV h;have w1:=C1.wf;have wm:G1.mark.wf:=by exact w1
  obtain⟨Gn,G2,hGn,hu2,hl2,f2,p2,n2⟩:=Heap.Du w1 (.cells (dq ⟨c.live,g,false⟩));have C2:=C1.fresh f2;obtain⟨v',G3,hop,w3,hp3,g3,j3,C',s'⟩:=C2.snoc p2 C.ok.l8 hg (by omega);have j3:=λ{id}{k}=>aP j3 (id:=id) (k:=k);have g1:=C1.get;obtain⟨x0,x1,x2,x3,x4,x5,x6,x7,e⟩:=gD C.ok.l8;have f02:=f01.trans f2;refine⟨_,v',λd k=>?_,f02.step.trans s',C'⟩;have p0':=p0;generalize hG4:G3.put p (.cells (nK {c with ae:=c.ae++[⟨c.live,g,false⟩]} v'))=G4;simp only[aZ]at hG0 p0' p1 z1;simp only[nK,dq,e,YP,YZ,YL,YJ,sv]at g1 g3 hGn hG4;rw[aI T.k36 rfl rfl];simp only[go_sem,c36,aZ,w,hG0,p0',p1,↓z1,g1,wm,hGn,hu2,hl2,↓hop,↓j3,g3,w3,hp3,hG4]
 .rw[if_neg h];refine⟨G1,v,λd k=>?_,f01.step,C1⟩;have p0':=p0;simp only[aZ]at hG0 p0' z1;rw[aI T.k36 rfl rfl];simp only[go_sem,c36,aZ,w,hG0,p0',↓z1,h]
def CO(v:V)(n:Nat):V:=match v with|.slice b o _ _ _=>.slice b o n (n+1) 0|v=>v
theorem Tn{G}{v}{sz N n}{row}(h:Own hZ G v sz N row)(hn:n<=N):Own hZ G (CO v n) sz n (row.take (n*sz)):=by
 obtain⟨h1,h2,⟨rfl,rfl⟩|⟨b,c,s,rest,rfl,g,hc,hb1,hb2⟩⟩:=h
 .obtain rfl:n=0:=by omega
  exact⟨by simp,λx hx=>by simp_all,YF ⟨rfl,rfl⟩⟩
 .refine⟨by simp_all,λx hx=>h2 x (WK hx),YD ⟨b,n+1,0,row.drop (n*sz)++rest,rfl,?_,YF rfl,hb1,hb2⟩⟩;rw[<-WA,List.take_append_drop];omega
theorem L4{v}{n b}:CB (CO v n) b↔CB v b:=by
 unfold CO;split;.exact⟨λ⟨o,_,_,_,e⟩=>by cases e;exact⟨_,_,_,_,rfl⟩,λ⟨o,_,_,_,e⟩=>by cases e;exact⟨_,_,_,_,rfl⟩⟩
 rfl
theorem yb:∀{l}{n},(∀s∈l,s.jB.length=8)->(dW l).take (n*11)=dW (l.take n)|[],n,_=>by simp[dW]|a::l,0,_=>by rfl|a::l,n+1,h=>by have:=yb (n:=n) λt ht=>h t (YI _ ht);show(dq a++dW l).take ((n+1)*11)=dq a++dW (l.take n);rw[show(n+1)*11=(dq a).length+n*11by rw[jg (h a (YM ..))];omega,List.take_length_add_append,this]
def Xa(c:CH)(n:Nat):CH:=if c.ae.length<n then c else{c with ae:=c.ae.take n,live:=(fT {c with ae:=c.ae.take n}).jB}
set_option maxRecDepth 4000in theorem xR(T:aB t){c:CH}{v:V}{p n:Nat}(C:iO H p c v)(hn:nn n)(hfu:1000<fuel):∃H' v',(∀(d:Nat)(k:K),aj (aS cp t fuel (d+3)) (.func 74 []) [.ptr p 0,.int 3 n] H k=k (.int 3 (if c.ae.length<n then 2 else 0)) H')/\Step H (CQ p v) H' (CQ p v')/\iO H' p (Xa c n) v':=by
 have w:=C.wf;have z0:=λ{d}{k}=>fQ (cp:=cp) (fuel:=fuel) T C d k;have hcn:=C.ok.n;have sn:=λ{id}{f}=>C.own.sn (id:=id) (f:=f);have a1:=l_ c.ae.length;have a2:=n_ c.ae.length;have a3:=n_ 0;have a4:¬n<0:=by omega
 obtain⟨x0,x1,x2,x3,x4,x5,x6,x7,e⟩:=gD C.ok.l8;have g:=C.get;simp only[nK,e,YP,YZ,YL,YJ,sv]at g;unfold Xa;by_cases h:c.ae.length<n;.simp only[if_pos h];refine⟨H,v,λd k=>?_,Step.refl w,C⟩;rw[aI T.k37 rfl rfl];simp only[go_sem,c37,↓z0,g,↓sn,a1,a2,a3,a4,hn,h]
 .simp only[if_neg h];have hle:n<=c.ae.length:=by omega
  have own1:Own hZ H (CO v n) 11 (c.ae.take n).length (dW (c.ae.take n)):=by rw[<-yb C.ok.v8,Yv,Nat.min_eq_left hle];exact Tn C.own hle
  have ok1:Ew {c with ae:=c.ae.take n}:=⟨C.ok.l8,C.ok.s1,C.ok.s8,by show(c.ae.take n).length<1000;rw[Yv];omega,λs hs=>C.ok.v8 s (WK hs),λs hs=>C.ok.g s (WK hs)⟩;obtain⟨C1,s1⟩:=C.Iv w (YC _) (λ_ _ _=>rfl) (λj _ h=>DA.2 λhc=>DA.1 h (L4.1 hc)) (λlo h1 _ h3=>⟨h1,λb hb=>h3 b (L4.1 hb)⟩) own1 ok1;have j1:=λ{id}{k}=>aP own1.one (id:=id) (k:=k);have hcn':=C.cn;generalize hG1:H.put p (.cells (nK {c with ae:=c.ae.take n} (CO v n)))=G1 at C1 s1;obtain⟨G2,z2o,f2⟩:=rP (cp:=cp) T C1 hfu;have z2:=λ{d}{k}=>z2o d k;clear z2o;obtain⟨l8,lg⟩:=yK ok1;have C2:=C1.fresh f2;have g2:=C2.get;have w2:=C2.wf;have c2n:=C2.cn;obtain⟨C3,s3⟩:=C2.put (c':={c with ae:=c.ae.take n,live:=(fT {c with ae:=c.ae.take n}).jB}) ⟨l8,ok1.s1,ok1.s8,ok1.n,ok1.v8,ok1.g⟩ rfl rfl;generalize hG3:G2.put p (.cells (nK {c with ae:=c.ae.take n,live:=(fT {c with ae:=c.ae.take n}).jB} (CO v n)))=G3 at C3 s3;generalize fT {c with ae:=c.ae.take n}=lc at z2 l8 lg C3 s3 hG3⊢;obtain⟨y0,y1,y2,y3,y4,y5,y6,y7,ey⟩:=gD l8;simp only[dq,ey,YP,YZ,YL,YJ,sv]at z2;simp only[nK,e,ey,YP,YZ,YL,YJ,sv]at hG1 g2 hG3;refine⟨G3,CO v n,λd k=>?_,s1.trans (f2.step.trans s3),C3⟩;have hn':=l_ n;rw[aI T.k37 rfl rfl];have own:=C.own;obtain⟨_,_,⟨hv,h0⟩|⟨b,cc,s,r,hv,_,hc,_⟩⟩:=own
  .have n0:n=0:=by omega
   subst hv n0;simp only[CO]at hG1 g2 hG3 j1;simp only[go_sem,ZE,c37,↓z0,g,↓sn,a1,a2,a3,a4,h,↓j1,w,hcn',hG1,↓z2,g2,w2,c2n,hG3]
  .subst hv;simp only[CO]at hG1 g2 hG3 j1;rcases hc with rfl|⟨rfl,rfl,_⟩
   .have q1:=by omega
    by_cases n0:n=0;.subst n0;simp only[go_sem,ZE,c37,↓z0,g,↓sn,a1,a2,a3,a4,h,Ya,QH,↓j1,w,hcn',hG1,↓z2,g2,w2,c2n,hG3]
    .simp only[go_sem,c37,↓z0,g,↓sn,a1,a2,a3,a4,hn,h,hn',Ya,YC,Wp,hle,n0,QG,WG,Wx,↓j1,w,hcn',hG1,↓z2,g2,w2,c2n,hG3]
   .by_cases n0:n=0;.subst n0;simp only[go_sem,ZE,c37,↓z0,g,↓sn,a1,a2,a3,a4,h,Ya,QH,↓j1,w,hcn',hG1,↓z2,g2,w2,c2n,hG3]
    .simp only[go_sem,c37,↓z0,g,↓sn,a1,a2,a3,a4,hn,h,hn',Ya,YC,hle,n0,QG,WG,Wx,↓j1,w,hcn',hG1,↓z2,g2,w2,c2n,hG3]
end
def cidx(l:List Cn)(g:Gd):Option Nat:=l.findIdx? λs=>decide (s.g=g)
theorem wU{l}{g}{i}(h:cidx l g=some i):∃hi:i<l.length,l[i].g=g:=by unfold cidx at h;rw[QM]at h;obtain⟨h1,h2,-⟩:=h;simp_all
def pJ(c:CH)(g:Gd):Nat×Nat:=match cidx c.ae g with|none=>(0,5)|some i=>if(c.ae.getD i ⟨[],(0,0),false⟩).hid=true then(0,14)else(i,0)
theorem xI{c}{g}(h:(pJ c g).2=0):∃i,∃hi:i<c.ae.length,pJ c g=(i,0)/\c.ae[i].g=g/\c.ae[i].hid=false/\cidx c.ae g=some i:=by
 unfold pJ at h⊢;rcases hx:cidx c.ae g with _|i;.simp_all
 .obtain⟨hi,hg⟩:=wU hx;rcases hh:c.ae[i].hid with _|_;.simp_all
  simp_all
theorem aca{c}{g}(h:c.ae.length<1000):(pJ c g).1<1000/\(pJ c g).2<1000:=by
 unfold pJ;rcases hx:cidx c.ae g with _|i;.simp
 .obtain⟨hi,-⟩:=wU hx;simp only;split;.simp
  omega
theorem Own.zero{H G:Heap}{v:V}{sz n b o n' c s:Nat}{row:List V}(h:Own H G v sz n row)(e:v=.slice b o n' c s):o=0/\n'=n:=by obtain⟨_,_,⟨rfl,_⟩|⟨_,_,_,_,rfl,_⟩⟩:=h<;>cases e;exact⟨rfl,rfl⟩
theorem iO.hid{H:Heap}{c:CH}{v:V}{p i:Nat}(C:iO H p c v)(hi:i<c.ae.length):∃b z s,v=.slice b 0 c.ae.length z s/\b<H.n/\∀{G:Heap},G.get b=H.get b->∀{id:Nat}{k:V->R},DL id (G.get b) (i*11+10) k=k (.bool c.ae[i].hid):=by
 obtain⟨b,o,z,s,h1,h2,-,h4⟩:=C.row.cell (by omega);obtain⟨rfl,-⟩:=C.own.zero h1;refine⟨b,z,s,h1,h2,λ{G}hG{id k}=>?_⟩;have e:=pP C.ok.v8 (YA hi);have h8:=C.ok.v8 _ (YT hi);have e2:(((dW c.ae).drop (i*11)).take 11)[10]?=some (.bool c.ae[i].hid):=by rw[e];unfold dq;rw[Ym (by rw[Yg,h8];omega),Yg,h8];rfl
 rw[Yy,if_pos (by omega),WB]at e2;have:=h4 hG e2 (id:=id) (k:=k);rwa[WG]at this
section
variable{cp:RC->au}{t:Nat->Option du}{fuel:Nat}{H:Heap}
theorem Tl(T:aB t){s}{g}{cg}(hw:H.wf)(h8:s.jB.length=8)(gg:H.get cg=.cells (aZ g))(hn:cg<H.n):∃H',(∀(d)(k),aj (aS cp t fuel (d+1)) (.func 234 [.ptr cg 0]) [.agg (dq s)] H k=k (.bool (decide (s.g=g))) H')/\ah H H':=by
 obtain⟨G1,hG1,f1,p1,n1⟩:=Heap.aV hw (.cells (dq s));have g1:=(f1.same _ hn).trans gg;refine⟨G1,λd k=>?_,f1⟩;obtain⟨y0,y1,y2,y3,y4,y5,y6,y7,ey⟩:=gD h8;simp only[dq,ey,YP,YZ,YL,YJ,sv]at hG1 p1⊢;simp only[aZ]at g1;rw[ax T.aft rfl rfl];simp only[YL,YJ];by_cases h:s.g=g;.have e1:=λ{id}{f}=>Ow h (id:=id) (f:=f);rw[decide_eq_true h];simp only[go_sem,ab4,hw,hG1,p1,g1,↓bG,↓e1]
 .have e1:=λ{id}{f}=>XS h (id:=id) (f:=f);rw[decide_eq_false h];simp only[go_sem,ab4,hw,hG1,p1,g1,↓bG,↓e1,YV]
theorem Fy(T:aB t){c:CH}{v:V}{p:Nat}{g:Gd}{cg:Nat}(C:iO H p c v)(gg:H.get cg=.cells (aZ g))(hcn:cg<H.n)(hfu:1000<fuel):∃H',(∀(d:Nat)(k:K),aj (aS cp t fuel (d+2)) (.func 232 []) [v,.func 234 [.ptr cg 0]] H k=k (.int 3 ((cidx c.ae g).getD 18446744073709551615)) H')/\ah H H':=by
 have hn:=C.ok.n;have nl:=n_ c.ae.length;have sn:=λ{id}{f}=>C.own.sn (id:=id) (f:=f);have a0:=l_ c.ae.length;have run:=kC (c:=xF) (fuel:=fuel) (ph:=λd=>aS cp t fuel (d+1)) (I:=λi _ G=>ah H G/\∀(j)(s),j<i->c.ae[j]?=some s->s.g≠g) (S:=λi _ e=>af s000 e=v/\af s001 e=.func 234 [.ptr cg 0]/\af s007 e=.int 3 c.ae.length/\af s010 e=.int 3 i) (J:=λq G=>ah H G/\cidx c.ae g=some q) (Q:=λq e=>af s004 e=.int 3 q) (λi _ G hil⟨f,hno⟩=>by
   obtain⟨b,o,z,zz,hv,hbn,hrd⟩:=C.el hil;have hsi:=YA hil;have hrd:=λ{id}{k}=>hrd (f.same _ hbn) (id:=id) (k:=k);have h8:=C.ok.v8 _ (YT hil);have hidx:c.ae[i].g=g->cidx c.ae g=some i:=λh=>by unfold cidx;rw[QM];refine⟨hil,decide_eq_true h,λj hj=>?_⟩;have:=hno j c.ae[j] hj (YA (by omega));exactλh=>this (of_decide_eq_true h)
   generalize hsd:c.ae[i]=s at hsi hrd hidx h8;obtain⟨G1,z1o,f1⟩:=Tl (cp:=cp) (fuel:=fuel) T f.wf h8 ((f.same _ hcn).trans gg) (YE hcn f.n);have z1:∀{d}{k:K},_=k (.bool (decide (s.g=g))) G1:=λ{d}{k}=>z1o d k;clear z1o;have a1:=n_ i;have a2:=l_ i;have a3:=m_ (i+1);by_cases h:s.g=g;.refine YD ⟨i,G1,⟨f.trans f1,hidx h⟩,λd kx r e y⟨q0,q1,q7,q10⟩hk=>?_⟩;simp only[decide_eq_true h]at z1;rw[hv]at q0;rw[ak];simp only[go_sem,xF,q0,q1,q7,q10,hil,nl,a1,a2,↓hrd,↓z1];refine hk _ ?_;simp only[go_sem,↓reduceIte]
   .refine YF ⟨(),G1,⟨f.trans f1,λj s' hj hs'=>?_⟩,λd kx r e y⟨q0,q1,q7,q10⟩hk=>?_⟩
    .by_cases hji:j<i;.exact hno j s' hji hs'
     .obtain rfl:j=i:=by omega
      rw[hsi]at hs';cases hs';exact h
    rw[hv]at q0;rw[ak];simp only[go_sem,xF,q0,q1,q7,q10,hil,nl,a1,a2,a3,↓hrd,↓z1,h,decide_false];exact hk _ (by simp only[go_sem,q0,q1,q7,hv,and_self])) c.ae.length 0 () H (by omega) ⟨ah.refl C.wf,λj s hj=>by omega⟩;rcases run with⟨_,G',⟨f',hno⟩,z⟩|⟨q,G',⟨f',hq⟩,z⟩
 .have BJ:cidx c.ae g=none:=by unfold cidx;rw[List.findIdx?_eq_none_iff];intro s hs;obtain⟨j,hj,rfl⟩:=List.getElem_of_mem hs;have:=hno j _ hj (YA hj);simpa using this
  rw[BJ];refine⟨G',λd k=>?_,f'⟩;rw[aI T.acG rfl rfl];simp only[go_sem,ab3,↓sn,a0];refine z d _ fuel _ _ (by omega) ⟨?_,?_,?_,?_⟩ λr e'⟨q0,q1,q7,q10⟩=>?_;.rfl
  .rfl
  .rfl
  .rfl
  have e6:¬c.ae.length<c.ae.length:=by omega
  rw[ak];simp only[go_sem,xF,q7,q10,nl,e6,Wv]
 .rw[hq];refine⟨G',λd k=>?_,f'⟩;rw[aI T.acG rfl rfl];simp only[go_sem,ab3,↓sn,a0];refine z d _ fuel _ _ (by omega) ⟨?_,?_,?_,?_⟩ λe' q4=>?_;.rfl
  .rfl
  .rfl
  .rfl
  simp only[go_sem,q4,YU]
theorem xJ(T:aB t){c:CH}{v:V}{p:Nat}{g:Gd}(C:iO H p c v)(hfu:1000<fuel):∃H' x,(∀(d:Nat)(k:K),aj (aS cp t fuel (d+3)) (.func 160 []) [.ptr p 0,.agg (aZ g)] H k=k (.cG [x,.int 3 (pJ c g).2]) H')/\ah H H'/\x.one=true/\((pJ c g).2=0->∃b n cc s,v=.slice b 0 n cc s/\x=.ptr b ((pJ c g).1*11)):=by
 have hn:=C.ok.n;have w:=C.wf;obtain⟨G0,hG0,f0,p0,n0⟩:=Heap.aV w (.cells (aZ g));have C0:=C.fresh f0;have z0:=λ{d}{k}=>fQ (cp:=cp) (fuel:=fuel) T C0 d k;obtain⟨G2,z2o,f2⟩:=Fy (cp:=cp) T C0 p0 (by omega) hfu;have z2:=λ{d}{k}=>z2o d k;have C2:=C0.fresh f2;have g0:=C0.get;have g2:=C2.get;obtain⟨x0,x1,x2,x3,x4,x5,x6,x7,e⟩:=gD C.ok.l8;simp only[nK,e,YP,YZ,YL,YJ,sv]at g0 g2;simp only[aZ]at hG0;have a3:=n_ 0;rcases hi:cidx c.ae g with _|i
 .have hr:pJ c g=(0,5):=by unfold pJ;rw[hi]
  rw[hi]at z2;simp only[Wv]at z2;have a4:ej (.lt 9223372036854775808 18446744073709551616) 18446744073709551615 0=true:=by decide
  refine⟨G2,.ny,λd k=>?_,f0.trans f2,rfl,λh=>by rw[hr]at h;cases h⟩;rw[hr,aI T.k80 rfl rfl];simp only[go_sem,c80,aZ,w,hG0,↓z0,g0,↓z2,a4]
 .rw[hi]at z2;simp only[YU]at z2;obtain⟨hlt,-⟩:=wU hi;obtain⟨b,z,s,hv,hbn,hrd⟩:=C0.hid hlt;have hrd:=λ{id}{k}=>hrd (f2.same _ hbn) (id:=id) (k:=k);have a1:=n_ i;have a2:=l_ i;have a4:¬i<0:=by omega
  have hcf:pJ c g=if c.ae[i].hid=true then(0,14)else(i,0):=by unfold pJ;rw[hi];simp only[YG,YA hlt,YU]
  rcases hh:c.ae[i].hid with _|_
  .have hr:pJ c g=(i,0):=by rw[hcf,hh];rfl
   rw[hh]at hrd;refine⟨G2,.ptr b (i*11),λd k=>?_,f0.trans f2,rfl,λ_=>⟨b,_,z,s,hv,by rw[hr]⟩⟩;rw[hv]at g0 g2 z2;rw[hr,aI T.k80 rfl rfl];simp only[go_sem,c80,aZ,w,hG0,↓z0,g0,↓z2,a1,a2,a3,a4,hlt,g2,WG,↓hrd]
  .have hr:pJ c g=(0,14):=by rw[hcf,hh];rfl
   rw[hh]at hrd;refine⟨G2,.ny,λd k=>?_,f0.trans f2,rfl,λh=>by rw[hr]at h;cases h⟩;rw[hv]at g0 g2 z2;rw[hr,aI T.k80 rfl rfl];simp only[go_sem,c80,aZ,w,hG0,↓z0,g0,↓z2,a1,a2,a3,a4,hlt,g2,WG,↓hrd]
theorem Bq:∀{l}{i}{s},(∀s∈l,s.jB.length=8)->l[i]?=some s->(dW l).set (i*11+10) (.bool true)=dW (l.set i {s with hid:=true})|[],i,s,_,h=>by rfl|a::l,0,s,h8,h=>by simp at h;subst h;obtain⟨y0,y1,y2,y3,y4,y5,y6,y7,ey⟩:=gD (h8 a (YM ..));show(dq a++dW l).set 10 (.bool true)=dq {a with hid:=true}++dW l;simp only[dq,ey,YP,YZ,YL,YJ];rfl|a::l,i+1,s,h8,h=>by have:=Bq (λt ht=>h8 t (YI _ ht)) (by simpa using h);have hl:=jg (h8 a (YM ..));show(dq a++dW l).set ((i+1)*11+10) (.bool true)=dq a++dW (l.set i {s with hid:=true});rw[YA0 _ _ (by omega),hl,show(i+1)*11+10-11=i*11+10by omega,this]
def W9(c:CH)(g:Gd):CH:=if(pJ c g).2=0then{c with ae:=c.ae.set (pJ c g).1 {c.ae.getD (pJ c g).1 ⟨[],(0,0),false⟩with hid:=true}}else c
theorem Jq(T:aB t){c}{v}{p}{g}(C:iO H p c v)(hfu:1000<fuel):∃H',(∀(d)(k),aj (aS cp t fuel (d+4)) (.func 78 []) [.ptr p 0,.agg (aZ g)] H k=k (.int 3 (pJ c g).2) H')/\Step H (CQ p v) H' (CQ p v)/\iO H' p (W9 c g) v:=by
 have hn:=C.ok.n;have w:=C.wf;obtain⟨G0,hG0,f0,p0,n0⟩:=Heap.aV w (.cells (aZ g));have C0:=C.fresh f0;obtain⟨G1,x,z1o,f1,jx,hx⟩:=xJ (cp:=cp) T C0 hfu;have z1:=λ{d}{k}=>z1o d k;have C1:=C0.fresh f1;have f01:=f0.trans f1;have p0':=p0;simp only[aZ]at hG0 p0' z1;unfold W9;by_cases h:(pJ c g).2=0
 .obtain⟨i,hi,hr,hgi,hhi,-⟩:=xI h;obtain⟨b,n,cc,s,hv,hxx⟩:=hx h;have hsi:=YA hi;rw[if_pos h];simp only[hr,YG,hsi,YU]at hxx z1⊢;subst hxx;have hlen:=ux C.ok.v8;obtain⟨b',c',s',l,hv',gb,-,hbn,hll,hput⟩:=C1.own.put C1.wf (by intro e;rw[e]at hlen;simp at hlen;omega);obtain rfl:b=b':=by rw[hv]at hv';cases hv';rfl
  obtain⟨n2,o2,k2⟩:=hput (i*11+10) (.bool true) (by omega) rfl;rw[Bq C.ok.v8 hsi]at o2;have hbp:b≠p:=λe=>C.off _ _ _ _ _ hv e.symm;have s2:Step G1 (CQ p v) (G1.put b (.cells (l.set (i*11+10) (.bool true)))) (CQ p v):=Step.ju C1.wf hbn (YD ⟨_,_,_,_,hv⟩);have w1:=C1.wf;generalize hG2:G1.put b (.cells (l.set (i*11+10) (.bool true)))=G2 at n2 o2 k2 s2;have a1:i*11+10<l.length:=by omega
  refine⟨G2,λd k=>?_,f01.step.trans s2,⟨s2.wf,(k2 _ (λe=>hbp e.symm)).trans C1.get,by rw[n2];exact C1.cn,by rw[Wj];omega,C.off,⟨C.ok.l8,C.ok.s1,C.ok.s8,by rw[Wj];omega,λt ht=>?_,λt ht=>?_⟩⟩⟩;.rw[aI T.k39 rfl rfl];simp only[go_sem,c39,aZ,w,hG0,p0',↓z1,gb,a1,w1,hbn,hG2]
  .rcases Wn ht with ht|rfl;.exact C.ok.v8 t ht
   .exact(show c.ae[i].jB.length=8from C.ok.v8 _ (YT hi))
  .rcases Wn ht with ht|rfl;.exact C.ok.g t ht
   .exact(show kP c.ae[i].g from C.ok.g _ (YT hi))
 .rw[if_neg h];have jx:=λ{id}{k}=>aP jx (id:=id) (k:=k);refine⟨G1,λd k=>?_,f01.step,C1⟩;rw[aI T.k39 rfl rfl];simp only[go_sem,c39,aZ,w,hG0,p0',↓z1,h]
theorem FB(T:aB t){O}{n}{v}{row}(hw:H.wf)(h:Row H O v 1 n row)(hn:n<1000000):∃H' v',(∀(d)(k),aj (aS cp t fuel (d+1)) (.func 266 []) [v] H k=k v' H')/\ah H H'/\Own H H' v' 1 n row:=qF T.afD hw h hn
theorem Fz(T:aB t){O}{n}{v}{row}(hw:H.wf)(h:Row H O v 11 n row)(hn:n<1000000):∃H' v',(∀(d)(k),aj (aS cp t fuel (d+1)) (.func 132 []) [v] H k=k v' H')/\ah H H'/\Own H H' v' 11 n row:=qF T.k66 hw h hn
theorem adq(l:List Tx):∀y∈l.map sv,y.one=true:=λy hy=>by obtain⟨x,_,rfl⟩:=YW.1 hy;rfl
theorem xM(T:aB t){c}{v}{p}{jB:List Tx}(C:iO H p c v)(h8:jB.length=8):∃H' v',(∀(d)(k),aj (aS cp t fuel (d+2)) (.func 204 []) [.ptr p 0,.agg (jB.map sv)] H k=k v' H')/\ah H H'/\Own H H' v' 1 c.size ((jB.take c.size).map sv):=by have w:=C.wf;have s8:=C.ok.s8;obtain⟨G0,hG0,f0,p0,n0⟩:=Heap.aV w (.cells (jB.map sv));have C0:=C.fresh f0;have hR:Row G0 (λ_=>False) (.slice H.n 0 c.size 9 0) 1 c.size ((jB.take c.size).map sv):=⟨by simp_all,adq _,YD ⟨H.n,0,9,0,jB.map sv,rfl,YF p0,by omega,id,by simp_all,by simp⟩⟩;obtain⟨G1,v',z1o,f1,o1⟩:=FB (cp:=cp) (fuel:=fuel) T f0.wf hR (by omega);have z1:=λ{d}{k}=>z1o d k;have g0:=C0.get;obtain⟨x0,x1,x2,x3,x4,x5,x6,x7,e⟩:=gD C.ok.l8;obtain⟨y0,y1,y2,y3,y4,y5,y6,y7,ey⟩:=gD h8;simp only[nK,e,YP,YZ,YL,YJ,sv]at g0;simp only[ey,YP,YZ,sv]at hG0;have a1:=n_ c.size;have a2:=l_ c.size;refine⟨G1,v',λd k=>?_,f0.trans f1,o1.sub (by omega)⟩;rw[aI T.afi rfl rfl,ey];simp only[YP,YZ,sv];simp only[go_sem,aei,w,hG0,g0,a2,s8,Ya,YC,↓z1,Wx]
theorem Js(T:aB t){c}{v}{p}(C:iO H p c v):∃H' v',(∀(d)(k),aj (aS cp t fuel (d+3)) (.func 92 []) [.ptr p 0] H k=k v' H')/\ah H H'/\Own H H' v' 1 c.size ((c.live.take c.size).map sv):=by have z0:=λ{d}{k}=>fQ (cp:=cp) (fuel:=fuel) T C d k;obtain⟨G1,v',z1o,f1,o1⟩:=xM (cp:=cp) (fuel:=fuel) T C C.ok.l8;have z1:=λ{d}{k}=>z1o d k;have g:=C.get;obtain⟨x0,x1,x2,x3,x4,x5,x6,x7,e⟩:=gD C.ok.l8;simp only[nK,e,YP,YZ,YL,YJ,sv]at g;simp only[e,YP,YZ,sv]at z1;refine⟨G1,v',λd k=>?_,f1,o1⟩;rw[aI T.k46 rfl rfl];simp only[go_sem,c46,↓z0,g,↓z1]
theorem Jy(T:aB t){c}{v}{p}{g}(C:iO H p c v)(hfu:1000<fuel):∃H' v',(∀(d:Nat)(k:K),aj (aS cp t fuel (d+4)) (.func 96 []) [.ptr p 0,.agg (aZ g)] H k=k (.cG [v',.int 3 (pJ c g).2]) H')/\ah H H'/\((pJ c g).2≠0->v'=.aE)/\∀(i:Nat)(s:Cn),pJ c g=(i,0)->c.ae[i]?=some s->Own H H' v' 1 c.size ((s.jB.take c.size).map sv):=by
 have w:=C.wf;obtain⟨G0,hG0,f0,p0,n0⟩:=Heap.aV w (.cells (aZ g));have C0:=C.fresh f0;obtain⟨G1,x,z1o,f1,jx,hx⟩:=xJ (cp:=cp) T C0 hfu;have z1:=λ{d}{k}=>z1o d k;have C1:=C0.fresh f1;have f01:=f0.trans f1;have p0':=p0;simp only[aZ]at hG0 p0' z1;by_cases h:(pJ c g).2=0
 .obtain⟨i,hi,hr,hgi,hhi,-⟩:=xI h;obtain⟨b,n,cc,s,hv,hxx⟩:=hx h;have hsi:=YA hi;obtain⟨b',o,z,zz,hv',hbn,hrd⟩:=C1.el hi;have hrd:=λ{id}{k}=>hrd rfl (id:=id) (k:=k);have h8:=C.ok.v8 _ (YT hi);obtain⟨G2,v',z2o,f2,o2⟩:=xM (cp:=cp) (fuel:=fuel) T C1 h8;have z2:=λ{d}{k}=>z2o d k;simp only[hr]at hxx z1⊢;subst hxx;have hrd8:∀{id}{k},wL id (G1.get b) (i*11) 8 k=k (c.ae[i].jB.map sv):=λ{id k}=>by
   obtain⟨_,_,⟨hn',_⟩|⟨b2,c2,s2,rest,hv2,gb,_,_,_⟩⟩:=C1.own;.omega
   .obtain rfl:b=b2:=by rw[hv]at hv2;cases hv2;rfl
    have hat:=pP C.ok.v8 hsi;have e8:((dW c.ae++rest).drop (i*11)).take 8=c.ae[i].jB.map sv:=by
     rw[QD (by omega),Wm (by rw[WJ];omega)];have:((dW c.ae).drop (i*11)).take 8=(((dW c.ae).drop (i*11)).take 11).take 8:=by rw[YA4];rfl
     rw[this,hat];unfold dq;rw[Qy (by rw[Yg,h8])]
    rw[gb,jm,fA (by rw[YB];omega),eW (by rw[WJ,YB];omega),e8]
  refine⟨G2,v',λd k=>?_,f01.trans f2,λhne=>absurd rfl hne,λj s' hj hs'=>?_⟩;.rw[aI T.k48 rfl rfl];simp only[go_sem,XG,aZ,w,hG0,p0',↓z1,↓hrd8,↓z2]
  .obtain rfl:i=j:=congrArg Prod.fst hj;rw[hsi]at hs';cases hs';exact o2.sub (by have:=f01.n;omega)
 .refine⟨G1,.aE,λd k=>?_,f01,λ_=>rfl,λi s hi=>absurd (by rw[hi]) h⟩;rw[aI T.k48 rfl rfl];simp only[go_sem,XG,aZ,w,hG0,p0',↓z1,h,not_false_eq_true]
theorem Fu(T:aB t){c:CH}{v:V}{p:Nat}(C:iO H p c v)(hfu:1000<fuel):∃H' v',(∀(d:Nat)(k:K),aj (aS cp t fuel (d+2)) (.func 94 []) [.ptr p 0] H k=k v' H')/\ah H H'/\Own H H' v' 2 c.ae.length (jK (c.ae.map (·.g))):=by
 have hn:=C.ok.n;have nl:=n_ c.ae.length;have z0:=λ{d}{k}=>fQ (cp:=cp) (fuel:=fuel) T C d k;have g:=C.get;obtain⟨x0,x1,x2,x3,x4,x5,x6,x7,e⟩:=gD C.ok.l8;simp only[nK,e,YP,YZ,YL,YJ,sv]at g;have sn:=λ{id}{f}=>C.own.sn (id:=id) (f:=f);have a0:=l_ c.ae.length;obtain⟨v',G',⟨f',o'⟩,z⟩:=bK (c:=LD) (fuel:=fuel) (I:=λi v G=>ah H G/\Own H G v 2 i (jK ((c.ae.take i).map (·.g)))) (S:=λi w e=>af s003 e=w/\af s014 e=v/\af s015 e=.int 3 c.ae.length/\af s016 e=.int 3 i) (λi u G hil⟨f,o⟩=>by
   obtain⟨b,ob,cc,z,hv,hbn,hrd⟩:=C.el hil;have htk:c.ae.take (i+1)=c.ae.take i++[c.ae[i]]:=by rw[Qp,YA hil];rfl
   have hrd:=λ{id}{k}=>hrd (f.same _ hbn) (id:=id) (k:=k);have h8:=C.ok.v8 _ (YT hil);generalize c.ae[i]=s at htk hrd h8;obtain⟨y0,y1,y2,y3,y4,y5,y6,y7,ey⟩:=gD h8;have w0:=f.wf;obtain⟨G1,hG1,f1,p1,n1⟩:=Heap.aV w0 (.cells [.str 0 0,.str 0 0,.str 0 0,.str 0 0,.str 0 0,.str 0 0,.str 0 0,.str 0 0,.int 7 0,.int 7 0,.bool false]);obtain⟨G2,hG2,f2,p2,n2,w2,k2⟩:=Heap.bq f1 (YC _) (by omega) (.cells (dq s));obtain⟨G3,hG3,f3,p3,n3⟩:=Heap.aV w2 (.cells (aZ s.g));have f03:=(f.trans f2).trans f3;obtain⟨v',G4,hap,o4,f4,-⟩:=Own.app (w:=u) (x:=.slice G2.n 0 1 2 0) f03 ((o.fresh f2).fresh f3) (λ{id f}=>ia p3 rfl) rfl (FT _) (by omega);have w1:=f1.wf;have a1:=n_ i;have a2:=l_ i;have a3:=m_ (i+1);have a4:G.n<G1.n:=by omega
   refine⟨v',G4,⟨f4,by rw[htk,Yz,tz];simpa[jK]using o4⟩,λd kx r e x⟨q3,q14,q15,q16⟩hk=>?_⟩;simp only[dq,ey,YP,YZ,YL,YJ,sv]at hG2 p2 hrd;simp only[aZ]at hG3;rw[hv]at q14;rw[ak];simp only[go_sem,LD,q3,q14,q15,q16,hil,nl,a1,a2,a3,a4,↓hrd,w0,hG1,p1,w1,hG2,p2,w2,hG3,↓hap];refine hk _ ?_;simp only[go_sem,q14,q15,hv,and_self]) c.ae.length 0 .aE H (by omega) ⟨ah.refl C.wf,Own.nil⟩;rw[List.take_length]at o';refine⟨G',v',λd k=>?_,f',o'⟩;rw[aI T.k47 rfl rfl];simp only[go_sem,c47,↓z0,g,↓sn,a0];refine z (d+1) _ fuel _ _ (by omega) ⟨?_,?_,?_,?_⟩ λr e'⟨q3,q14,q15,q16⟩=>?_;.rfl
 .rfl
 .rfl
 .rfl
 have e6:¬c.ae.length<c.ae.length:=by omega
 rw[ak];simp only[go_sem,LD,q3,q15,q16,nl,e6]
set_option maxRecDepth 4000in theorem Jp(T:aB t){c}{v}{p}(C:iO H p c v):∃H' q v',(∀(d)(k),aj (aS cp t fuel (d+2)) (.func 42 []) [.ptr p 0] H k=k (.ptr q 0) H')/\ah H H'/\iO H' q c v'/\∀b,CQ q v' b->H.n<=b:=by
 have hn:=C.ok.n;have w:=C.wf;have z0:=λ{d}{k}=>fQ (cp:=cp) (fuel:=fuel) T C d k;obtain⟨G1,hG1,f1,p1,n1⟩:=Heap.aV w (.cells [.str 0 0,.str 0 0,.str 0 0,.str 0 0,.str 0 0,.str 0 0,.str 0 0,.str 0 0,.int 3 0,.aE]);have w1:=f1.wf;have b1:H.n<G1.n:=by omega
 obtain⟨G2,hG2,f2,p2,n2,w2,k2⟩:=Heap.bq f1 (YC _) b1 (.cells (nK c v));have C2:=C.fresh f2;obtain⟨G3,v',z3o,f3,o3⟩:=Fz (cp:=cp) (fuel:=fuel) T w2 C2.row (by omega);have z3:=λ{d}{k}=>z3o d k;have p3:=(f3.same _ (by omega)).trans p2;have w3:=f3.wf;have b3:H.n<G3.n:=by have:=f3.n;omega
 obtain⟨G4,hG4,f4,p4,n4,w4,k4⟩:=Heap.bq (f2.trans f3) (YC _) b3 (.cells (nK c v'));have ho:iP v' H.n:=o3.off (by omega);have g:=C.get;have g2:=C2.get;obtain⟨x0,x1,x2,x3,x4,x5,x6,x7,e⟩:=gD C.ok.l8;have jv:=λ{id}{k}=>aP C.own.one (id:=id) (k:=k);have jv':=λ{id}{k}=>aP o3.one (id:=id) (k:=k);have g1:=(f1.same _ C.cn).trans C.get;refine⟨G4,H.n,v',λd k=>?_,f4,⟨w4,p4,by omega,?_,ho,C.ok⟩,λb hb=>?_⟩;.simp only[nK,e,YP,YZ,YL,YJ,sv]at g g1 g2 hG2 p2 p3 hG4;rw[aI T.k21 rfl rfl];simp only[go_sem,c21,↓z0,g,w,hG1,p1,w1,b1,↓jv,hG2,g2,↓z3,p3,w3,b3,↓jv',hG4]
 .have:=(o3.sub (H:=hZ) (Ya _)).qk (x:=.cells (nK c v')) w3 b3 ho;rwa[hG4]at this
 .rcases hb with rfl|hb;.omega
  .have:=(o3.cb hb).1;omega
theorem NH(T:aB t){n}(hw:H.wf)(h1:1<=n)(h8:n<=8)(hfu:1000<fuel):∃H' q,(∀(d)(k),aj (aS cp t fuel (d+2)) (.func 18 []) [.int 3 n] H k=k (.ptr q 0) H')/\ah H H'/\iO H' q ⟨zT n,n,[]⟩ .aE/\H.n<=q:=by
 obtain⟨G1,z1o,f1⟩:=sG (cp:=cp) T hw h8 hfu;have z1:=λ{d}{k}=>z1o d k;have w1:=f1.wf;obtain⟨G2,hG2,f2,p2,n2⟩:=Heap.aV w1 (.cells (nK ⟨zT n,n,[]⟩ .aE));have a1:=n_ n;have a2:=n_ 1;have a3:=n_ 8;have a4:¬n<1:=by omega
 have a5:¬8<n:=by omega
 refine⟨G2,G1.n,λd k=>?_,f1.trans f2,⟨f2.wf,p2,by omega,Own.nil,(λb o n c s e=>(by cases e)),⟨mH h8,h1,h8,by simp,λs hs=>(by cases hs),λs hs=>(by cases hs)⟩⟩,f1.n⟩;obtain⟨y0,y1,y2,y3,y4,y5,y6,y7,ez⟩:=gD (mH h8);simp only[ez,YP,YZ,sv]at z1;simp only[nK,ez,YP,YZ,YL,YJ,sv]at hG2;rw[aI T.k9 rfl rfl];simp only[go_sem,c9,a1,a2,a3,a4,a5,↓z1,w1,hG2]
end
def ib(l:List Tx)(cs:List Wr):Nat->List Tx|0=>l|i+1=>(ib l cs i).set (cs.getD i (0,(0,0))).1 (cs.getD i (0,(0,0))).2
theorem sB{l}{cs}:∀i,(ib l cs i).length=l.length|0=>rfl|i+1=>by simp only[ib,Wj,sB i]
def IK(c:CH)(cs:List Wr):List Tx:=ib (fT c).jB cs cs.length
def W6(c:CH)(g:Gd)(cs:List Wr):CH:=if eF c g=0then{c with ae:=c.ae++[⟨IK c cs,g,false⟩],live:=IK c cs}else c
section
variable{cp:RC->au}{t:Nat->Option du}{fuel:Nat}{H:Heap}
theorem RG(T:aB t){c:CH}{v vx:V}{p B Bg:Nat}{cs:List Wr}{O:Nat->Prop}{l0:List Tx}{G0:Heap}(C:iO H p c v)(hX:Row H O vx 2 cs.length (bX cs))(hn:cs.length<1000)(hch:sI cs c.size)(h8:l0.length=8)(f0:ah H G0)(hB:H.n<=B)(hBn:B<G0.n)(gB:G0.get B=.cells (l0.map sv))(hfu:1000<fuel):∃G',ah H G'/\G'.get B=.cells ((ib l0 cs cs.length).map sv)/\G0.n<=G'.n/\(∀j,j<G0.n->j≠B->G'.get j=G0.get j)/\∀(d:Nat)(kx:Nat->KE)(e:Env)(x:R),af s000 e=.ptr p 0->af s004 e=.ptr Bg 0->af s010 e=.ptr B 0->af s011 e=.int 3 18446744073709551615->af s025 e=vx->af s026 e=.int 3 cs.length->af s027 e=.int 3 0->(∀e',af s000 e'=.ptr p 0->af s004 e'=.ptr Bg 0->af s010 e'=.ptr B 0->kx 1 e' G'=x)->kq EU fuel (aS cp t fuel (d+1)) kx fuel e G0=x:=by
 have nl:=n_ cs.length;have s8:=C.ok.s8;obtain⟨_,G',⟨f',g',n',k'⟩,z⟩:=bK (c:=EU) (ph:=λd=>aS cp t fuel (d+1)) (I:=λi _ G=>ah H G/\G.get B=.cells ((ib l0 cs i).map sv)/\G0.n<=G.n/\∀j,j<G0.n->j≠B->G.get j=G0.get j) (S:=λi _ e=>af s000 e=.ptr p 0/\af s004 e=.ptr Bg 0/\af s010 e=.ptr B 0/\af s011 e=.int 3 (oS cs i)/\af s025 e=vx/\af s026 e=.int 3 cs.length/\af s027 e=.int 3 i) (λi _ G hil⟨f,g,n,k⟩=>by
   have hsi:cs[i]?=some cs[i]:=YA hil;obtain⟨c1,c2,c3⟩:=hch.lt _ (YT hil);have hup:(ej (.le 9223372036854775808 18446744073709551616) cs[i].1 (oS cs i)=true)=False:=by rw[Ft];cases i with|zero=>simp only[oS,eq_iff_iff,iff_false];omega|succ j=>have:=hch.up j hil;simp only[YG,hsi,YU]at this;simp only[oS,YG,eq_iff_iff,iff_false];omega
   have hpr:oS cs (i+1)=cs[i].1:=by simp only[oS,YG,hsi,YU]
   have hst:(ib l0 cs (i+1)).map sv=((ib l0 cs i).map sv).set cs[i].1 (sv cs[i].2):=by simp only[ib,YG,hsi,YU];rw[YF1]
   obtain⟨b,o,cc,z,rfl,hbn,-,hrd⟩:=hX.open hil;have hrd1:=λ{id}{k}=>(hrd (f.same _ hbn)).1 (id:=id) (k:=k);rw[lZ hsi]at hrd1;generalize hcx:cs[i]=x at c1 c2 c3 hup hpr hrd1 hst;obtain⟨q,u,w⟩:=x;simp only[sv]at c1 c2 hup hpr hrd1 hst;subst c2;have hXl:((ib l0 cs i).map sv).length=8:=by rw[Yg,sB,h8]
   generalize(ib l0 cs i).map sv=X at g hst hXl;obtain⟨G1,hG1,f1,p1,n1⟩:=Heap.aV f.wf (.cells [.int 3 0,.str 0 0]);have b1:G.n<G1.n:=by omega
   obtain⟨G2,hG2,f2,p2,n2,w2,k2⟩:=Heap.bq f1 (YC _) b1 (.cells [.int 3 q,.str 32 w]);have fx:=f.trans f2;have g2:=(f2.same _ (by omega)).trans g;have b2:B<G2.n:=by omega
   obtain⟨G3,hG3,f3,p3,n3,w3,k3⟩:=Heap.bq fx hB b2 (.cells (X.set q (.str 32 w)));have a4:=n_ q;have hm:=λ{d}{k}=>Bm (cp:=cp) (fuel:=fuel) (l:=32) (x:=w) T (C.fresh fx) a4 (by omega) d k;simp only[c1,decide_true,YD1]at hm;have a1:=n_ i;have a2:=l_ i;have a3:=m_ (i+1);have a5:q<8:=by omega
   have a6:q<X.length:=by omega
   have a7:=l_ q;have wf:=f.wf;have w1:=f1.wf;refine⟨(),G3,⟨f3,by rw[hst];exact p3,by omega,λj hj hne=>by rw[k3 _ hne,f2.same _ (by omega)];exact k j hj hne⟩,λd kx r e y⟨q0,q4,q10,q11,q25,q26,q27⟩hk=>?_⟩;rw[ak];simp only[go_sem,EU,q0,q10,q11,q25,q26,q27,hil,nl,a1,a2,a3,a5,a6,a7,↓hrd1,wf,hG1,p1,w1,b1,hG2,p2,↓hm,hup,g2,w2,b2,hG3];exact hk _ (by simp only[go_sem,q0,q4,q10,q25,q26,hpr,and_self])) cs.length 0 () G0 (by omega) ⟨f0,gB,YC _,λ_ _ _=>rfl⟩;refine⟨G',f',g',n',k',λd kx e x q0 q4 q10 q11 q25 q26 q27 hk=>z d kx fuel e x (by omega) ⟨q0,q4,q10,q11,q25,q26,q27⟩ λr e'⟨q0,q4,q10,q11,q25,q26,q27⟩=>?_⟩;have e6:¬cs.length<cs.length:=by omega
 rw[ak];simp only[go_sem,EU,q26,q27,nl,e6];exact hk _ q0 q4 q10
set_option maxRecDepth 4000in theorem NF(T:aB t){c:CH}{v vx:V}{p:Nat}{g:Gd}{cs:List Wr}{O:Nat->Prop}(C:iO H p c v)(hg:kP g)(hX:Row H O vx 2 cs.length (bX cs))(hn:cs.length<1000)(hch:sI cs c.size)(hfu:1000<fuel):∃H' v',(∀(d:Nat)(k:K),aj (aS cp t fuel (d+4)) (.func 36 []) [.ptr p 0,.agg (aZ g),vx] H k=k (.int 3 (eF c g)) H')/\Step H (CQ p v) H' (CQ p v')/\iO H' p (W6 c g cs) v':=by
 have w:=C.wf;obtain⟨G0,hG0,f0,p0,n0⟩:=Heap.aV w (.cells (aZ g));have C0:=C.fresh f0;obtain⟨G1,z1o,f1⟩:=xN (cp:=cp) T C0 hg hfu;have z1:=λ{d}{k}=>z1o d k;clear z1o;have C1:=C0.fresh f1;have f01:=f0.trans f1;have p0':=p0;have hlt:=UD (c:=c) (g:=g);unfold W6;by_cases h:eF c g=0
 .rw[if_pos h];rw[h]at z1⊢;have hlen:=BV h;have w1:=C1.wf;have p1:=(f1.same _ (by omega)).trans p0;obtain⟨G2,z2o,f2⟩:=rP (cp:=cp) T C1 hfu;have z2:=λ{d}{k}=>z2o d k;clear z2o;obtain⟨l8,lg⟩:=yK C.ok;have w2:=f2.wf;obtain⟨G3,hG3,f3,p3,n3⟩:=Heap.aV w2 (.cells [.str 0 0,.str 0 0,.str 0 0,.str 0 0,.str 0 0,.str 0 0,.str 0 0,.str 0 0]);have w3:=f3.wf;have b3:G2.n<G3.n:=by omega
  obtain⟨G4,hG4,f4,p4,n4,w4,k4⟩:=Heap.bq f3 (YC _) b3 (.cells ((fT c).jB.map sv));have C2:=C1.fresh f2;have f02:=f01.trans f2;obtain⟨G5,f5,g5,n5,k5,z5⟩:=RG (cp:=cp) (Bg:=H.n) T C2 (hX.fresh f02) hn hch l8 f4 (YC _) (by omega) p4 hfu;have C5:=C2.fresh f5;have w5:=C5.wf;have hv8:(IK c cs).length=8:=by unfold IK;rw[sB,l8]
  have wm:G5.mark.wf:=by exact w5
  have p5:G5.get H.n=.cells (aZ g):=by rw[f5.same _ (by have:=f2.n;have:=f1.n;omega),f2.same _ (by have:=f1.n;omega)];exact p1
  have g5':G5.get G2.n=.cells ((IK c cs).map sv):=g5;obtain⟨Gn,G6,hGn,hu6,hl6,f6,p6,n6⟩:=Heap.Du w5 (.cells (dq ⟨IK c cs,g,false⟩));have C6:=C5.fresh f6;obtain⟨v',G7,hop,w7,hp7,g7,j7,C8,s8⟩:=C6.snoc p6 hv8 hg (by omega);have j7:=λ{id}{k}=>aP j7 (id:=id) (k:=k);have g5c:=C5.get;have g8:=C8.get;have w8:=C8.wf;have b8:=C8.cn;have hB8:(G7.put p (.cells (nK {c with ae:=c.ae++[⟨IK c cs,g,false⟩]} v'))).get G2.n=.cells ((IK c cs).map sv):=by
   have hnq:¬CQ p v G2.n:=λh=>by have:=C2.lt _ h;omega
   rw[(s8.same _ (by omega) hnq).1,f6.same _ (by omega)];exact g5'
  obtain⟨C9,s9⟩:=C8.put (c':={c with ae:=c.ae++[⟨IK c cs,g,false⟩],live:=IK c cs}) ⟨hv8,C8.ok.s1,C8.ok.s8,C8.ok.n,C8.ok.v8,C8.ok.g⟩ rfl rfl;generalize hG8:G7.put p (.cells (nK {c with ae:=c.ae++[⟨IK c cs,g,false⟩]} v'))=G8 at g8 w8 b8 C9 s9 s8 hB8;generalize hG9:G8.put p (.cells (nK {c with ae:=c.ae++[⟨IK c cs,g,false⟩],live:=IK c cs} v'))=G9 at C9 s9;obtain⟨x0,x1,x2,x3,x4,x5,x6,x7,e⟩:=gD C.ok.l8;obtain⟨u0,u1,u2,u3,u4,u5,u6,u7,eu⟩:=gD hv8;refine⟨G9,v',λd k=>?_,f02.step.trans (f5.step.trans (f6.step.trans (s8.trans s9))),C9⟩;obtain⟨y0,y1,y2,y3,y4,y5,y6,y7,ey⟩:=gD l8;simp only[aZ]at hG0 p0' p1 p5 z1;simp only[nK,dq,e,eu,ey,YP,YZ,YL,YJ,sv]at z2 hG4 p4 g5' g5c g7 hGn hG8 hB8 g8 hG9;have sx:=λ{id}{f}=>hX.sn (id:=id) (f:=f);have a1:=l_ cs.length;rw[aI T.k18 rfl rfl];simp only[go_sem,c18,Ss,aZ,w,hG0,p0',↓z1];simp only[go_sem,aaI,aaJ,↓z2,w2,hG3,p3,w3,b3,hG4,↓sx,a1];refine z5 (d+2) _ _ _ ?_ ?_ ?_ ?_ ?_ ?_ ?_ λe' q0 q4 q10=>?_;.rfl
  .rfl
  .rfl
  .rfl
  .rfl
  .rfl
  .rfl
  simp only[go_sem,aaK,q0,q4,q10,g5c,g5',p5,wm,hGn,hu6,hl6,↓hop,↓j7,g7,w7,hp7,hG8];simp only[go_sem,aaL,aaM,aaN,q0,q10,hB8,g8,w8,b8,hG9]
 .rw[if_neg h];refine⟨G1,v,λd k=>?_,f01.step,C1⟩;simp only[aZ]at hG0 p0' z1;rw[aI T.k18 rfl rfl];simp only[go_sem,c18,Ss,aZ,w,hG0,p0',↓z1,h]
end
theorem FV{id l1 a l2 b}{cls}{l m}{f}:hU id (2::cls) (.str l1 a::l) (.str l2 b::m) f=if l1=l2/\a=b then hU id cls l m f else f false:=by
 show aH (YR l1 l2) (aH (YR a b) (hU id cls l m f) (f false)) (aH false (hU id cls l m f) (f false))=_;simp only[bF,po,YV,if_false];by_cases h1:l1=l2;.simp_all
 simp_all
theorem eqV{id}{f}:∀{a b:List Tx}{n},a.length=n->b.length=n->hU id (Yc n 2) (a.map sv) (b.map sv) f=f (decide (a=b))
 |[],[],0,_,_=>by rfl|[],_::_,n,h,h'=>by subst h;simp_all|_::_,[],n,h,h'=>by subst h';simp_all|x::a,y::b,0,h,_=>by simp_all|x::a,y::b,n+1,h,h'=>by
  show hU id (2::Yc n 2) (.str x.1 x.2::a.map sv) (.str y.1 y.2::b.map sv) f=_;rw[FV,eqV (by simp_all) (by simp_all)];by_cases hxy:x=y;.simp_all
  .rw[if_neg (λh=>hxy (Prod.ext h.1 h.2))];simp_all
theorem xK{a}:∀i,jG a a i=[]|0=>rfl|i+1=>by simp only[jG,xK i,if_true,YX]
theorem iO.jB{H:Heap}{c:CH}{v:V}{p i:Nat}(C:iO H p c v)(hi:i<c.ae.length):∃b z s,v=.slice b 0 c.ae.length z s/\b<H.n/\∀{G:Heap},G.get b=H.get b->∀{id:Nat}{k:List V->R},wL id (G.get b) (i*11) 8 k=k (c.ae[i].jB.map sv):=by
 have hsi:c.ae[i]?=some c.ae[i]:=YA hi;have h8:=C.ok.v8 _ (YT hi);obtain⟨_,_,⟨hn',h0⟩|⟨b,c2,s2,rest,hv2,gb,_,_,hb⟩⟩:=C.own;.omega
 refine⟨b,c2,s2,hv2,hb,λ{G}hG{id k}=>?_⟩;have hl:=ux C.ok.v8;have hat:=pP C.ok.v8 hsi;have e8:((dW c.ae++rest).drop (i*11)).take 8=c.ae[i].jB.map sv:=by
  rw[QD (by omega),Wm (by rw[WJ];omega)];have:((dW c.ae).drop (i*11)).take 8=(((dW c.ae).drop (i*11)).take 11).take 8:=by rw[YA4];rfl
  rw[this,hat];unfold dq;rw[Qy (by rw[Yg,h8])]
 rw[hG,gb,jm,fA (by rw[YB];omega),eW (by rw[WJ,YB];omega),e8]
section
variable{cp:RC->au}{t:Nat->Option du}{fuel:Nat}{H:Heap}
theorem NG(T:aB t){A B:Nat}{a b:List Tx}(hw:H.wf)(gA:H.get A=.cells (a.map sv))(hA:A<H.n)(gB:H.get B=.cells (b.map sv))(hB:B<H.n)(ha:a.length=8)(hb:b.length=8)(hfu:1000<fuel):∃G' v',ah H G'/\Own H G' v' 2 (Et a b).length (bX (Et a b))/\∀(d:Nat)(kx:Nat->KE)(e:Env)(x:R),af s006 e=.ptr A 0->af s010 e=.ptr B 0->af s007 e=.aE->af s062 e=.int 3 0->(∀e',af s007 e'=v'->kx 1 e' G'=x)->kq Bb fuel (aS cp t fuel d) kx fuel e H=x:=by
 have nl:=n_ 8;obtain⟨v',G',⟨f',o'⟩,z⟩:=bK (c:=Bb) (fuel:=fuel) (n:=8) (I:=λi v G=>ah H G/\Own H G v 2 (jG a b i).length (bX (jG a b i))) (S:=λi v e=>af s006 e=.ptr A 0/\af s010 e=.ptr B 0/\af s007 e=v/\af s062 e=.int 3 i) (λi v G hil⟨f,o⟩=>by
   have hia:i<a.length:=by omega
   have hib:i<b.length:=by omega
   have hg1:a.getD i t0=a[i]:=by rw[YG,YA hia,YU]
   have hg2:b.getD i t0=b[i]:=by rw[YG,YA hib,YU]
   have hst:jG a b (i+1)=jG a b i++(if a[i]=b[i]then[]else[(i,b[i])]):=by simp only[jG,hg1,hg2]
   have hcl:=mT a b i;have gA':=(f.same _ hA).trans gA;have gB':=(f.same _ hB).trans gB;have hra:∀{id}{k},DL id (G.get A) i k=k (sv a[i]):=λ{id k}=>sg (YF gA') (by simp[hia]) rfl;have hrb:∀{id}{k},DL id (G.get B) i k=k (sv b[i]):=λ{id k}=>sg (YF gB') (by simp[hib]) rfl;generalize a[i]=x at hra hst;generalize b[i]=y at hrb hst;simp only[sv]at hra hrb;have w0:=f.wf;have a1:=n_ i;have a2:=l_ i;have a3:=m_ (i+1);by_cases hxy:x=y
   .rw[if_pos hxy,YX]at hst;have e1:(x.1=y.1/\x.2=y.2)=True:=by rw[wu];exact eq_true hxy
    have e2:(y.1=x.1/\y.2=x.2)=True:=by rw[wu];exact eq_true hxy.symm
    refine⟨v,G,⟨f,by rw[hst];exact o⟩,λd kx r e x⟨q6,q10,q7,q62⟩hk=>?_⟩;rw[ak];simp only[go_sem,Bb,q6,q10,q62,hil,nl,a1,a2,a3,↓hra,↓hrb,e2,WZ];exact hk _ (by simp only[go_sem,q6,q10,q7,and_self])
   .rw[if_neg hxy]at hst;have e1:(x.1=y.1/\x.2=y.2)=False:=by rw[wu];exact eq_false hxy
    have e2:(y.1=x.1/\y.2=x.2)=False:=by rw[wu];exact eq_false λh=>hxy h.symm
    obtain⟨G3,hG3,f3,p3,n3⟩:=Heap.aV w0 (.cells [.int 3 i,.str y.1 y.2]);obtain⟨v',G4,hap,o4,f4,-⟩:=Own.app (w:=v) (x:=.slice G.n 0 1 2 0) (f.trans f3) (o.fresh f3) (λ{id f}=>ia p3 rfl) rfl (λz hz=>by rcases YN.1 hz with rfl|hz;rfl;rw[YK.1 hz];rfl) (by omega);refine⟨v',G4,⟨f4,by rw[hst,YB,dY];exact o4⟩,λd kx r e x⟨q6,q10,q7,q62⟩hk=>?_⟩;rw[ak];simp only[go_sem,Bb,q6,q10,q7,q62,hil,nl,a1,a2,a3,↓hra,↓hrb,e2,w0,hG3,↓hap];refine hk _ ?_;simp only[go_sem,q6,q10,and_self]) 8 0 .aE H (by omega) ⟨ah.refl hw,Own.nil⟩;have hc8:jG a b 8=Et a b:=by unfold Et;rw[hb]
 rw[hc8]at o';refine⟨G',v',f',o',λd kx e x q6 q10 q7 q62 hk=>z d kx fuel e x (by omega) ⟨q6,q10,q7,q62⟩ λr e'⟨q6,q10,q7,q62⟩=>?_⟩;have e6:=by omega
 rw[ak];simp only[go_sem,ZE,Bb,q62,nl];exact hk _ q7
def jQ(c:CH)(i:Nat):List Tx:=if i=0then zT c.size else(c.ae.getD (i-1) ⟨[],(0,0),false⟩).jB
set_option maxRecDepth 4000in theorem Ar(T:aB t){c:CH}{v:V}{p i:Nat}(C:iO H p c v)(hi:nn i)(hfu:1000<fuel):∃H' v',(∀(d:Nat)(k:K),aj (aS cp t fuel (d+2)) (.func 100 []) [.ptr p 0,.int 3 i] H k=k (.cG [v',.int 3 (if i<c.ae.length then 0 else 5)]) H')/\ah H H'/\(¬i<c.ae.length->v'=.aE)/\∀s,c.ae[i]?=some s->Own H H' v' 2 (Et (jQ c i) s.jB).length (bX (Et (jQ c i) s.jB)):=by
 have hn:=C.ok.n;have w:=C.wf;have z0:=λ{d}{k}=>fQ (cp:=cp) (fuel:=fuel) T C d k;have sn:=λ{id}{f}=>C.own.sn (id:=id) (f:=f);have a1:=l_ c.ae.length;have a2:=n_ c.ae.length;have a3:=n_ 0;have a4:¬i<0:=by omega
 have g:=C.get;obtain⟨x0,x1,x2,x3,x4,x5,x6,x7,e⟩:=gD C.ok.l8;simp only[nK,e,YP,YZ,YL,YJ,sv]at g;by_cases hlt:i<c.ae.length
 .have hge:¬c.ae.length<=i:=by omega
  have hsi:=YA hlt;rw[if_pos hlt];obtain⟨G1,z1o,f1⟩:=sG (cp:=cp) T w C.ok.s8 hfu;have z1:=λ{d}{k}=>z1o d k;clear z1o;have w1:=f1.wf;obtain⟨G2,hG2,f2,p2,n2⟩:=Heap.aV w1 (.cells [.str 0 0,.str 0 0,.str 0 0,.str 0 0,.str 0 0,.str 0 0,.str 0 0,.str 0 0]);have w2:=f2.wf;have b2:G1.n<G2.n:=by omega
  obtain⟨G3,hG3,f3,p3,n3,w3,k3⟩:=Heap.bq f2 (YC _) b2 (.cells ((zT c.size).map sv));have f13:=f1.trans f3;have C3:=C.fresh f13;have g3:=C3.get;simp only[nK,e,YP,YZ,YL,YJ,sv]at g3;have base:∃G4,ah H G4/\G3.n<=G4.n/\G4.get G1.n=.cells ((jQ c i).map sv)/\(jQ c i).length=8/\∀(d)(kn)(kx)(e)(x),af s000 e=.ptr p 0->af s001 e=.int 3 i->af s006 e=.ptr G1.n 0->(∀e',af s000 e'=.ptr p 0->af s001 e'=.int 3 i->af s006 e'=.ptr G1.n 0->gH LK fuel (aS cp t fuel d) e' G4 kn kx=x)->gH LJ fuel (aS cp t fuel d) e G3 kn kx=x:=by
   unfold jQ;by_cases h0:i=0
   .subst h0;simp only[if_true];refine⟨G3,f13,YC _,p3,mH C.ok.s8,λd kn kx e x q0 q1 q6 hk=>?_⟩;have e0:¬0<0:=by omega
    simp only[go_sem,LJ,q1,a3,e0];exact hk _ q0 q1 q6
   .obtain⟨j,rfl⟩:=s_ i;have hj:j<c.ae.length:=by omega
    simp only[h0,if_false,Wp];rw[YG,YA hj,YU];obtain⟨b,z,s,hv,hbn,hrd⟩:=C3.jB hj;have hrd:=λ{id}{k}=>hrd rfl (id:=id) (k:=k);have h8:=C.ok.v8 _ (YT hj);generalize c.ae[j]=s' at hrd h8;have b3:G1.n<G3.n:=by omega
    obtain⟨G4,hG4,f4,p4,n4,w4,k4⟩:=Heap.bq f3 (YC _) b3 (.cells (s'.jB.map sv));refine⟨G4,f1.trans f4,by omega,p4,h8,λd kn kx e y q0 q1 q6 hk=>?_⟩;have e1:0<j+1:=by omega
    have e2:(j+1+18446744073709551615)%18446744073709551616=j:=by unfold nn at hi;omega
    have e3:=n_ j;have e4:=l_ j;have e5:=by omega
    obtain⟨y0,y1,y2,y3,y4,y5,y6,y7,ey⟩:=gD h8;obtain⟨u0,u1,u2,u3,u4,u5,u6,u7,eu⟩:=gD (mH C.ok.s8);simp only[ey,eu,YP,YZ,sv]at hrd hG4 p3;rw[hv]at g3;simp only[go_sem,LJ,q0,q1,q6,a3,hi,e1,e2,e4,hj,g3,WG,WN,↓hrd,p3,w3,b3,hG4];exact hk _ q0 q1 q6
  obtain⟨G4,f4,n4,p4,hpl,zb⟩:=base;have C4:=C.fresh f4;have g4:=C4.get;simp only[nK,e,YP,YZ,YL,YJ,sv]at g4;obtain⟨b,z,s,hv,hbn,hrd⟩:=C4.jB hlt;have hrd:=λ{id}{k}=>hrd rfl (id:=id) (k:=k);have h8:=C.ok.v8 _ (YT hlt);generalize c.ae[i]=sn' at hsi hrd h8;have w4:=f4.wf;obtain⟨G5,hG5,f5,p5,n5⟩:=Heap.aV w4 (.cells [.str 0 0,.str 0 0,.str 0 0,.str 0 0,.str 0 0,.str 0 0,.str 0 0,.str 0 0]);have w5:=f5.wf;have b5:G4.n<G5.n:=by omega
  have hbb:=by omega
  have gb5:=f5.same _ hbn;obtain⟨G6,hG6,f6,p6,n6,w6,k6⟩:=Heap.bq f5 (YC _) b5 (.cells (sn'.jB.map sv));have q4:=(f6.same _ (by omega)).trans p4;have hb4:=hi;have hb5:=l_ i;have hrep:∀{id}{f},hU id [2,2,2,2,2,2,2,2] (sn'.jB.map sv) ((jQ c i).map sv) f=f (decide (sn'.jB=jQ c i)):=λ{id f}=>eqV h8 hpl;have f46:=f4.trans f6;by_cases hsame:sn'.jB=jQ c i
  .have hnil:Et (jQ c i) sn'.jB=[]:=by rw[hsame];exact xK _
   simp only[decide_eq_true hsame]at hrep;refine⟨G6,.aE,λd k=>?_,f46,λh=>absurd hlt h,λs' hs'=>by rw[hsi]at hs';cases hs';rw[hnil];exact Own.nil⟩;generalize jQ c i=pv at*;obtain⟨y0,y1,y2,y3,y4,y5,y6,y7,ey⟩:=gD h8;obtain⟨u0,u1,u2,u3,u4,u5,u6,u7,eu⟩:=gD hpl;obtain⟨w0',w1',w2',w3',w4',w5',w6',w7',ew⟩:=gD (mH C.ok.s8);clear hsame hnil;simp only[ey,eu,ew,YP,YZ,sv]at hrd hG3 hG6 p6 q4 z1 hrep;rw[aI T.k50 rfl rfl];simp only[go_sem,c50,LG,LH,SI,↓z0,g,↓sn,a1,a2,a3,a4,hi,hge,↓z1,w1,hG2,p2,w2,b2,hG3];refine zb (d+1) _ _ _ _ ?_ ?_ ?_ λe' q0 q1 q6=>?_;.rfl
   .rfl
   .rfl
   rw[hv]at g4;simp only[go_sem,LK,SJ,SK,SL,q0,q1,q6,g4,hb5,hlt,WG,WN,↓hrd,w4,hG5,p5,w5,b5,hG6,p6,q4,↓bG,↓hrep,WZ]
  .simp only[decide_eq_false hsame]at hrep;obtain⟨G7,v',f7,o7,z7⟩:=NG (cp:=cp) T w6 q4 (by omega) p6 (by omega) hpl h8 hfu;refine⟨G7,v',λd k=>?_,f46.trans f7,λh=>absurd hlt h,λs' hs'=>by rw[hsi]at hs';cases hs';exact o7.sub (by have:=f46.n;omega)⟩;generalize jQ c i=pv at*;obtain⟨y0,y1,y2,y3,y4,y5,y6,y7,ey⟩:=gD h8;obtain⟨u0,u1,u2,u3,u4,u5,u6,u7,eu⟩:=gD hpl;obtain⟨w0',w1',w2',w3',w4',w5',w6',w7',ew⟩:=gD (mH C.ok.s8);clear hsame o7;simp only[ey,eu,ew,YP,YZ,sv]at hrd hG3 hG6 p6 q4 z1 hrep;rw[aI T.k50 rfl rfl];simp only[go_sem,c50,LG,LH,SI,↓z0,g,↓sn,a1,a2,a3,a4,hi,hge,↓z1,w1,hG2,p2,w2,b2,hG3];refine zb (d+1) _ _ _ _ ?_ ?_ ?_ λe' q0 q1 q6=>?_;.rfl
   .rfl
   .rfl
   rw[hv]at g4;simp only[go_sem,LK,SJ,q0,q1,q6,g4,hb5,hlt,WG,WN,↓hrd,w4,hG5,p5,w5,b5,hG6,p6,q4,↓bG,↓hrep,YV];refine z7 (d+1) _ _ _ ?_ ?_ ?_ ?_ λe'' q7=>?_;.exact q6
   .rfl
   .rfl
   .rfl
   simp only[go_sem,SK,SL,q7]
 .have hge:c.ae.length<=i:=by omega
  rw[if_neg hlt];refine⟨H,.aE,λd k=>?_,ah.refl w,λ_=>rfl,λs hs=>absurd (YQ.1 hs).1 hlt⟩;rw[aI T.k50 rfl rfl];simp only[go_sem,c50,LG,LH,↓z0,g,↓sn,a1,a2,a3,a4,hi,hge]
end
def eR(c n:Nat):List UInt8:=Yc n (UInt8.ofNat c)
theorem gj{c n}:(eR c n).length=n:=WW
theorem J2{c n}:eR c (n+1)=eR c n++[UInt8.ofNat c]:=YN4
theorem Pr{c i}(h:c<256):KH (enc (eR c i)) i 1 c=enc (eR c (i+1)):=by
 have h1:=jj (eR c i);rw[gj]at h1;have h2:enc (eR c i)>>>(8*(i+1))=0:=by rw[yf,List.drop_eq_nil_of_le (by rw[gj];omega)];rfl
 rw[J2,jh,gj];unfold KH;rw[h2,WH h1];simp only[enc];have h3:(UInt8.ofNat c).toNat=c:=by simp_all
 rw[h3]
def dT(c:Nat):Tx:=(32,enc (eR c 32))
theorem FN(c):tM (dT c):=by have:=jj (eR c 32);exact this
section
variable{cp:RC->au}{t:Nat->Option du}{fuel:Nat}{H:Heap}
theorem qI(T:aB t){c:Nat}(hw:H.wf)(hc:c<=250)(hfu:1000<fuel):∃H',(∀(d:Nat)(k:K),aj (aS cp t fuel (d+1)) (.func 30 []) [.int 4 c] H k=k (.str 32 (enc (eR c 32))) H')/\ah H H':=by
 obtain⟨G1,hG1,f1,p1,n1⟩:=Heap.aV hw (.bytes 32 0);have n32:=n_ 32;obtain⟨_,G',⟨f',g',n'⟩,z⟩:=bK (c:=Lw) (fuel:=fuel) (n:=32) (I:=λi _ G=>ah H G/\G.get H.n=.bytes 32 (enc (eR c i))/\H.n<G.n) (S:=λi _ e=>af s000 e=.int 4 c/\af s003 e=.slice H.n 0 32 33 0/\af s004 e=.int 3 i) (λi _ G hil⟨f,g,hn⟩=>by
   have hx:=Pr (c:=c) (i:=i) (by omega);have w0:=f.wf;obtain⟨G2,hG2,f2,p2,n2,w2,k2⟩:=Heap.bq f (YC _) hn (.bytes 32 (enc (eR c (i+1))));have a1:=n_ i;have a2:=l_ i;have a3:=m_ (i+1);have a4:i+1<=32:=by omega
   refine⟨(),G2,⟨f2,p2,by omega⟩,λd kx r e x⟨q0,q3,q4⟩hk=>?_⟩;rw[ak];simp only[go_sem,ZE,Lw,q0,q3,q4,hil,n32,a1,a2,a3,a4,g,hx,w0,hn,hG2];exact hk _ (by simp only[go_sem,q0,q3,and_self])) 32 0 () G1 (by omega) ⟨f1,p1,by omega⟩;refine⟨G',λd k=>?_,f'⟩;have e6:¬(32:Nat)<32:=by omega
 have e7:¬ej (.gt 0 256) c 250=true:=by rw[LZ];omega
 have e8:enc (eR c 32)%256^32=enc (eR c 32):=WH (FN c);have e9:=by omega
 rw[aI T.k15 rfl rfl];simp only[go_sem,c15,hw,hG1];refine z d _ fuel _ _ (by omega) ⟨?_,?_,?_⟩ λr e'⟨q0,q3,q4⟩=>?_;.rfl
 .rfl
 .rfl
 rw[ak];simp only[go_sem,ZE,Lw,q0,q3,q4,n32,e6,e7,g',Nat.shiftRight_zero,e8]
theorem kO(T:aB t){a b}(hw:H.wf):∃H',(∀(d)(k),aj (aS cp t fuel (d+1)) (.func 28 []) [.int 7 a,.int 7 b] H k=k (.agg [.int 7 a,.int 7 b]) H')/\ah H H':=by
 obtain⟨G1,hG1,f1,p1,n1⟩:=Heap.aV hw (.cells [.int 7 0,.int 7 0]);have w1:=f1.wf;have b1:H.n<G1.n:=by omega
 obtain⟨G2,hG2,f2,p2,n2,w2,k2⟩:=Heap.bq f1 (YC _) b1 (.cells [.int 7 a,.int 7 b]);refine⟨G2,λd k=>?_,f2⟩;rw[aI T.k14 rfl rfl];simp only[go_sem,c14,hw,hG1,p1,w1,b1,hG2,↓eM,p2]
theorem As(T:aB t){X b c cx sx}(hw:H.wf)(gX:H.get X=.cells [.int 3 b,.int 4 c])(hX:X<H.n)(hb:nn b)(hc:c<=250)(hfu:1000<fuel):∃H' v',(∀(d)(k),aj (aS cp t fuel (d+2)) (.func 64 []) [.slice X 0 1 cx sx] H k=k v' H')/\ah H H'/\Own H H' v' 2 1 [.int 3 b,.str 32 (enc (eR c 32))]:=by
 have wm:H.mark.wf:=by exact hw
 obtain⟨Gm',z1',f1'⟩:=qI T wm hc hfu;obtain⟨Gm,G1,z1o,hu1,hl1,f1⟩:=ri (cp:=cp) ⟨Gm',z1',f1'⟩;have z1:=λ{d}{k}=>z1o d k;have w1:=f1.wf;obtain⟨G2,hG2,f2,p2,n2⟩:=Heap.aV w1 (.cells [.int 3 b,.str 32 (enc (eR c 32))]);obtain⟨v',G3,hap,o3,f3,-⟩:=Own.app (w:=.aE) (x:=.slice G1.n 0 1 2 0) (sz:=2) (f1.trans f2) Own.nil (λ{id f}=>ia p2 rfl) rfl (λz hz=>by rcases YN.1 hz with rfl|hz;rfl;rw[YK.1 hz];rfl) (by omega);have a0:=n_ 0;have a1:=n_ 1;have a2:=n_ 10;have e0:=by omega
 have e1:=by omega
 have e2:=by omega
 obtain⟨f,rfl⟩:∃f,fuel=f+2:=⟨fuel-2,by omega⟩;refine⟨G3,v',λd k=>?_,f3,o3⟩;rw[aI T.k32 rfl rfl];simp only[go_sem,c32];rw[ak];simp only[go_sem,ZE,aaW,a0,a1,a2,gX,↓z1,hu1,hl1,w1,hG2,↓hap];rw[ak];simp only[go_sem,ZE,a1]
theorem zX(T:aB t){O Q:Nat->Prop}{va vb:V}{a b:List Tx}(hw:H.wf)(hA:AZ H O va a)(hB:AZ H Q vb b)(ha:a.length<1000)(hb:b.length<1000)(hfu:1000<fuel)(d:Nat)(k:K):aj (aS cp t fuel (d+1)) (.func 90 []) [va,vb] H k=k (.bool (decide (a=b))) H:=by
 have sa:=λ{id}{f}=>hA.sn (id:=id) (f:=f);have sb:=λ{id}{f}=>hB.sn (id:=id) (f:=f);have na:=n_ a.length;have ha9:=l_ a.length;have hb9:=l_ b.length;by_cases hl:a.length=b.length
 .have run:=kC (c:=EZ) (fuel:=fuel) (ph:=λd=>aS cp t fuel d) (τ:=Unit) (n:=a.length) (I:=λi _ G=>G=H/\∀j,j<i->a.getD j t0=b.getD j t0) (S:=λi _ e=>af s000 e=va/\af s001 e=vb/\af s005 e=.int 3 i) (J:=λ_ G=>G=H/\a≠b) (Q:=λ_ e=>af s004 e=.bool false) (j:=λ_=>0) (λi _ G hil⟨hG,hno⟩=>by
    subst hG;obtain⟨ba,oa,ca,za,hva,-,-,hra⟩:=hA.open hil;obtain⟨bb,ob,cb,zb,hvb,-,-,hrb⟩:=hB.open (i:=i) (by omega);have hra:=λ{id}{k}=>hra rfl (id:=id) (k:=k);have hrb:=λ{id}{k}=>hrb rfl (id:=id) (k:=k);have hil':i<b.length:=by omega
    have hga:a.getD i t0=a[i]:=by rw[YG,YA hil,YU]
    have hgb:b.getD i t0=b[i]:=by rw[YG,YA hil',YU]
    have hne:a[i]≠b[i]->a≠b:=λh e=>h (by subst e;rfl);generalize a[i]=x at hra hga hne;generalize b[i]=y at hrb hgb hne;simp only[sv]at hra hrb;have a1:=n_ i;have a2:=l_ i;have a3:=m_ (i+1);by_cases hxy:x=y
    .have e1:(x.1=y.1/\x.2=y.2)=True:=by rw[wu];exact eq_true hxy
     refine YF ⟨(),G,⟨rfl,λj hj=>?_⟩,λd kx r e z⟨q0,q1,q5⟩hk=>?_⟩
     .by_cases hji:j<i;.exact hno j hji
      .obtain rfl:j=i:=by omega
       rw[hga,hgb,hxy]
     rw[hva]at q0;rw[hvb]at q1;rw[ak];simp only[go_sem,EZ,q0,q1,q5,hil,hil',na,ha9,a1,a2,a3,↓hra,↓hrb,e1,WZ];exact hk _ (by simp only[go_sem,q0,q1,hva,hvb,and_self])
    .have e1:(x.1=y.1/\x.2=y.2)=False:=by rw[wu];exact eq_false hxy
     refine YD ⟨(),G,⟨rfl,hne hxy⟩,λd kx r e z⟨q0,q1,q5⟩hk=>?_⟩;rw[hva]at q0;rw[hvb]at q1;rw[ak];simp only[go_sem,EZ,q0,q1,q5,hil,hil',na,ha9,a1,a2,↓hra,↓hrb,e1];refine hk _ ?_;simp only[go_sem,↓reduceIte]) a.length 0 () H (by omega) ⟨rfl,λj hj=>by omega⟩;rw[aI T.k45 rfl rfl];simp only[go_sem,c45,↓sa,↓sb,hb9,hl];rcases run with⟨_,G',⟨rfl,hno⟩,z⟩|⟨_,G',⟨rfl,hne⟩,z⟩
  .have heq:=List.ext_getElem hl λi h1 h2=>by have:=hno i h1;rwa[YG,YG,YA h1,YA h2]at this
   rw[decide_eq_true heq];refine z d _ fuel _ _ (by omega) ⟨?_,?_,?_⟩ λr e'⟨q0,q1,q5⟩=>?_;.rfl
   .rfl
   .rfl
   have e6:¬a.length<a.length:=by omega
   rw[ak];simp only[go_sem,EZ,q0,q5,↓sa,ha9,na,e6]
  .rw[decide_eq_false hne];refine z d _ fuel _ _ (by omega) ⟨?_,?_,?_⟩ λe' q4=>?_;.rfl
   .rfl
   .rfl
   simp only[go_sem,q4]
 .have hne:¬a=b:=λe=>hl (by rw[e]);rw[decide_eq_false hne,aI T.k45 rfl rfl];simp only[go_sem,c45,↓sa,↓sb,ha9,hb9,hl,not_false_eq_true]
end
structure gE(A:AD)(m:MT)(c:CH):Prop where
 live:m.live.map (cV A)=c.live
 len:m.ae.length=c.ae.length
 sn:∀(i:Nat)(s:Sn)(s':Cn),m.ae[i]?=some s->c.ae[i]?=some s'->s.g=s'.g/\s.hid=s'.hid/\s.bT.map (cV A)=s'.jB
theorem GF{g}:∀{a}{b},a.length=b.length->(∀(i:Nat)(s)(s'),a[i]?=some s->b[i]?=some s'->s.g=s'.g)->rZ a g=cidx b g|[],[],_,_=>rfl|[],_::_,h,_=>by simp_all|_::_,[],h,_=>by simp_all|x::a,y::b,h,hs=>by have h0:=hs 0 x y rfl rfl;have ih:=GF (g:=g) (by simpa using h) λi s s' h1 h2=>hs (i+1) s s' (by simp_all) (by simp_all);unfold rZ cidx at ih⊢;rw[YP4,YP4,h0,ih]
def ZP(A:AD)(m:MT)(g:Gd):List Tx:=if(cW m g).2=0then(m.ae.getD (cW m g).1 ⟨(0,0),[],false⟩).bT.map (cV A)else[]
def ZO(c:CH)(g:Gd):List Tx:=if(pJ c g).2=0then(c.ae.getD (pJ c g).1 ⟨[],(0,0),false⟩).jB else[]
theorem gE.find{A:AD}{m:MT}{c:CH}(h:gE A m c)(g:Gd):cW m g=pJ c g:=by
 have hi:=GF (g:=g) h.len λi s s' h1 h2=>(h.sn i s s' h1 h2).1;unfold cW pJ;rw[hi];rcases hx:cidx c.ae g with _|i;.rfl
 .obtain⟨hlt,-⟩:=wU hx;have hlt':i<m.ae.length:=by rw[h.len];exact hlt
  have:=(h.sn i _ _ (YA hlt') (YA hlt)).2.1;simp only[YG,YA hlt,YA hlt',YU,this]
theorem gE.read{A:AD}{m:MT}{c:CH}(h:gE A m c)(g:Gd):ZP A m g=ZO c g:=by
 unfold ZP ZO;rw[h.find g];by_cases h0:(pJ c g).2=0
 .rw[if_pos h0,if_pos h0];obtain⟨i,hi,hr,-⟩:=xI h0;have hlt':i<m.ae.length:=by rw[h.len];exact hi
  rw[hr];simp only[YG,YA hi,YA hlt',YU];exact(h.sn i _ _ (YA hlt') (YA hi)).2.2
 .rw[if_neg h0,if_neg h0]
theorem zT8:zT 8=Yc 8 (32,0):=by rfl
theorem gE.prev{A:AD}{m:MT}{c:CH}(h:gE A m c)(h8:m.live.length=8)(hs:c.size=8){i:Nat}(hi:i<m.ae.length):(nB m i).map (cV A)=jQ c i:=by
 unfold nB jQ;by_cases h0:i=0;.rw[if_pos h0,if_pos h0,h8,hs,zT8,Wh];rfl
 .rw[if_neg h0,if_neg h0];have h1:i-1<m.ae.length:=by omega
  have h2:i-1<c.ae.length:=by rw[<-h.len];exact h1
  simp only[YG,YA h1,YA h2,YU];exact(h.sn (i-1) _ _ (YA h1) (YA h2)).2.2
theorem eqW{id}{w w':Wr}{f}:hU id [1,2] [.int 3 w.1,.str w.2.1 w.2.2] [.int 3 w'.1,.str w'.2.1 w'.2.2] f=f (decide (w=w')):=by
 rw[cq,FV,dw];obtain⟨a,b,c⟩:=w;obtain⟨a',b',c'⟩:=w';by_cases h1:a=a'
 .by_cases h2:b=b'/\c=c';.simp_all
  .rw[if_pos h1,if_neg h2];congr 1;simp_all
 simp_all
section
variable{cp:RC->au}{t:Nat->Option du}{fuel:Nat}{H:Heap}
theorem EK(T:aB t){O Q:Nat->Prop}{va vb v0 v1 v7 v10 v11:V}{p q:List Wr}(hP:Row H O va 2 p.length (bX p))(hQ:Row H Q vb 2 q.length (bX q))(hl:p.length=q.length)(hp:p.length<1000)(hfu:1000<fuel)(d:Nat)(kx:Nat->KE)(e:Env)(x:R)(q0:af s000 e=v0)(q1:af s001 e=v1)(q7:af s007 e=v7)(q10:af s010 e=v10)(q11:af s011 e=v11)(q16:af s016 e=va)(q20:af s020 e=vb)(q22:af s022 e=.int 3 0)(h1:p=q->∀e',af s000 e'=v0->af s001 e'=v1->af s007 e'=v7->af s010 e'=v10->af s011 e'=v11->kx 3 e' H=x)(h2:p≠q->∀e',af s004 e'=.bool false->kx 0 e' H=x):kq A7 fuel (aS cp t fuel d) kx fuel e H=x:=by
 have sa:=λ{id}{f}=>hP.sn (id:=id) (f:=f);have na:=n_ p.length;have ha9:=l_ p.length;have run:=kC (c:=A7) (fuel:=fuel) (ph:=λd=>aS cp t fuel d) (τ:=Unit) (n:=p.length) (I:=λi _ G=>G=H/\∀j,j<i->p[j]?=q[j]?) (S:=λi _ e=>af s000 e=v0/\af s001 e=v1/\af s007 e=v7/\af s010 e=v10/\af s011 e=v11/\af s016 e=va/\af s020 e=vb/\af s022 e=.int 3 i) (J:=λ_ G=>G=H/\p≠q) (Q:=λ_ e=>af s004 e=.bool false) (j:=λ_=>0) (λi _ G hil⟨hG,hno⟩=>by
   subst hG;have hil':i<q.length:=by omega
   have hsp:=YA hil;have hsq:=YA hil';obtain⟨ba,oa,ca,za,hva,-,-,hra⟩:=hP.open hil;obtain⟨bb,ob,cb,zb,hvb,-,-,hrb⟩:=hQ.open hil';have hra:=λ{id}{k}=>(hra rfl).1 (id:=id) (k:=k);have hrb:=λ{id}{k}=>(hrb rfl).1 (id:=id) (k:=k);rw[lZ hsp]at hra;rw[lZ hsq]at hrb;have hne:p[i]≠q[i]->p≠q:=λh e=>h (by subst e;rfl);have hpq:p[i]=q[i]->p[i]?=q[i]?:=λh=>by rw[hsp,hsq,h]
   generalize p[i]=y at hra hne hpq;generalize q[i]=z at hrb hne hpq;have a1:=n_ i;have a2:=l_ i;have a3:=m_ (i+1);by_cases hyz:y=z
   .have e1:∀{id}{f},hU id [1,2] [.int 3 y.1,.str y.2.1 y.2.2] [.int 3 z.1,.str z.2.1 z.2.2] f=f true:=λ{id f}=>by rw[eqW,decide_eq_true hyz]
    refine YF ⟨(),G,⟨rfl,λj hj=>?_⟩,λd kx r e w⟨q0,q1,q7,q10,q11,q16,q20,q22⟩hk=>?_⟩
    .by_cases hji:j<i;.exact hno j hji
     .obtain rfl:j=i:=by omega
      exact hpq hyz
    rw[hva]at q16;rw[hvb]at q20;rw[ak];simp only[go_sem,A7,q16,q20,q22,hil,hil',na,ha9,a1,a2,a3,↓hra,↓hrb,↓bG,↓e1,WZ];exact hk _ (by simp only[go_sem,q0,q1,q7,q10,q11,q16,q20,hva,hvb,and_self])
   .have e1:∀{id}{f},hU id [1,2] [.int 3 y.1,.str y.2.1 y.2.2] [.int 3 z.1,.str z.2.1 z.2.2] f=f false:=λ{id f}=>by rw[eqW,decide_eq_false hyz]
    refine YD ⟨(),G,⟨rfl,hne hyz⟩,λd kx r e w⟨q0,q1,q7,q10,q11,q16,q20,q22⟩hk=>?_⟩;rw[hva]at q16;rw[hvb]at q20;rw[ak];simp only[go_sem,A7,q16,q20,q22,hil,hil',na,ha9,a1,a2,↓hra,↓hrb,↓bG,↓e1,YV];refine hk _ ?_;simp only[go_sem,↓reduceIte]) p.length 0 () H (by omega) ⟨rfl,λj hj=>by omega⟩;rcases run with⟨_,G',⟨rfl,hno⟩,z⟩|⟨_,G',⟨rfl,hne⟩,z⟩
 .have heq:=Qa λi=>by
   by_cases hi:i<p.length;.exact hno i hi
   .rw[WT (by omega),WT (by omega)]
  refine z d kx fuel e x (by omega) ⟨q0,q1,q7,q10,q11,q16,q20,q22⟩ λr e'⟨q0,q1,q7,q10,q11,q16,q20,q22⟩=>?_;have e6:¬p.length<p.length:=by omega
  rw[ak];simp only[go_sem,A7,q16,q22,↓sa,ha9,na,e6];exact h1 heq _ q0 q1 q7 q10 q11
 .exact z d kx fuel e x (by omega) ⟨q0,q1,q7,q10,q11,q16,q20,q22⟩ λe' q4=>h2 hne e' q4
end
theorem Row.nil{H:Heap}{O:Nat->Prop}{sz:Nat}:Row H O .aE sz 0 []:=⟨by simp,λx hx=>(by cases hx),YF ⟨YF rfl,rfl⟩⟩
theorem tA:∀{l}{i}{g},l[i]?=some g->((jK l).drop (i*2)).take 2=aZ g|[],i,g,h=>by simp_all|a::l,0,g,h=>by simp at h;subst h;rfl|a::l,i+1,g,h=>by have:=tA (by simpa using h);rw[show(i+1)*2=i*2+2by omega];exact this
structure Rt(H0 H:Heap)(dp vp a n:Nat)(A:AD)(O:Nat->Prop)(m:MT)(vl vs vi:V)(p:Nat)(c:CH)(v:V):Prop where
 st:Step H0 (bg O vp) H (bg O vp)vp:VP H dp vp a n A O m vl vs vi
 ch:iO H p c v
section
variable{H0 H G:Heap}{dp vp a n p:Nat}{A:AD}{O:Nat->Prop}{m:MT}{vl vs vi v:V}{c:CH}
theorem Rt.fresh(h:Rt H0 H dp vp a n A O m vl vs vi p c v)(f:ah H G):Rt H0 G dp vp a n A O m vl vs vi p c v:=⟨h.st.trans f.step,h.vp.fresh f,h.ch.fresh f⟩
theorem Rt.step(h:Rt H0 H dp vp a n A O m vl vs vi p c v)(hd:∀b,CQ p v b->¬bg O vp b)(s:Step H (bg O vp) G (bg O vp))(S:VP G dp vp a n A O m vl vs vi):Rt H0 G dp vp a n A O m vl vs vi p c v:=⟨h.st.trans s,S,(h.ch.bU s hd).1⟩
end
section
variable{cp:RC->au}{t:Nat->Option du}{fuel:Nat}{H:Heap}
set_option maxRecDepth 4000in theorem Lr(T:aB t)(hc:aM t){dp vp a n p:Nat}{A:AD}{O:Nat->Prop}{m:MT}{vl vs vi v:V}{c:CH}(S:VP H dp vp a n A O m vl vs vi)(C:iO H p c v)(hd:∀b,CQ p v b->¬bg O vp b)(h8:m.live.length=8)(hs:c.size=8)(hll:∀q∈m.live,q<A.len)(hlp:∀s∈m.ae,∀q∈s.bT,q<A.len)(hil:∀s∈m.ae,s.bT.length=m.live.length)(hfu:1000<fuel):∃H' b,(∀(d:Nat)(k:K),aj (aS cp t fuel (d+6)) (.func 24 []) [.ptr vp 0,.ptr p 0] H k=k (.bool b) H')/\Rt H H' dp vp a n A O m vl vs vi p c v/\(gE A m c->b=true):=by
 have hn0:=S.ok.num;have hcn:=C.ok.n;have hc8:∀l:List Tx,l.length=8->l.take c.size=l:=λl hl=>by rw[hs,Yk (by omega)]
 obtain⟨G1,x1,z1o,s1,S1,o1⟩:=OV (cp:=cp) T hc S hll hfu;have z1:=λ{d:Nat}{k:K}=>z1o d k;clear z1o;have V1:Rt H G1 dp vp a n A O m vl vs vi p c v:=(Rt.mk (Step.refl S.cK.wf) S C).step hd s1 S1;obtain⟨G2,y2,z2o,f2,o2⟩:=Js (cp:=cp) (fuel:=fuel) T V1.ch;have z2:=λ{d:Nat}{k:K}=>z2o (d+2) k;clear z2o;have V2:=V1.fresh f2;rw[hc8 _ C.ok.l8]at o2;have hX1:AZ G2 (bg O vp) x1 (m.live.map (cV A)):=by have:=(o1.toRow (O:=bg O vp) S.lt).fresh f2;unfold AZ;rw[Yg,List.map_map];exact this
 have hY2:AZ G2 (bg O vp) y2 c.live:=by have:=o2.toRow (O:=bg O vp) S1.lt;unfold AZ;rw[C.ok.l8];rw[hs]at this;exact this
 have z3:=λ{d:Nat}{k:K}=>zX (cp:=cp) (fuel:=fuel) T V2.vp.cK.wf hX1 hY2 (by rw[Yg];omega) (by rw[C.ok.l8];omega) hfu d k;have z3:=λ{d:Nat}{k:K}=>z3 (d:=d+4) (k:=k);have nl:=n_ m.ae.length;have n9:=l_ m.ae.length;have c9:=l_ c.ae.length;by_cases hlv:m.live.map (cV A)=c.live;rotate_left;.rw[decide_eq_false hlv]at z3;refine⟨G2,false,λd k=>?_,V2,λh=>absurd h.live hlv⟩;rw[aI T.k12 rfl rfl];simp only[go_sem,c12,EP,ER,↓z1,↓z2,↓z3]
 rw[decide_eq_true hlv]at z3;obtain⟨G3,vL,z4o,f3,o3⟩:=Ad (cp:=cp) (fuel:=fuel) T V2.vp hfu;have z4:=λ{d:Nat}{k:K}=>z4o (d+4) k;clear z4o;have V3:=V2.fresh f3;obtain⟨G4,vM,z5o,f4,o4⟩:=Fu (cp:=cp) (fuel:=fuel) T V3.ch hfu;have z5:=λ{d:Nat}{k:K}=>z5o (d+3) k;clear z5o;have V4:=V3.fresh f4;have hL4:Row G4 (bg O vp) vL 2 m.ae.length (jK (m.ae.map (·.g))):=(o3.toRow (O:=bg O vp) V2.vp.lt).fresh f4;have hM4:Row G4 (bg O vp) vM 2 c.ae.length (jK (c.ae.map (·.g))):=o4.toRow (O:=bg O vp) V3.vp.lt;have sL:=λ{id:Nat}{f:Nat->R}=>hL4.sn (id:=id) (f:=f);have sM:=λ{id:Nat}{f:Nat->R}=>hM4.sn (id:=id) (f:=f);by_cases hlen:m.ae.length=c.ae.length;rotate_left;.refine⟨G4,false,λd k=>?_,V4,λh=>absurd h.len hlen⟩;rw[aI T.k12 rfl rfl];simp only[go_sem,c12,EP,ER,↓z1,↓z2,↓z3];simp only[go_sem,Lu,Lv,↓z4,↓z5,↓sL,↓sM,n9,c9,hlen,not_false_eq_true]
 have run:=kC (c:=te) (fuel:=fuel) (ph:=λd=>aS cp t fuel (d+5)) (σ:=Unit) (τ:=Unit) (n:=m.ae.length) (I:=λi _ G=>Rt H G dp vp a n A O m vl vs vi p c v/\Row G (bg O vp) vL 2 m.ae.length (jK (m.ae.map (·.g)))/\Row G (bg O vp) vM 2 c.ae.length (jK (c.ae.map (·.g)))) (S:=λi _ e=>af s000 e=.ptr vp 0/\af s001 e=.ptr p 0/\af s007 e=vL/\af s010 e=vM/\af s011 e=.int 3 i) (J:=λ_ G=>Rt H G dp vp a n A O m vl vs vi p c v/\¬gE A m c) (Q:=λ_ e=>af s004 e=.bool false) (j:=λ_=>0) (λi _ G hlt⟨Vc,hL,hM⟩=>by
   have hlt':i<c.ae.length:=by omega
   have hsi:m.ae[i]?=some m.ae[i]:=YA hlt;have hci:c.ae[i]?=some c.ae[i]:=YA hlt';have hgi:(m.ae.map (·.g))[i]?=some m.ae[i].g:=by rw[Yq,hsi];rfl
   have hgi':(c.ae.map (·.g))[i]?=some c.ae[i].g:=by rw[Yq,hci];rfl
   have hdis:gE A m c->m.ae[i].g=c.ae[i].g/\m.ae[i].bT.map (cV A)=c.ae[i].jB:=λh=>⟨(h.sn i _ _ hsi hci).1,(h.sn i _ _ hsi hci).2.2⟩;have hmi:=hil _ (YT hlt);have hcv:=C.ok.v8 _ (YT hlt');have a1:=n_ i;have a2:=l_ i;have a3:=m_ (i+1);obtain⟨bL,oL,cL,zL,hvL,hbL,hnL,hrL⟩:=hL.open hlt;obtain⟨bM,oM,cM,zM,hvM,hbM,hnM,hrM⟩:=hM.open hlt';rw[tA hgi]at hrL;rw[tA hgi']at hrM;have hrL0:=λ{id:Nat}{k:List V->R}=>(hrL (G:=G) rfl).1 (id:=id) (k:=k);obtain⟨H1,x,y1o,t1,U1,hx0,hx1⟩:=Ld (cp:=cp) (fuel:=fuel) (g:=m.ae[i].g) T hc Vc.vp hlp hfu;have y1:=λ{d:Nat}{k:K}=>y1o d k;clear y1o;have W1:=Vc.step hd t1 U1;have hX1:AZ H1 (bg O vp) x (ZP A m m.ae[i].g):=by
    unfold ZP;by_cases h0:(cW m m.ae[i].g).2=0;.obtain⟨j,hj,hr,-⟩:=lk h0;have hjj:m.ae[j]?=some m.ae[j]:=YA hj;have:=(hx1 j _ hr hjj).toRow (O:=bg O vp) Vc.vp.lt;rw[if_pos h0,hr];simp only[YG,hjj,YU];unfold AZ;rw[Yg,List.map_map];exact this
    .rw[if_neg h0,hx0 h0];exact Row.nil
   have hrM1:=λ{id:Nat}{k:List V->R}=>(hrM (t1.same _ hbM hnM).1).1 (id:=id) (k:=k);obtain⟨H2,y,y2o,t2,hy0,hy1⟩:=Jy (cp:=cp) (fuel:=fuel) (g:=c.ae[i].g) T W1.ch hfu;have y2':=λ{d:Nat}{k:K}=>y2o (d+1) k;clear y2o;have W2:=W1.fresh t2;have hY2':AZ H2 (bg O vp) y (ZO c c.ae[i].g):=by
    unfold ZO;by_cases h0:(pJ c c.ae[i].g).2=0;.obtain⟨j,hj,hr,-⟩:=xI h0;have hjj:c.ae[j]?=some c.ae[j]:=YA hj;have:=(hy1 j _ hr hjj).toRow (O:=bg O vp) W1.vp.lt;have hj8:=C.ok.v8 _ (YT hj);rw[hc8 _ hj8]at this;rw[if_pos h0,hr];simp only[YG,hjj,YU];unfold AZ;rw[hj8,<-hs];exact this
    .rw[if_neg h0,hy0 h0];exact Row.nil
   obtain⟨H3,x3,y3o,t3,U3,-,hx3⟩:=AV (cp:=cp) (fuel:=fuel) (i:=i) T hc W2.vp a1 hlp hil hfu;have y3:=λ{d:Nat}{k:K}=>y3o d k;clear y3o;have W3:=W2.step hd t3 U3;obtain⟨H4,x4,y4o,t4,-,hx4⟩:=Ar (cp:=cp) (fuel:=fuel) (i:=i) T W3.ch a1 hfu;have y4:=λ{d:Nat}{k:K}=>y4o (d+3) k;clear y4o;have W4:=W3.fresh t4;rw[if_pos hlt]at y3;rw[if_pos hlt']at y4;have t23:Step H2 (bg O vp) H4 (bg O vp):=t3.trans t4.step;have t14:Step H1 (bg O vp) H4 (bg O vp):=t2.step.trans t23;have t04:Step G (bg O vp) H4 (bg O vp):=t1.trans t14;have hXr:AZ H4 (bg O vp) x (ZP A m m.ae[i].g):=hX1.bU t14;have hYr:AZ H4 (bg O vp) y (ZO c c.ae[i].g):=hY2'.bU t23;have hP:Row H4 (bg O vp) x3 2 _ _:=((hx3 _ hsi).toRow (O:=bg O vp) W2.vp.lt).fresh t4;have hQ:Row H4 (bg O vp) x4 2 _ _:=(hx4 _ hci).toRow (O:=bg O vp) W3.vp.lt;have hrL4:=λ{id:Nat}{k:List V->R}=>(hrL (t04.same _ hbL hnL).1).1 (id:=id) (k:=k);have hrM4:=λ{id:Nat}{k:List V->R}=>(hrM (t04.same _ hbM hnM).1).1 (id:=id) (k:=k);have sP:=λ{id:Nat}{f:Nat->R}=>hP.sn (id:=id) (f:=f);have sQ:=λ{id:Nat}{f:Nat->R}=>hQ.sn (id:=id) (f:=f);have hagP:gE A m c->Et ((nB m i).map (cV A)) (m.ae[i].bT.map (cV A))=Et (jQ c i) c.ae[i].jB:=λh=>by rw[h.prev h8 hs hlt,(hdis h).2]
   have hlP:=mT ((nB m i).map (cV A)) (m.ae[i].bT.map (cV A)) (m.ae[i].bT.map (cV A)).length;have hlQ:=mT (jQ c i) c.ae[i].jB c.ae[i].jB.length;rw[Yg]at hlP;have hlP':(Et ((nB m i).map (cV A)) (m.ae[i].bT.map (cV A))).length<=m.ae[i].bT.length:=by unfold Et;rw[Yg];exact hlP
   have hlQ':(Et (jQ c i) c.ae[i].jB).length<=c.ae[i].jB.length:=hlQ;generalize Et ((nB m i).map (cV A)) (m.ae[i].bT.map (cV A))=P at hP sP hagP hlP';generalize Et (jQ c i) c.ae[i].jB=Q at hQ sQ hagP hlQ';have hrdl:(ZP A m m.ae[i].g).length<1000:=by
    unfold ZP;split;.rename_i h0;obtain⟨j,hj,hr,-⟩:=lk h0;rw[hr];simp only[YG,YA hj,YU];rw[Yg,hil _ (YT hj)];omega
    .simp
   have hrdl':(ZO c c.ae[i].g).length<1000:=by
    unfold ZO;split;.rename_i h0;obtain⟨j,hj,hr,-⟩:=xI h0;rw[hr];simp only[YG,YA hj,YU];rw[C.ok.v8 _ (YT hj)];omega
    .simp
   have y5:=λ{d:Nat}{k:K}=>zX (cp:=cp) (fuel:=fuel) T W4.vp.cK.wf hXr hYr hrdl hrdl' hfu (d+4) k;have hfind:gE A m c->(cW m m.ae[i].g).2=(pJ c c.ae[i].g).2:=λh=>by rw[h.find,(hdis h).1]
   have hread:gE A m c->ZP A m m.ae[i].g=ZO c c.ae[i].g:=λh=>by rw[h.read,(hdis h).1]
   have hPl:=l_ P.length;have hQl:=l_ Q.length;have hgg:=λh=>(hdis h).1;have fa:=(F5 (g:=m.ae[i].g) hn0).2;have fb:=(aca (g:=c.ae[i].g) hcn).2;generalize(cW m m.ae[i].g).2=ea at y1 hfind fa;generalize(pJ c c.ae[i].g).2=eb at y2' hfind fb;generalize ZP A m m.ae[i].g=ta at y5 hread;generalize ZO c c.ae[i].g=tb at y5 hread;generalize m.ae[i].g=ga at hrL0 hrL4 y1 hgg;generalize c.ae[i].g=gb at hrM1 hrM4 y2' hgg;simp only[aZ]at hrL0 hrL4 y1 hrM1 hrM4 y2';by_cases d1:ga=gb;rotate_left;.have e1:∀{id:Nat}{f:Bool->R},hU id [1,1] [.int 7 ga.1,.int 7 ga.2] [.int 7 gb.1,.int 7 gb.2] f=f false:=λ{id f}=>XS d1;refine YD ⟨(),H4,⟨W4,λh=>d1 (hgg h)⟩,λd kx r e w⟨q0,q1,q7,q10,q11⟩hk=>?_⟩;rw[hvL]at q7;rw[hvM]at q10;rw[ak];simp only[go_sem,te,q0,q1,q7,q10,q11,n9,nl,a1,a2,hlt,hlt',↓hrL0,↓y1,↓hrM1,↓y2',↓y3,↓y4,↓hrL4,↓hrM4,↓bG,↓e1,YV];refine hk _ ?_;show af _ _=_;simp only[go_sem,↓reduceIte]
   have e1:∀{id:Nat}{f:Bool->R},hU id [1,1] [.int 7 ga.1,.int 7 ga.2] [.int 7 gb.1,.int 7 gb.2] f=f true:=λ{id f}=>Ow d1;by_cases d2:ea=eb;rotate_left;.refine YD ⟨(),H4,⟨W4,λh=>d2 (hfind h)⟩,λd kx r e w⟨q0,q1,q7,q10,q11⟩hk=>?_⟩;rw[hvL]at q7;rw[hvM]at q10;rw[ak];simp only[go_sem,te,q0,q1,q7,q10,q11,n9,nl,a1,a2,hlt,hlt',↓hrL0,↓y1,↓hrM1,↓y2',↓y3,↓y4,↓hrL4,↓hrM4,↓bG,↓e1,WZ,d2,not_false_eq_true];refine hk _ ?_;show af _ _=_;simp only[go_sem,↓reduceIte]
   subst d2;by_cases d3:ta=tb;rotate_left;.rw[decide_eq_false d3]at y5;refine YD ⟨(),H4,⟨W4,λh=>d3 (hread h)⟩,λd kx r e w⟨q0,q1,q7,q10,q11⟩hk=>?_⟩;rw[hvL]at q7;rw[hvM]at q10;rw[ak];simp only[go_sem,te,q0,q1,q7,q10,q11,n9,nl,a1,a2,hlt,hlt',↓hrL0,↓y1,↓hrM1,↓y2',↓y3,↓y4,↓hrL4,↓hrM4,↓bG,↓e1,WZ,↓y5];refine hk _ ?_;show af _ _=_;simp only[go_sem,↓reduceIte]
   rw[decide_eq_true d3]at y5;by_cases d4:P.length=Q.length;rotate_left;.refine YD ⟨(),H4,⟨W4,λh=>d4 (by rw[hagP h])⟩,λd kx r e w⟨q0,q1,q7,q10,q11⟩hk=>?_⟩;rw[hvL]at q7;rw[hvM]at q10;rw[ak];simp only[go_sem,te,q0,q1,q7,q10,q11,n9,nl,a1,a2,hlt,hlt',↓hrL0,↓y1,↓hrM1,↓y2',↓y3,↓y4,↓hrL4,↓hrM4,↓bG,↓e1,WZ,↓y5,↓sP,↓sQ,hPl,hQl,d4,not_false_eq_true];refine hk _ ?_;show af _ _=_;simp only[go_sem,↓reduceIte]
   by_cases d5:P=Q
   .refine YF ⟨(),H4,⟨W4,hL.bU t04,hM.bU t04⟩,λd kx r e w⟨q0,q1,q7,q10,q11⟩hk=>?_⟩;rw[hvL]at q7;rw[hvM]at q10;rw[ak];simp only[go_sem,te,q0,q1,q7,q10,q11,n9,nl,a1,a2,hlt,hlt',↓hrL0,↓y1,↓hrM1,↓y2',↓y3,↓y4,↓hrL4,↓hrM4,↓bG,↓e1,WZ,↓y5,↓sP,↓sQ,hQl,d4];refine EK (va:=x3) (vb:=x4) (v0:=.ptr vp 0) (v1:=.ptr p 0) (v7:=vL) (v10:=vM) (v11:=.int 3 i) T hP hQ d4 (by omega) hfu (d+5) _ _ _ ?_ ?_ ?_ ?_ ?_ ?_ ?_ ?_ (λ_ e' q0 q1 q7 q10 q11=>?_) (λh=>absurd d5 h);.exact q0
    .exact q1
    .simp only[go_sem,q7,hvL]
    .simp only[go_sem,q10,hvM]
    .exact q11
    .rfl
    .rfl
    .rfl
    simp only[go_sem,q11,a3];exact hk _ (by simp only[go_sem,q0,q1,q7,q10,and_self])
   .refine YD ⟨(),H4,⟨W4,λh=>d5 (hagP h)⟩,λd kx r e w⟨q0,q1,q7,q10,q11⟩hk=>?_⟩;rw[hvL]at q7;rw[hvM]at q10;rw[ak];simp only[go_sem,te,q0,q1,q7,q10,q11,n9,nl,a1,a2,hlt,hlt',↓hrL0,↓y1,↓hrM1,↓y2',↓y3,↓y4,↓hrL4,↓hrM4,↓bG,↓e1,WZ,↓y5,↓sP,↓sQ,hQl,d4];refine EK (va:=x3) (vb:=x4) (v0:=.ptr vp 0) (v1:=.ptr p 0) (v7:=vL) (v10:=vM) (v11:=.int 3 i) T hP hQ d4 (by omega) hfu (d+5) _ _ _ ?_ ?_ ?_ ?_ ?_ ?_ ?_ ?_ (λh=>absurd h d5) (λ_ e' q4=>?_);.exact q0
    .exact q1
    .simp only[go_sem,q7,hvL]
    .simp only[go_sem,q10,hvM]
    .exact q11
    .rfl
    .rfl
    .rfl
    simp only[go_sem];exact hk _ q4) m.ae.length 0 () G4 (by omega) ⟨V4,hL4,hM4⟩;rcases run with⟨_,G',⟨V',-,-⟩,z⟩|⟨_,G',⟨V',hna⟩,z⟩
 .refine⟨G',true,λd k=>?_,V',λ_=>rfl⟩;rw[aI T.k12 rfl rfl];simp only[go_sem,c12,EP,ER,↓z1,↓z2,↓z3];simp only[go_sem,Lu,Lv,↓z4,↓z5,↓sL,↓sM,c9,hlen];simp only[go_sem,Sk];refine z d _ fuel _ _ (by omega) ⟨?_,?_,?_,?_,?_⟩ λr e'⟨q0,q1,q7,q10,q11⟩=>?_;.rfl
  .rfl
  .rfl
  .rfl
  .rfl
  have e6:¬m.ae.length<m.ae.length:=by omega
  rw[ak];simp only[go_sem,te,q7,q11,↓sL,n9,nl,e6,aaB,aaC]
 .refine⟨G',false,λd k=>?_,V',λh=>absurd h hna⟩;rw[aI T.k12 rfl rfl];simp only[go_sem,c12,EP,ER,↓z1,↓z2,↓z3];simp only[go_sem,Lu,Lv,↓z4,↓z5,↓sL,↓sM,c9,hlen];simp only[go_sem,Sk];refine z d _ fuel _ _ (by omega) ⟨?_,?_,?_,?_,?_⟩ λe' q4=>?_;.rfl
  .rfl
  .rfl
  .rfl
  .rfl
  simp only[go_sem,q4]
end
theorem Gs(cs):(cX cs).Nodup:=List.Pairwise.filter _ YK1
theorem OE{cs}{i}(h:i∈cX cs):193<=i/\i<cs.length/\cs[i]?=some 0:=by unfold cX at h;rw[Wt,QZ,decide_eq_true_eq]at h;exact⟨h.2.1,h.1,h.2.2⟩
theorem yq{m}{n i}{cs}(h:i∈gO m n cs):193<=i/\i<n/\∀l∈dr m,i∉l:=by obtain⟨h1,h2,h3⟩:=OE (WK h);unfold eZ at h2 h3;rw[dM]at h2;rw[pK h2,Option.some.injEq,YE1]at h3;refine⟨h1,h2,λl hl hi=>h3 ?_⟩;unfold nz;rw[Wt,List.mem_flatten];exact⟨⟨l,hl,hi⟩,by simp;omega⟩
theorem yr{m}{n}{cs}:(gO m n cs).Nodup:=(Gs _).sublist (YR0 _ _)
theorem Gk{m}{n}{cs}(h:¬(cX (eZ m n)).length<fM cs cs.length):(gO m n cs).length=fM cs cs.length:=by unfold gO;simp_all
theorem DG{cs}{fr}:∀{i j},j<i->(zk cs fr i)[j]?=some (if(cs.getD j (0,(32,0))).2=(32,0)then 0 else fr.getD (fM cs j) 0)
 |0,j,h=>by omega|i+1,j,h=>by
  simp only[zk];by_cases hj:j<i;.rw[Yp (by rw[oe];omega)];exact DG hj
  .obtain rfl:j=i:=by omega
   rw[Ym (by rw[oe];omega),oe,QH];rfl
theorem MF{cs}{fr}{w}:∀{i},w∈Eu cs fr i->∃j,j<i/\(cs.getD j (0,(32,0))).2≠(32,0)/\w=(fr.getD (fM cs j) 0,(cs.getD j (0,(32,0))).2)
 |0,h=>by cases h|i+1,h=>by
  rcases Yl.1 h with h|h;.obtain⟨j,h1,h2⟩:=MF h;exact⟨j,by omega,h2⟩
  .split at h;.cases h
   .rename_i hne;exact⟨i,by omega,hne,YK.1 h⟩
theorem UW{cs:List Wr}{fr}:∀{i j},j<i->(cs.getD j (0,(32,0))).2≠(32,0)->((fr.getD (fM cs j) 0,(cs.getD j (0,(32,0))).2):Wr)∈Eu cs fr i
 |0,j,h,_=>by omega|i+1,j,h,hne=>by
  simp only[Eu];by_cases hj:j<i;.exact WS _ (UW hj hne)
  .obtain rfl:j=i:=by omega
   simp_all
theorem Kq{cs:List Wr}{i j}(h:j<i)(hne:(cs.getD j (0,(32,0))).2≠(32,0)):fM cs j<fM cs i:=by
 have h1:fM cs (j+1)=fM cs j+1:=by simp only[fM,if_neg hne]
 have h2:=yW (cs:=cs) (i:=j+1) h;omega
theorem HB{cs}{fr}:∀{i},fM cs i<=fr.length->(Eu cs fr i).map (·.1)=fr.take (fM cs i)
 |0,_=>rfl|i+1,h=>by
  simp only[Eu,fM]at h⊢;rw[Yz,HB (by omega)];by_cases hz:(cs.getD i (0,(32,0))).2=(32,0);.simp_all
  .rw[if_neg hz]at h;rw[if_neg hz,if_neg hz,Qp,YG,YA (show fM cs i<fr.length by omega)];rfl
structure fq(m:MT)(n:Nat)(cs:List Wr):Prop where
 room:¬(cX (eZ m n)).length<fM cs cs.length
 ok:∀c∈cs,c.2.1=32/\tM c.2
theorem fq.fr{m:MT}{n:Nat}{cs:List Wr}(h:fq m n cs){j:Nat}(hj:j<cs.length)(hne:(cs.getD j (0,(32,0))).2≠(32,0)):∃q,(gO m n cs)[fM cs j]?=some q/\(gO m n cs).getD (fM cs j) 0=q/\q∈gO m n cs:=by
 have h1:=Gk h.room;have h2:=Kq hj hne;have h3:fM cs j<(gO m n cs).length:=by omega
 exact⟨(gO m n cs)[fM cs j],YA h3,by rw[YG,YA h3];rfl,YT h3⟩
def pW(m:MT)(n:Nat)(cs:List Wr):List Wr:=Eu cs (gO m n cs) cs.length
def pA(m:MT)(n:Nat)(cs:List Wr):List Nat:=zk cs (gO m n cs) cs.length
theorem fq.w{m:MT}{n:Nat}{cs:List Wr}(h:fq m n cs){w:Wr}(hw:w∈pW m n cs):193<=w.1/\w.1<n/\w.2.1=32/\tM w.2/\∀l∈dr m,w.1∉l:=by
 obtain⟨j,hj,hne,rfl⟩:=MF hw;obtain⟨q,h1,h2,h3⟩:=h.fr hj hne;obtain⟨g1,g2,g3⟩:=yq h3;have hc:cs.getD j (0,(32,0))∈cs:=by rw[YG,YA hj];exact YT hj
 obtain⟨k1,k2⟩:=h.ok _ hc;rw[h2];exact⟨g1,g2,k1,k2,g3⟩
theorem fq.nodup{m:MT}{n:Nat}{cs:List Wr}(h:fq m n cs):((pW m n cs).map (·.1)).Nodup:=by unfold pW;rw[HB (by rw[Gk h.room];exact YC _)];exact yr.sublist (YR0 _ _)
theorem fq.len{m:MT}{n:Nat}{cs:List Wr}:(pW m n cs).length<=cs.length:=by unfold pW;rw[xg];exact mA _ _
theorem fq.read{m:MT}{n:Nat}{cs:List Wr}(h:fq m n cs){A':AD}(hA:∀w∈pW m n cs,A'.read w.1=w.2){j:Nat}(hj:j<cs.length):∃q,(pA m n cs)[j]?=some q/\cV A' q=(cs.getD j (0,(32,0))).2/\(q=0\/193<=q/\q<n/\(q∈gO m n cs)/\(gO m n cs)[fM cs j]?=some q/\(cs.getD j (0,(32,0))).2≠(32,0)):=by
 unfold pA;rw[DG hj];by_cases hz:(cs.getD j (0,(32,0))).2=(32,0);.rw[if_pos hz];exact⟨0,rfl,by rw[hz];rfl,YF rfl⟩
 .rw[if_neg hz];obtain⟨q,h1,h2,h3⟩:=h.fr hj hz;obtain⟨g1,g2,g3⟩:=yq h3;have hin:=hA _ (UW (fr:=gO m n cs) hj hz);rw[h2]at hin⊢;refine⟨q,rfl,?_,YD ⟨g1,g2,h3,h1,hz⟩⟩;unfold cV;rw[if_neg (by omega)];exact hin
theorem rK.pl{t:Tk}{last:Gd}{b n:Nat}(h:rK t last b n):∀q∈t.bT,q=0\/193<=q/\q<n:=by
 unfold rK at h;split at h;.rw[h.2.2.2];exactλq hq=>by cases hq
 .exact h.2.2.2.2.2.pl
theorem gG.pl{m:MT}{b n:Nat}(h:gG m b n):∀l∈dr m,∀q∈l,q=0\/193<=q/\q<n:=by
 intro l hl q hq;unfold dr at hl;rcases YN.1 hl with rfl|hl;.exact h.live.pl q hq
 rcases YN.1 hl with rfl|hl;.exact h.tok.pl q hq
 .obtain⟨s,hs,rfl⟩:=YW.1 hl;exact(h.ae.mem hs).pl q hq
structure iQ where
 e0:Nat
 m1:MT
 bw:List Wr
structure ie(A:AD)(m:MT)(o:iQ)(c':CH):Prop where
 ok:gG o.m1 8 A.len
 xe:kf o.m1
 l8:o.m1.live.length=8bw:∀w∈o.bw,193<=w.1/\w.1<A.len/\w.2.1=32/\tM w.2/\∀l∈dr m,w.1∉l
 nd:(o.bw.map (·.1)).Nodup
 len:o.bw.length<=12s8:c'.size=8ag:∀A':AD,(∀w∈o.bw,A'.read w.1=w.2)->(∀l∈dr m,∀q∈l,cV A' q=cV A q)->gE A' o.m1 c'
structure VI(pk:List UInt8->List (List UInt8))(A:AD)(a n:Nat)(us:List Wr)(m:MT)(c:CH):Prop where
 jd:JD pk A a n us
 lo:193<=A.len
 hi:A.len<=1024room:A.len<=A.room
 l8:m.live.length=8ok:gG m 8 A.len
 xe:kf m
 qV:Rn A (pk (bz (oR m)))s8:c.size=8ag:gE A m c
structure Chg(pk:List UInt8->List (List UInt8))(A:AD)(m':MT)(bw:List Wr)(g:Nat->Option Tx):Prop where qV:∀i(h:i<(pk (bz (oR m'))).length),(g (145+i)).getD (32,0)=tx (pk (bz (oR m')))[i]wr:∀w∈bw,(g w.1).getD (32,0)=w.2other:∀q,193<=q->q∉bw.map (·.1)->(g q).getD (32,0)=A.read q
variable{pk:List UInt8->List (List UInt8)}{unpk:List (List UInt8)->Option (List UInt8)}
theorem Bk(F:bH pk unpk){nb}{A}{m'}{bw}(hlo:193<=A.len)(hi:A.len<=1024)(Y:gG m' nb A.len)(h8:m'.live.length=nb)(hbw:∀w∈bw,193<=w.1/\w.1<A.len/\w.2.1=32/\tM w.2)(hnd:(bw.map (·.1)).Nodup)(hbl:bw.length<=12):(px m').2=0/\(Es pk A m' bw).length<=60/\gm A.len [] (Es pk A m' bw)=true/\(∀w∈Es pk A m' bw,tM w.2)/\Chg pk A m' bw (find (laid A.es (Es pk A m' bw))):=by
 have hY:=Y.mono hi;have henc:=by
  have:gG m' m'.live.length 1024:=by rw[h8];omega
  exact this.enc
 have htl:=Y.text hi;have hsz:=F.size (bz (oR m')) (by omega);have h32:=F.len (bz (oR m')) (by omega);unfold Es;rw[henc];generalize hss:pk (bz (oR m'))=ss at hsz h32;have hl:=tm A ss ss.length;have hd:∀w∈iA A ss ss.length,145<=w.1/\w.1<193/\w.2.1=32/\tM w.2:=λw hw=>by obtain⟨j,hj,rfl⟩:=pN hw;have:(ss.getD j []).length=32:=h32 _ (by rw[YG,YA hj];exact YT _);exact⟨by omega,by omega,this,jj _⟩
 have hnd':((iA A ss ss.length++bw).map (·.1)).Nodup:=by rw[Yz];refine QC.2 ⟨rS _,hnd,λx hx y hy=>?_⟩;obtain⟨w,hw,rfl⟩:=YW.1 hx;obtain⟨v,hv,rfl⟩:=YW.1 hy;have:=(hd w hw).2.1;have:=(hbw v hv).1;omega
 refine⟨rfl,by simp only[YB];omega,Dt (λw hw=>⟨?_,λh=>(by cases h)⟩) hnd',λw hw=>(Yl.1 hw).elim (λh=>(hd w h).2.2.2) λh=>(hbw w h).2.2.2,⟨λi h=>?_,λw hw=>?_,λq h1 h2=>?_⟩⟩
 .rcases Yl.1 hw with h|h;.obtain⟨a1,a2,a3,-⟩:=hd w h;exact⟨a1,by omega,a3⟩
  .obtain⟨a1,a2,a3,-⟩:=hbw w h;exact⟨by omega,a2,a3⟩
 .subst hss;rw[dZ,bA (λhk=>by obtain⟨v,hv,e⟩:=YW.1 hk;have:=(hbw v hv).1;omega)];have:=Oj (B:={A with es:=laid A.es (iA A (pk (bz (oR m'))) (pk (bz (oR m'))).length)}) (λk _=>rfl) h;rw[YG,YA h,YU]at this;exact this
 .rw[dZ,cz hnd hw];rfl
 .rw[dZ,bA h2,bA (λhk=>by obtain⟨v,hv,e⟩:=YW.1 hk;have:=(hd v hv).2.1;omega)];rfl
theorem Chg.congr{A:AD}{m':MT}{bw:List Wr}{g g':Nat->Option Tx}(h:Chg pk A m' bw g)(e:∀k,145<=k->g' k=g k)(hb:∀w∈bw,193<=w.1):Chg pk A m' bw g':=⟨λi hi=>by rw[e _ (by omega)];exact h.qV i hi,λw hw=>by rw[e _ (by have:=hb w hw;omega)];exact h.wr w hw,λq h1 h2=>by rw[e _ (by omega)];exact h.other q h1 h2⟩
theorem ie.holds{A B:AD}{m:MT}{o:iQ}{c c':CH}{a n a' n':Nat}{us us':List Wr}(I:VI pk A a n us m c)(G:ie A m o c')(J:JD pk B a' n' us')(hl:B.len=A.len)(hr:B.room=A.room)(h:Chg pk A o.m1 o.bw (find B.es)):VI pk B a' n' us' o.m1 c':=by
 refine⟨J,by rw[hl];exact I.lo,by rw[hl];exact I.hi,by rw[hl,hr];exact I.room,G.l8,by rw[hl];exact G.ok,G.xe,⟨λi hi=>h.qV i hi⟩,G.s8,G.ag B (λw hw=>h.wr w hw) λl hlm q hq=>?_⟩;unfold cV;rcases I.ok.pl l hlm q hq with rfl|⟨h1,h2⟩;.rw[if_pos rfl,if_pos rfl]
 .rw[if_neg (by omega),if_neg (by omega)];exact h.other q h1 λhk=>by obtain⟨w,hw,rfl⟩:=YW.1 hk;exact(G.bw w hw).2.2.2.2 l hlm hq
theorem ie.done(F:bH pk unpk){A:AD}{m:MT}{o:iQ}{c c':CH}{a n:Nat}{us:List Wr}(I:VI pk A a n us m c)(hf:A.aT=0)(G:ie A m o c'):(lO pk A a o.m1 o.bw).2=0/\(lO pk A a o.m1 o.bw).1.aT=0/\(lO pk A a o.m1 o.bw).1.len=A.len/\(lO pk A a o.m1 o.bw).1.room=A.room/\∃a' n' us',VI pk (lO pk A a o.m1 o.bw).1 a' n' us' o.m1 c':=by
 obtain⟨h1,h2,h3,h4,h5⟩:=Bk F I.lo I.hi G.ok G.l8 (λw hw=>let⟨a1,a2,a3,a4,_⟩:=G.bw w hw;⟨a1,a2,a3,a4⟩) G.nd G.len;have hR:lO pk A a o.m1 o.bw=A.dm pk a (Es pk A o.m1 o.bw):=by unfold lO;rw[if_pos h1]
 rw[hR];have hcode:=I.jd.code F hf I.room h4;have hdid:=I.jd.dm F hf h4;have h0:(A.dm pk a (Es pk A o.m1 o.bw)).2=0:=by
  rw[hcode];unfold Ev.code;split;.rfl
  .rw[if_neg (by omega),if_neg (by rw[h3];simp)]
 obtain⟨a',n',us',J'⟩:=hdid.jd;exact⟨h0,hdid.aT,hdid.len,hdid.room,a',n',us',G.holds I J' hdid.len hdid.room (h5.congr (λk hk=>(hdid.yes h0).1 k hk) λw hw=>(G.bw w hw).1)⟩
end Go.Ev
end
section
namespace Go.Ev
theorem UH{l}{x}:x∈nz l↔x∈l/\x≠0:=by unfold nz;simp
theorem kG:∀{l:List Nat},(nz l).Nodup↔∀(i j x:Nat),i<j->l[i]?=some x->l[j]?=some x->x=0
 |[]=>by simp[nz]|p::l=>by
  rw[My];by_cases p0:p=0
  .rw[if_pos p0,kG];constructor;.intro h i j x hij hi hj;cases i with|zero=>simp_all|succ i=>cases j with|zero=>omega|succ j=>exact h i j x (by omega) (by simp_all) (by simpa using hj)
   .intro h i j x hij hi hj;exact h (i+1) (j+1) x (by omega) (by simp_all) (by simp_all)
  .rw[if_neg p0,List.nodup_cons,kG,UH];constructor;.rintro⟨h0,h⟩i j x hij hi hj;cases j with|zero=>omega|succ j=>cases i with|zero=>simp at hi hj;exact absurd ⟨Yb (by rw[hi];exact hj),p0⟩ h0|succ i=>exact h i j x (by omega) (by simp_all) (by simp_all)
   .intro h;refine⟨λhm=>?_,λi j x hij hi hj=>h (i+1) (j+1) x (by omega) (by simp_all) (by simpa using hj)⟩;obtain⟨j,hj⟩:=Wg hm.1;exact p0 (h 0 (j+1) p (by omega) rfl (by simp_all))
theorem jD.snoc{b n:Nat}{s:Sn}:∀{ss:List Sn}{last:Gd},jD b n last ss->J3 s.g (vR last ss)->iS s.bT b n->jD b n last (ss++[s])|[],last,_,h1,h2=>⟨h1,h2,trivial⟩|a::ss,last,h,h1,h2=>⟨h.1,h.2.1,jD.snoc h.2.2 h1 h2⟩
theorem jD.take{b n:Nat}:∀{ss:List Sn}{last:Gd}(k:Nat),jD b n last ss->jD b n last (ss.take k)|ss,last,0,_=>by rw[List.take_zero];trivial|[],last,k+1,_=>by rw[List.take_nil];trivial|a::ss,last,k+1,h=>⟨h.1,h.2.1,jD.take k h.2.2⟩
theorem jD.hid{b n:Nat}{s:Sn}:∀{ss:List Sn}{last:Gd}{i:Nat},jD b n last ss->ss[i]?=some s->jD b n last (ss.set i {s with hid:=true})|[],last,i,h,hi=>by simp at hi|a::ss,last,0,h,hi=>by simp at hi;subst hi;exact⟨h.1,h.2.1,h.2.2⟩|a::ss,last,i+1,h,hi=>⟨h.1,h.2.1,jD.hid h.2.2 (by simpa using hi)⟩
theorem yL{s}:∀{ss}{last},vR last (ss++[s])=s.g|[],last=>rfl|a::ss,last=>yL (last:=a.g)
theorem qP(m):(df m).g=vR (0,0) m.ae:=by
 rcases hn:m.ae.length with _|q;.rw[gk hn,YY hn];rfl
 .have hs:m.ae[q]?=some m.ae[q]:=YA (by omega);rw[eU hs hn];have:m.ae=m.ae.take q++[m.ae[q]]:=by have h1:=Qp (l:=m.ae) (i:=q);rw[Yk (by omega),hs]at h1;exact h1
  generalize m.ae[q]=s at this;rw[this,yL]
theorem qa{m}{n}(h:gG m 8 n)(h8:m.live.length=8):iS (df m).bT 8 n:=by
 rcases hn:m.ae.length with _|q;.rw[gk hn];rw[h8];exact(Ut (b:=8) (by omega) (by omega)).live
 .have hs:m.ae[q]?=some m.ae[q]:=YA (by omega);rw[eU hs hn];exact h.ae.mem (YT _)
theorem tV(last)(b n):rK sH last b n:=by exact⟨rfl,rfl,rfl,rfl⟩
theorem jo{m}(h:Go.Ev.kf m):∀s∈m.ae,kP s.g:=λs hs=>(h.ae s hs).1
section
variable{pk:List UInt8->List (List UInt8)}{A:AD}{a n:Nat}{us:List Wr}{m:MT}{c:CH}
theorem VI.last(I:VI pk A a n us m c):(df m).g=(fT c).g/\(df m).bT.map (cV A)=(fT c).jB:=by
 have hl:=I.ag.len;rcases hn:m.ae.length with _|q;.rw[gk hn,qO (by omega)];refine⟨rfl,?_⟩;show(Yc m.live.length 0).map (cV A)=zT c.size;rw[I.l8,I.s8,zT8,Wh];rfl
 .have hs:m.ae[q]?=some m.ae[q]:=YA (by omega);have hc:c.ae[q]?=some c.ae[q]:=YA (by omega);rw[eU hs hn,qN hc (by omega)];obtain⟨h1,-,h2⟩:=I.ag.sn q _ _ hs hc;exact⟨h1,h2⟩
theorem VI.agree{A':AD}(I:VI pk A a n us m c)(h:∀l∈dr m,∀q∈l,cV A' q=cV A q):gE A' m c:=by have hm:∀l∈dr m,l.map (cV A')=l.map (cV A):=λl hl=>QT λq hq=>h l hl q hq;refine⟨(hm _ (YM ..)).trans I.ag.live,I.ag.len,λi s s' h1 h2=>?_⟩;obtain⟨g1,g2,g3⟩:=I.ag.sn i s s' h1 h2;exact⟨g1,g2,(hm s.bT (YI _ (YI _ (YW.2 ⟨s,Yb h1,rfl⟩)))).trans g3⟩
theorem gE.snoc{A':AD}(h:gE A' m c){s:Sn}{s':Cn}{tk:Tk}{lv:List Nat}{lc:List Tx}(h1:s.g=s'.g)(h2:s.hid=s'.hid)(h3:s.bT.map (cV A')=s'.jB)(h4:lv.map (cV A')=lc):gE A' ⟨lv,m.ae++[s],tk⟩ {c with ae:=c.ae++[s'],live:=lc}:=by
 refine⟨h4,by show(m.ae++[s]).length=(c.ae++[s']).length;rw[YB,YB,h.len];rfl,λi t t' q1 q2=>?_⟩;have q1:(m.ae++[s])[i]?=some t:=q1;have q2:(c.ae++[s'])[i]?=some t':=q2;by_cases hi:i<m.ae.length;.rw[Yp hi]at q1;rw[Yp (by rw[<-h.len];exact hi)]at q2;exact h.sn i t t' q1 q2
 .rw[Ym (by omega)]at q1;rw[Ym (by rw[<-h.len];omega)]at q2;rw[h.len]at q1;rcases hk:i-c.ae.length with _|k;.rw[hk]at q1 q2;simp at q1 q2;subst q1 q2;exact⟨h1,h2,h3⟩
  .rw[hk]at q1;simp at q1
theorem PM(I:VI pk A a n us m c){g}(hg:kP g)(ha:ek g (df m).g=true)(h20:m.ae.length<20):ie A m ⟨0,Xc m g,[]⟩ (AS c g):=by
 have ok1:gG (Xc m g) 8 A.len:=⟨I.ok.live,by show(m.ae++[_]).length<=20;rw[YB];show m.ae.length+1<=20;omega,I.ok.ae.snoc (by rw[<-qP];exact qM.2 ha) I.ok.live,tV _ _ _⟩;have hn:eF c g=0:=by unfold eF;rw[<-I.last.1,ha,if_neg (by simp),if_neg (by rw[<-I.ag.len];omega)]
 refine⟨ok1,ok1.kf I.hi (λs hs=>(Yl.1 hs).elim (jo I.xe s) λh=>by simp_all) ko.1 ko.2.1,I.l8,λw hw=>(by cases hw),QP,Ya _,?_,λA' _ hf=>?_⟩;.unfold AS;rw[if_pos hn];exact I.s8
 .have hA:=I.agree hf;unfold AS;rw[if_pos hn];exact hA.snoc rfl rfl hA.live hA.live
theorem AO(I:VI pk A a n us m c){q}(hq:q<=m.ae.length):ie A m ⟨0,Rh {m with tok:=sH} q,[]⟩ (Xa c q):=by
 have hs:=I.ok.ae.take q;have hm2:gG ({m with ae:=m.ae.take q,tok:=sH}:MT) 8 A.len:=⟨I.ok.live,by rw[Yv];have:=I.ok.num;omega,hs,tV _ _ _⟩;have hli:=qa hm2 I.l8;have ok1:gG (Rh {m with tok:=sH} q) 8 A.len:=⟨hli,hm2.num,hs,tV _ _ _⟩;have hrb:Xa c q={c with ae:=c.ae.take q,live:=(fT {c with ae:=c.ae.take q}).jB}:=by unfold Xa;rw[if_neg (by rw[<-I.ag.len];omega)]
 refine⟨ok1,ok1.kf I.hi (λs hs=>jo I.xe s (WK hs)) ko.1 ko.2.1,hli.len,λw hw=>(by cases hw),QP,Ya _,by rw[hrb];exact I.s8,λA' _ hf=>?_⟩;have hA:=I.agree hf;rw[hrb];have hlen:(m.ae.take q).length=(c.ae.take q).length:=by rw[Yv,Yv,hA.len]
 have hsn:∀(i)(s:Sn)(s':Cn),(m.ae.take q)[i]?=some s->(c.ae.take q)[i]?=some s'->s.g=s'.g/\s.hid=s'.hid/\s.bT.map (cV A')=s'.jB:=λi s s' h1 h2=>by
  have hi:i<q:=by have:=(YQ.1 h1).1;rw[Yv]at this;omega
  rw[Yy,if_pos hi]at h1 h2;exact hA.sn i s s' h1 h2
 refine⟨?_,hlen,hsn⟩;show(df {m with ae:=m.ae.take q,tok:=sH}).bT.map (cV A')=(fT {c with ae:=c.ae.take q}).jB;rcases hn:(m.ae.take q).length with _|r;.rw[gk hn,qO (by show(c.ae.take q).length=0;omega)];rw[I.l8,I.s8,zT8,Wh];rfl
 .have h1:(m.ae.take q)[r]?=some (m.ae.take q)[r]:=YA (by omega);have h2:(c.ae.take q)[r]?=some (c.ae.take q)[r]:=YA (by omega);rw[eU h1 hn,qN h2 (by show(c.ae.take q).length=r+1;omega)];exact(hsn r _ _ h1 h2).2.2
theorem OI(I:VI pk A a n us m c){g}(h:(cW m g).2=0):ie A m ⟨0,GC m (cW m g).1,[]⟩ (W9 c g):=by
 have hfc:=I.ag.find g;obtain⟨i,hi,hr,hgi,hhi,-⟩:=lk h;have hs:=YA hi;have hi':i<c.ae.length:=by rw[<-I.ag.len];omega
 have hc:=YA hi';have hm:GC m i={m with ae:=m.ae.set i {m.ae[i]with hid:=true}}:=by unfold GC;rw[YG,hs,YU]
 have hhc:W9 c g={c with ae:=c.ae.set i {c.ae[i]with hid:=true}}:=by unfold W9;rw[<-hfc,hr];simp only[if_true,YG,hc,YU]
 rw[hr];rw[hm,hhc];have hso:=I.ok.ae.hid hs;have hlast:vR (0,0) (m.ae.set i {m.ae[i]with hid:=true})=vR (0,0) m.ae:=by
  rw[<-qP m,<-qP {m with ae:=m.ae.set i {m.ae[i]with hid:=true}}];obtain⟨q,hq⟩:∃q,m.ae.length=q+1:=⟨m.ae.length-1,by omega⟩;have h1:m.ae[q]?=some m.ae[q]:=YA (by omega);have h2:(m.ae.set i {m.ae[i]with hid:=true})[q]?=some (if i=q then{m.ae[i]with hid:=true}else m.ae[q]):=by
   rw[YA2];split;.first|rfl|omega
   omega
  rw[eU h1 hq,eU h2 (by rw[Wj];omega)];split;.rename_i e;subst e;rfl
  .rfl
 have ok1:gG ({m with ae:=m.ae.set i {m.ae[i]with hid:=true}}:MT) 8 A.len:=⟨I.ok.live,by rw[Wj];exact I.ok.num,hso,by rw[hlast];exact I.ok.tok⟩;refine⟨ok1,ok1.kf I.hi (λs hs=>?_) I.xe.tok.1 I.xe.tok.2.1,I.l8,λw hw=>(by cases hw),QP,Ya _,I.s8,λA' _ hf=>?_⟩
 .rcases Wn hs with hs|rfl;.exact jo I.xe s hs
  .exact(show kP m.ae[i].g from jo I.xe _ (YT hi))
 .have hA:=I.agree hf;refine⟨hA.live,by rw[Wj,Wj];exact hA.len,λj s s' q1 q2=>?_⟩;have q1:=q1;have q2:=q2;rw[YA2]at q1 q2;by_cases hij:i=j;.subst hij;rw[if_pos rfl,if_pos hi]at q1;rw[if_pos rfl,if_pos hi']at q2;cases q1;cases q2;obtain⟨g1,-,g3⟩:=hA.sn i _ _ hs hc;exact⟨g1,rfl,g3⟩
  .rw[if_neg hij]at q1 q2;exact hA.sn j s s' q1 q2
end
theorem sI.get{cs:List Wr}{b:Nat}(h:sI cs b){j:Nat}(hj:j<cs.length):(cs.getD j (0,(0,0))).1<b/\(cs.getD j (0,(32,0)))=cs.getD j (0,(0,0)):=by rw[YG,YG,YA hj];exact⟨(h.lt _ (YT hj)).1,rfl⟩
theorem nF{cs}{b}{l at_}(h:sI cs b)(hl:l.length=b):∀{i},i<=cs.length->∀{k x},(fk l cs at_ i)[k]?=some x->(∃j,j<i/\(cs.getD j (0,(0,0))).1=k/\x=at_.getD j 0)\/(l[k]?=some x/\∀j,j<i->(cs.getD j (0,(0,0))).1≠k)
 |0,_,k,x,hx=>YD ⟨hx,λj hj=>by omega⟩|i+1,hi,k,x,hx=>by
  simp only[fk]at hx;rw[YA2]at hx;by_cases hk:(cs.getD i (0,(0,0))).1=k;.rw[if_pos hk,if_pos (by simp_all)]at hx;cases hx;exact YF ⟨i,by omega,hk,rfl⟩
  .rw[if_neg hk]at hx;rcases nF h hl (by omega) hx with⟨j,h1,h2,h3⟩|⟨h1,h2⟩;.exact YF ⟨j,by omega,h2,h3⟩
   .refine YD ⟨h1,λj hj=>?_⟩;by_cases hji:j<i;.simp_all
    .obtain rfl:j=i:=by omega
     omega
theorem fq.at_{m:MT}{n:Nat}{cs:List Wr}(P:fq m n cs){j:Nat}(hj:j<cs.length):(pA m n cs).getD j 0=0\/((cs.getD j (0,(32,0))).2≠(32,0)/\(gO m n cs)[fM cs j]?=some ((pA m n cs).getD j 0)/\193<=(pA m n cs).getD j 0/\(pA m n cs).getD j 0<n/\∀l∈dr m,(pA m n cs).getD j 0∉l):=by
 have hg:(pA m n cs).getD j 0=if(cs.getD j (0,(32,0))).2=(32,0)then 0 else(gO m n cs).getD (fM cs j) 0:=by unfold pA;rw[YG,DG hj];rfl
 rw[hg];by_cases hz:(cs.getD j (0,(32,0))).2=(32,0);.rw[if_pos hz];exact YF rfl
 .rw[if_neg hz];obtain⟨q,h1,h2,h3⟩:=P.fr hj hz;obtain⟨g1,g2,g3⟩:=yq h3;rw[h2];exact YD ⟨hz,h1,g1,g2,g3⟩
theorem Pb{l:List Nat}(h:l.Nodup){i j x:Nat}(hi:l[i]?=some x)(hj:l[j]?=some x):i=j:=by obtain⟨h1,e1⟩:=YQ.1 hi;obtain⟨h2,e2⟩:=YQ.1 hj;exact(List.getElem_inj h).1 (e1.trans e2.symm)
theorem Dk{nb:Nat}{m:MT}{n:Nat}{cs:List Wr}{l:List Nat}(hl:iS l nb n)(hlm:l∈dr m\/∀q∈l,q=0)(P:fq m n cs)(ch:sI cs nb):iS (fk l cs (pA m n cs) cs.length) nb n:=by
 refine⟨hl.lo,hl.hi,by rw[nG];exact hl.len,λq hq=>?_,kG.2 λi j x hij hi hj=>?_⟩
 .obtain⟨k,hk⟩:=Wg hq;rcases nF ch hl.len (YC _) hk with⟨j,h1,-,h3⟩|⟨h1,-⟩
  .rcases P.at_ h1 with h|⟨-,-,h4,h5,-⟩;.exact YF (h3.trans h)
   omega
  .exact hl.pl q (Yb h1)
 .have hno:∀{q k},l[k]?=some q->(∀l∈dr m,q∉l)->q=0:=λ{q k}h1 h2=>by
   rcases hlm with h|h;.exact absurd (Yb h1) (h2 l h)
   .exact h q (Yb h1)
  rcases nF ch hl.len (YC _) hi with⟨a,a1,a2,a3⟩|⟨a1,a2⟩
  .rcases nF ch hl.len (YC _) hj with⟨b,b1,b2,b3⟩|⟨b1,b2⟩
   .rcases P.at_ a1 with h|⟨h2,h3,-⟩;.exact a3.trans h
    .rcases P.at_ b1 with h'|⟨h2',h3',-⟩;.exact b3.trans h'
     .rw[<-a3]at h3;rw[<-b3]at h3';have hab:=Pb yr h3 h3';exfalso;rcases Nat.lt_trichotomy a b with hh|hh|hh;.have:=Kq hh h2;omega
      .subst hh;omega
      .have:=Kq hh h2';omega
   .rcases P.at_ a1 with h|⟨-,-,-,-,h5⟩;.exact a3.trans h
    .rw[<-a3]at h5;exact hno b1 h5
  .rcases nF ch hl.len (YC _) hj with⟨b,b1,b2,b3⟩|⟨b1,b2⟩
   .rcases P.at_ b1 with h|⟨-,-,-,-,h5⟩;.exact b3.trans h
    .rw[<-b3]at h5;exact hno a1 h5
   .exact kG.1 hl.nd i j x hij a1 b1
theorem xa{m}{n}{cs}{l}{A'}(P:fq m n cs)(ch:sI cs 8)(hA:∀w∈pW m n cs,A'.read w.1=w.2):∀{i},i<=cs.length->(fk l cs (pA m n cs) i).map (cV A')=ib (l.map (cV A')) cs i|0,_=>rfl|i+1,hi=>by simp only[fk,ib];rw[YF1,xa P ch hA (by omega)];obtain⟨q,h1,h2,-⟩:=P.read hA (j:=i) (by omega);rw[YG (l:=pA m n cs),h1,YU,h2,(ch.get (by omega)).2]
theorem Uh{m}:(df m).bT∈dr m\/∀q∈(df m).bT,q=0:=by
 rcases hn:m.ae.length with _|q;.rw[gk hn];simp
 .have hs:m.ae[q]?=some m.ae[q]:=YA (by omega);rw[eU hs hn];exact YF (YI _ (YI _ (YW.2 ⟨_,YT _,rfl⟩)))
theorem sI.one{nb b:Nat}{d:Tx}(hb:b<nb)(hd:d.1=32)(hk:tM d):sI [(b,d)] nb:=⟨λc hc=>by rw[YK.1 hc];exact⟨hb,hd,hk⟩,λi hi=>by simp at hi⟩
section
variable{pk:List UInt8->List (List UInt8)}{A:AD}{a n:Nat}{us:List Wr}{m:MT}{c:CH}
theorem Lj(I:VI pk A a n us m c){b}{d}(hb:b<8)(hd:d.1=32)(hk:tM d)(hr:¬iN m A.len b d):ie A m ⟨0,Rj m A.len b d,Rk m A.len b d⟩ (Lh c b d):=by
 have P:fq m A.len [(b,d)]:=⟨hr,λc hc=>by simp_all⟩;have ch:=sI.one hb hd hk;have hi:=Dk I.ok.live (YF (YM ..)) P ch;have hm:Rj m A.len b d={m with live:=fk m.live [(b,d)] (pA m A.len [(b,d)]) [(b,d)].length}:=rfl;have hw:Rk m A.len b d=pW m A.len [(b,d)]:=rfl;have hc:Lh c b d={c with live:=c.live.set b d}:=by unfold Lh;rw[if_pos ⟨by rw[I.s8];omega,hd⟩]
 rw[hm,hw,hc];have ok1:gG ({m with live:=fk m.live [(b,d)] (pA m A.len [(b,d)]) [(b,d)].length}:MT) 8 A.len:=⟨hi,I.ok.num,I.ok.ae,I.ok.tok⟩;refine⟨ok1,ok1.kf I.hi (λs hs=>jo I.xe s hs) I.xe.tok.1 I.xe.tok.2.1,hi.len,λw hw=>P.w hw,P.nodup,Yr fq.len (by simp),I.s8,λA' hA hf=>?_⟩;have hAg:=I.agree hf;refine⟨?_,hAg.len,hAg.sn⟩;rw[xa P ch hA (YC _),hAg.live];rfl
theorem KY(I:VI pk A a n us m c){tk}{cs}{bv}(Z:MU m tk cs)(hfin:¬tk.next<tk.all)(h20:m.ae.length<20)(hr:¬kh m A.len cs)(hl:iS (rF m tk) 8 A.len)(hlm:rF m tk∈dr m\/∀q∈rF m tk,q=0)(hcl:cs.length<=12)(hbv:ib ((rF m tk).map (cV A)) cs cs.length=bv):ie A m ⟨0,IP m A.len tk cs,PK m A.len cs⟩ {c with ae:=c.ae++[⟨bv,tk.t,false⟩],live:=bv}:=by
 have ch:=by have:=Z.ch;rwa[I.l8]at this
 have P:fq m A.len cs:=⟨hr,λc hc=>⟨(ch.lt c hc).2.1,(ch.lt c hc).2.2⟩⟩;have hi:=Dk hl hlm P ch;have hw:PK m A.len cs=pW m A.len cs:=rfl;have hm:IP m A.len tk cs=⟨fk (rF m tk) cs (pA m A.len cs) cs.length,m.ae++[⟨tk.t,fk (rF m tk) cs (pA m A.len cs) cs.length,false⟩],sH⟩:=by unfold IP stM;rw[if_neg hfin];rfl
 rw[hm,hw];generalize hL:fk (rF m tk) cs (pA m A.len cs) cs.length=L at hi;have ok1:gG (⟨L,m.ae++[⟨tk.t,L,false⟩],sH⟩:MT) 8 A.len:=⟨hi,by rw[YB];show m.ae.length+1<=20;omega,I.ok.ae.snoc (by rw[<-qP];exact qM.2 Z.t) hi,tV _ _ _⟩;refine⟨ok1,ok1.kf I.hi (λs hs=>(Yl.1 hs).elim (jo I.xe s) λh=>by rw[YK.1 h];exact Z.gt) ko.1 ko.2.1,hi.len,λw hw=>P.w hw,P.nodup,Yr fq.len hcl,I.s8,λA' hA hf=>?_⟩;have hAg:=I.agree hf;have hst:(rF m tk).map (cV A')=(rF m tk).map (cV A):=by
  rcases hlm with h|h;.exact QT λq hq=>hf _ h q hq
  .exact QT λq hq=>by rw[h q hq];rfl
 have hv:L.map (cV A')=bv:=by rw[<-hL,xa P ch hA (YC _),hst,hbv]
 exact hAg.snoc rfl rfl hv hv
theorem adn(I:VI pk A a n us m c){tk}{cs}(Z:MU m tk cs)(hb:kP tk.b)(hfin:tk.next<tk.all)(h1:1<=tk.next)(hr:¬kh m A.len cs)(hl:iS (rF m tk) 8 A.len)(hlm:rF m tk∈dr m\/∀q∈rF m tk,q=0)(hcl:cs.length<=12):ie A m ⟨0,IP m A.len tk cs,PK m A.len cs⟩ c/\(IP m A.len tk cs).tok={tk with bT:=fk (rF m tk) cs (pA m A.len cs) cs.length}/\∀A':AD,(∀w∈PK m A.len cs,A'.read w.1=w.2)->(∀l∈dr m,∀q∈l,cV A' q=cV A q)->(fk (rF m tk) cs (pA m A.len cs) cs.length).map (cV A')=ib ((rF m tk).map (cV A)) cs cs.length:=by
 have ch:=by have:=Z.ch;rwa[I.l8]at this
 have P:fq m A.len cs:=⟨hr,λc hc=>⟨(ch.lt c hc).2.1,(ch.lt c hc).2.2⟩⟩;have hi:=Dk hl hlm P ch;have hw:PK m A.len cs=pW m A.len cs:=rfl;have hm:IP m A.len tk cs=⟨m.live,m.ae,{tk with bT:=fk (rF m tk) cs (pA m A.len cs) cs.length}⟩:=by unfold IP stM;rw[if_pos hfin];rfl
 have hgt:=qM.2 Z.t;have htne:tk.t≠(0,0):=λh=>by rw[h]at hgt;unfold J3 at hgt;omega
 have hall:=Z.all;rw[I.l8]at hall;rw[hm,hw];have hst:∀A',(∀l∈dr m,∀q∈l,cV A' q=cV A q)->(rF m tk).map (cV A')=(rF m tk).map (cV A):=λA' hf=>by
  rcases hlm with h|h;.exact QT λq hq=>hf _ h q hq
  .exact QT λq hq=>by rw[h q hq];rfl
 have ok1:gG (⟨m.live,m.ae,{tk with bT:=fk (rF m tk) cs (pA m A.len cs) cs.length}⟩:MT) 8 A.len:=⟨I.ok.live,I.ok.num,I.ok.ae,by unfold rK;rw[if_neg htne];exact⟨by rw[<-qP];exact Z.b,by rw[<-qP];exact hgt,h1,hfin,hall,hi⟩⟩;refine⟨⟨ok1,ok1.kf I.hi (λs hs=>jo I.xe s hs) hb Z.gt,I.l8,λw hw=>P.w hw,P.nodup,Yr fq.len hcl,I.s8,λA' hA hf=>?_⟩,rfl,λA' hA hf=>?_⟩;.have hAg:=I.agree hf;exact⟨hAg.live,hAg.len,hAg.sn⟩
 .rw[xa P ch hA (YC _),hst A' hf]
end
variable{cp:RC->au}{t:Nat->Option du}{fuel:Nat}{H:Heap}{pk:List UInt8->List (List UInt8)}{unpk:List (List UInt8)->Option (List UInt8)}
theorem PA{A B}(h:∀k,find A.es k=find B.es k)(q):cV A q=cV B q:=by unfold cV AD.read;rw[h]
theorem wh(T:aB t)(hc:aM t)(F:bH pk unpk)(hu:t 85=some (.nat (eE unpk))){dp a n}{A}{O}{us}{m}{c}(hD:cB H dp A O)(I:VI pk A a n us m c)(hf:A.aT=0)(hfu:1000000<fuel):∃H' O' A' vp vl vs vi,(∀(d)(k),aj (aS cp t fuel (d+9)) (.func 22 []) [.ptr dp 0] H k=k (.cG [.ptr vp 0,.int 3 0]) H')/\Step H O H' O'/\VP H' dp vp a n A' O' m vl vs vi/\H.n<=vp/\VI pk A' a n us m c/\A'.aT=0/\A'.len=A.len/\A'.room=A.room/\∀X:Nat->Prop,(∀b,X b->b<H.n)->kK H' (λb=>X b\/bg O' vp b) m vl vs vi:=by obtain⟨r1,r2,r3,r4,r5,r6⟩:=I.jd.recovered hf;have hT:Rn (A.recover n us).1 (pk (bz (oR m))):=⟨λi h=>by rw[AD.read,r6];exact I.qV.at_ i h⟩;obtain⟨H',O',vp,vl,vs,vi,z,s,D,g,hn,ho,hv,hM,hX⟩:=Ae T hc F hu hD I.jd.AM r1 r2.off (by rw[r4];exact I.lo) (by rw[r4];exact I.hi) (by rw[r4,I.l8];exact I.ok) I.xe hT hfu;refine⟨H',O',_,vp,vl,vs,vi,z,s,⟨D,r2.off,r2.AM.can,by rw[r4];exact I.lo,by rw[r4];exact I.hi,g,hn,ho,hM,I.xe⟩,hv,⟨r2,by rw[r4];exact I.lo,by rw[r4];exact I.hi,by rw[r4,r5];exact I.room,I.l8,by rw[r4];exact I.ok,I.xe,hT,I.s8,I.agree λl _ q _=>PA r6 q⟩,r3,r4,r5,hX⟩
def c0:CH:=⟨zT 8,8,[]⟩
theorem Us(A):gE A (mz 8) c0:=⟨by rfl,rfl,λi s s' h=>by cases i<;>cases h⟩
theorem Gv(T:aB t)(hc:aM t)(F:bH pk unpk)(hp:t 110=some (.nat (dO pk)))(hu:t 85=some (.nat (eE unpk))){H0}{dp n r}{O}(h1:193<=n)(h2:n<=1024)(hr:n<=r)(fr:ah H0 H)(hD:cB H dp ⟨n,r,0,false,[],[]⟩ O)(own:∀b,O b->H0.n<=b)(hfu:1000000<fuel):∃G H' A a k us vp O' vl vs vi,(∀(d)(k),aj (aS cp t fuel (d+8)) (.func 40 []) [.ptr dp 0,.int 3 8] H k=k (.int 3 0) G)/\(∀(d)(k),aj (aS cp t fuel (d+9)) (.func 22 []) [.ptr dp 0] G k=k (.cG [.ptr vp 0,.int 3 0]) H')/\ah H0 H'/\VP H' dp vp a k A O' (mz 8) vl vs vi/\VI pk A a k us (mz 8) c0/\A.aT=0/\A.len=n/\A.room=r/\(∀b,bg O' vp b->H0.n<=b):=by obtain⟨G,A1,O1,z1,f1,D1,own1,⟨a,k,us,J⟩,q1,q2,q3,hT⟩:=Ei T hc F hp h1 h2 hr (by omega) (YC 8) fr hD own hfu;have I1:VI pk A1 a k us (mz 8) c0:=⟨J,by omega,by omega,by omega,yS 8,Ut (by omega) (by omega),Uu (by omega),hT,rfl,Us _⟩;obtain⟨H',O',A',vp,vl,vs,vi,z2,s2,S,hv,I2,g1,g2,g3,-⟩:=wh T hc F hu D1 I1 q1 hfu;obtain⟨f2,own2⟩:=f1.own s2 own1;exact⟨G,H',A',a,k,us,vp,O',vl,vs,vi,z1,z2,f2,S,I2,g1,g2.trans q2,g3.trans q3,λb hb=>hb.elim (own2 b) λe=>by rw[e];exact Yr f1.n hv⟩
theorem GZ(T:aB t)(hc:aM t)(F:bH pk unpk)(hp:t 110=some (.nat (dO pk)))(hu:t 85=some (.nat (eE unpk)))(hw:H.wf)(hfu:1000000<fuel):∃H' A a k us dp vp O' vl vs vi,(∀(d)(k),aj (aS cp t fuel (d+10)) (.func 16 []) [.int 3 8] H k=k (.cG [.ptr dp 0,.ptr vp 0]) H')/\ah H H'/\VP H' dp vp a k A O' (mz 8) vl vs vi/\VI pk A a k us (mz 8) c0/\A.aT=0/\A.len=400/\A.room=400/\(∀b,bg O' vp b->H.n<=b):=by obtain⟨G1,dp,O1,z1,D1,f1,o1⟩:=Y9 (cp:=cp) (fuel:=fuel) (n:=400) (r:=400) (T.jJ hc) hw (by omega) (by omega) (by unfold nn;omega);obtain⟨G2,H',A,a,k,us,vp,O',vl,vs,vi,z2,z3,f3,S,I,g1,g2,g3,own⟩:=Gv (cp:=cp) T hc F hp hu (by omega) (by omega) (YC 400) f1 D1 o1 hfu;have z1:=λ{d}{k}=>z1 d k;have z2:=λ{d}{k}=>z2 d k;have z3:=λ{d}{k}=>z3 d k;refine⟨H',A,a,k,us,dp,vp,O',vl,vs,vi,λd k=>?_,f3,S,I,g1,g2,g3,own⟩;rw[aI T.k8 rfl rfl];simp only[go_sem,c8,aeT,aeU,↓z1,↓z2];simp only[go_sem,aeV,aeW,aeX,aeY,↓z3]
end Go.Ev
end
section
namespace Go.Ev
open Go.Proofs
theorem F7{k}:∀{L:List (List Nat)},(∀l∈L,l.length<=k)->L.flatten.length<=L.length*k|[],_=>Ya _|l::L,h=>by have h1:=h l (YM ..);have h2:=F7 λx hx=>h x (YI _ hx);rw[WL,YB,YH,Wi];omega
theorem Mm{m}(h:kf m):(dr m).flatten.length<1000000:=by
 have h1:∀l∈dr m,l.length<=100:=λl hl=>by
  rcases YN.1 hl with rfl|hl;.exact Qe h.live.1
  rcases YN.1 hl with rfl|hl;.exact Qe h.tok.2.2.2.2.1
  .obtain⟨s,hs,rfl⟩:=YW.1 hl;exact Qe (h.ae s hs).2.1
 have h2:=F7 h1;have h3:(dr m).length=m.ae.length+2:=by unfold dr;simp
 have:=h.num;omega
theorem Mz{l}{i x}(h:DB l)(hx:x<1024):DB (l.set i x):=⟨by rw[Wj];exact h.1,λp hp=>by
 rcases Wn hp with hp|rfl;.exact h.2 p hp
 .unfold nn;omega⟩
theorem BX{l at_}{cs}(h:DB l)(ha:∀p∈at_,p<1024):∀i,DB (fk l cs at_ i)
 |0=>h|i+1=>by
  refine Mz (BX h ha i) ?_;rw[YG];rcases hx:at_[i]?with _|x;.simp
  .exact ha x (Yb hx)
theorem UJ{m}(h:kf m):DB (df m).bT:=by
 rcases hn:m.ae.length with _|q;.rw[gk hn];exact⟨by rw[WW];exact h.live.1,λp hp=>by rw[(YE2.1 hp).2];unfold nn;omega⟩
 .have hs:m.ae[q]?=some m.ae[q]:=YA (by omega);rw[eU hs hn];exact(h.ae _ (YT _)).2
theorem acZ{m}{n b}{d}(h:kf m)(hn:n<=1024):kf (Rj m n b d):=by
 refine⟨Mz h.live ?_,h.num,h.ae,h.tok⟩;rw[YG];rcases hx:(zk [(b,d)] (gO m n [(b,d)]) 1)[0]?with _|x;.simp
 .exact DH (yp hn) 1 x (Yb hx)
theorem acY{m}{g}(h:kf m)(hg:kP g)(hl:m.ae.length<900):kf (Xc m g):=⟨h.live,by show(m.ae++[_]).length<1000;rw[YB];show m.ae.length+1<1000;omega,λs hs=>(Yl.1 hs).elim (h.ae s) λe=>by rw[YK.1 e];exact⟨hg,h.live⟩,ko⟩
theorem acW{m}{q}(h:kf m):kf (Rh {m with tok:=sH} q):=by have h2:kf ({m with ae:=m.ae.take q,tok:=sH}:MT):=⟨h.live,by rw[Yv];have:=h.num;omega,λs hs=>h.ae s (WK hs),ko⟩;exact⟨UJ h2,h2.num,h2.ae,ko⟩
theorem acV{m}{i}(h:kf m)(hi:i<m.ae.length):kf (GC m i):=by
 have hs:=YA hi;have hm:GC m i={m with ae:=m.ae.set i {m.ae[i]with hid:=true}}:=by unfold GC;simp_all
 rw[hm];refine⟨h.live,by rw[Wj];exact h.num,λs hs=>?_,h.tok⟩;rcases Wn hs with hs|rfl;.exact h.ae s hs
 .exact(show kP m.ae[i].g/\DB m.ae[i].bT from h.ae _ (YT hi))
theorem acX{m}{n}{tk}{cs}(h:kf m)(hn:n<=1024)(hl:DB (rF m tk))(hb:kP tk.b)(ht:kP tk.t)(h1:nn tk.next)(h2:nn tk.all)(hlen:m.ae.length<900):kf (IP m n tk cs):=by
 have hi:=BX (cs:=cs) hl (DH (cs:=cs) (yp (m:=m) (cs:=cs) hn) cs.length) cs.length;unfold IP stM;split;.exact⟨h.live,h.num,h.ae,hb,ht,h1,h2,hi⟩
 .exact⟨hi,by rw[YB];show m.ae.length+1<1000;omega,λs hs=>(Yl.1 hs).elim (h.ae s) λe=>by simp_all,ko⟩
section
variable(pk:List UInt8->List (List UInt8))(A:AD)(a:Nat)(m:MT)(o:iQ)
def iQ.E:Nat:=if o.e0≠0then o.e0 else(lO pk A a o.m1 o.bw).2
def iQ.A1:AD:=if o.e0≠0then A else(lO pk A a o.m1 o.bw).1
def iQ.M:MT:=if o.e0≠0then m else CC pk A a m o.m1 o.bw
def iQ.L:Bool:=if o.e0≠0then false else Ti pk A a o.m1 o.bw
end
def Xe(m:MT)(n b:Nat)(d:Tx):iQ:=⟨if¬b<8then 2 else if iN m n b d then 7 else 0,Rj m n b d,Rk m n b d⟩
def snO(m:MT)(g:Gd):iQ:=⟨if ek g (df m).g=false then 2 else if 20<=m.ae.length then 3 else 0,Xc m g,[]⟩
def rbO(m:MT)(q:Nat):iQ:=⟨if m.ae.length<q then 2 else 0,Rh {m with tok:=sH} q,[]⟩
def hiO(m:MT)(g:Gd):iQ:=⟨(cW m g).2,GC m (cW m g).1,[]⟩
def Ri(m:MT)(n:Nat)(tk:Tk)(cs:List Wr):iQ:=⟨if uW m tk≠0then uW m tk else if kh m n cs then 7 else 0,IP m n tk cs,PK m n cs⟩
instance adH(m:MT)(n b:Nat)(d:Tx):Decidable (iN m n b d):=inferInstanceAs(Decidable (_<_))
section
variable{t:Nat->Option du}{fuel:Nat}{H:Heap}{pk:List UInt8->List (List UInt8)}{unpk:List (List UInt8)->Option (List UInt8)}
variable{dp vp a n:Nat}{A:AD}{O:Nat->Prop}{m:MT}{vl vs vi:V}{c:CH}{us:List Wr}
def sN(pk:List UInt8->List (List UInt8))(t:Nat->Option du)(fuel dd:Nat)(H:Heap)(dp vp a:Nat)(A:AD)(O:Nat->Prop)(m:MT)(vl vs vi:V)(o:iQ)(f:V)(args:List V):Prop:=∃H' O',(∀(d:Nat)(k:K),aj (aS (aO Tryz.prog) t fuel (d+dd)) f args H k=k (.int 3 (o.E pk A a)) H')/\oJ H H' dp vp O O' m vl vs vi (o.A1 pk A a) (o.M pk A a m) (o.L pk A a)
theorem ae4(c):tx (eR c 32)=dT c:=by rfl
theorem V5(T:aB t)(hc:aM t)(F:bH pk unpk)(hp:t 110=some (.nat (dO pk)))(S:VP H dp vp a n A O m vl vs vi)(I:gG m 8 A.len)(h8:m.live.length=8){b l}(hb:b<1000000)(hfu:1000000<fuel):sN pk t fuel 9 H dp vp a A O m vl vs vi (Xe m A.len b (dT l)) (.func 48 []) [.ptr vp 0,.int 3 b,.str 32 (enc (eR l 32))]:=by
 obtain⟨H',O',z,hd⟩:=IF (block:=b) (data:=eR l 32) T hc F hp S (by omega) (by rw[gj];omega) (λl hl a ha h0=>(I.pl l hl a ha).resolve_left h0) (Mm S.ok) (λ_=>acZ S.ok S.hi) hfu;have hmay:tL m b (eR l 32)=decide (b<8):=by unfold tL;rw[gj,h8];simp
 rw[ae4]at z hd;simp only[tv,gj]at z;refine⟨H',O',λd k=>?_,?_⟩
 .unfold iQ.E Xe;by_cases h1:b<8
  .by_cases h2:iN m A.len b (dT l);.simp_all
   simp_all
  simp_all
 .unfold iQ.A1 iQ.M iQ.L Xe;by_cases h1:b<8;.simp_all
  simp_all
theorem Z5(T:aB t)(hc:aM t)(F:bH pk unpk)(hp:t 110=some (.nat (dO pk)))(S:VP H dp vp a n A O m vl vs vi){g}(hg:kP g)(hl:m.ae.length<900)(hfu:1000000<fuel):sN pk t fuel 9 H dp vp a A O m vl vs vi (snO m g) (.func 60 []) [.ptr vp 0,.agg (aZ g)]:=by
 obtain⟨H',O',z,hd⟩:=PL T hc F hp S hg (acY S.ok hg hl) hfu;refine⟨H',O',λd k=>?_,?_⟩
 .rw[z];unfold iQ.E snO;rcases h1:ek g (df m).g with _|_;.simp
  simp_all
 .unfold iQ.A1 iQ.M iQ.L snO;rcases h1:ek g (df m).g with _|_;.simp_all
  simp_all
theorem HP(T:aB t)(hc:aM t)(F:bH pk unpk)(hp:t 110=some (.nat (dO pk)))(S:VP H dp vp a n A O m vl vs vi)(I:gG m 8 A.len)(h8:m.live.length=8){q}(hq:nn q)(hfu:1000000<fuel):sN pk t fuel 9 H dp vp a A O m vl vs vi (rbO m q) (.func 66 []) [.ptr vp 0,.int 3 q]:=by
 obtain⟨H',O',z,hd⟩:=AN T hc F hp S hq (λs hs=>by rw[(I.ae.mem hs).len,h8]) (by omega) (acW S.ok) hfu;refine⟨H',O',λd k=>?_,?_⟩;.rw[z];unfold iQ.E rbO;simp_all
 .unfold iQ.A1 iQ.M iQ.L rbO;simp_all
theorem X4(T:aB t)(hc:aM t)(F:bH pk unpk)(hp:t 110=some (.nat (dO pk)))(S:VP H dp vp a n A O m vl vs vi){g}(hfu:1000000<fuel):sN pk t fuel 9 H dp vp a A O m vl vs vi (hiO m g) (.func 76 []) [.ptr vp 0,.agg (aZ g)]:=by obtain⟨H',O',z,hd⟩:=OH T hc F hp S (λh=>by obtain⟨i,hi,hr,-⟩:=lk h;rw[hr];exact acV S.ok hi) hfu;exact⟨H',O',z,hd⟩
theorem Vu(T:aB t)(hc:aM t)(F:bH pk unpk)(hp:t 110=some (.nat (dO pk)))(S:VP H dp vp a n A O m vl vs vi)(I:gG m 8 A.len)(h8:m.live.length=8){tk}{cs}{y vx}(Z:MU m tk cs)(hb:kP tk.b)(hy:y.one=true)(hX:Row H (bg O vp) vx 2 cs.length (bX cs))(hn:cs.length<1000)(hl:iS (rF m tk) 8 A.len)(hlen:m.ae.length<900)(hfu:1000000<fuel):sN pk t fuel 9 H dp vp a A O m vl vs vi (Ri m A.len tk cs) (.func 32 []) [.ptr vp 0,.agg (bE tk y),vx]:=by
 have h1:=Z.next;have h2:=Z.all;have hi:DB (rF m tk):=⟨by rw[hl.len];omega,λp hp=>by have:=hl.pl p hp;have:=S.hi;unfold nn;omega⟩;obtain⟨H',O',z,hd⟩:=KX T hc F hp S Z hb hy hX hn (λl hl a ha h0=>(I.pl l hl a ha).resolve_left h0) (Mm S.ok) (by rw[hl.len,h8]) (acX S.ok S.hi hi hb Z.gt (by unfold nn;omega) (by unfold nn;omega) hlen) hfu;refine⟨H',O',λd k=>?_,?_⟩
 .rw[z];unfold iQ.E Ri sgE;by_cases h1:uW m tk=0;.simp_all
  simp_all
 .unfold iQ.A1 iQ.M iQ.L Ri;unfold Ip at hd;by_cases h1:uW m tk=0;.simp_all
  simp_all
end
theorem Step.congr{H H':Heap}{P P' Q Q':Nat->Prop}(s:Step H P H' P')(h:∀b,P b↔Q b)(h':∀b,P' b↔Q' b):Step H Q H' Q':=by obtain rfl:P=Q:=funext λb=>propext (h b);obtain rfl:P'=Q':=funext λb=>propext (h' b);exact s
theorem kY{id half a b}{f}(ha:a<half)(hb:b<half)(h0:b≠0):iE id (.rem half) a b f=f (a%b):=by show aH (Nat.blt a half) (aH (Nat.blt b half) (aH (YR b 0) (no 0) (av (Nat.mod a b) f)) (no 0)) (no 0)=_;rw[bF,if_pos (by simp_all),bF,if_pos (by simp_all),bF,if_neg (by simp_all),ay];rfl
def PQ(vp p:Nat)(O:Nat->Prop)(v:V):Nat->Prop:=λb=>CQ p v b\/bg O vp b
structure PD(H:Heap)(X:Nat->Prop)(dp vp p:Nat)(A:AD)(O:Nat->Prop)(m:MT)(vl vs vi:V)(lost:Bool)(c:CH)(v:V):Prop where
 cK:cB H dp A O
 get:H.get vp=.cells (vc m vl vs vi dp lost)vn:vp<H.n
 vo:¬O vp
 nx:kK H (λb=>(X b\/CQ p v b)\/bg O vp b) m vl vs vi
 ch:iO H p c v
 Rf:∀b,CQ p v b->¬bg O vp b
 xn:∀b,X b->b<H.n
 xc:∀b,X b->¬CQ p v b
 xo:∀b,X b->¬bg O vp b
section
variable{H H':Heap}{X:Nat->Prop}{dp vp p a n:Nat}{A A':AD}{O O':Nat->Prop}{m m':MT}{vl vs vi:V}{lost:Bool}{c c':CH}{v v':V}{us:List Wr}{pk:List UInt8->List (List UInt8)}
theorem PD.vpo(P:PD H X dp vp p A O m vl vs vi false c v)(I:VI pk A a n us m c'):VP H dp vp a n A O m vl vs vi:=⟨P.cK,I.jd.off,I.jd.AM.can,I.lo,I.hi,P.get,P.vn,P.vo,P.nx.qA λb _ h=>YD h,I.xe⟩
theorem PD.wlt(P:PD H X dp vp p A O m vl vs vi lost c v):∀b,bg O vp b->b<H.n:=λb h=>h.elim (P.cK.lt b) λh=>by rw[h];exact P.vn
theorem PD.lt(P:PD H X dp vp p A O m vl vs vi lost c v):∀b,PQ vp p O v b->b<H.n:=λb h=>h.elim (P.ch.lt b) (P.wlt b)
theorem PD.bU{Q Q':Nat->Prop}(P:PD H X dp vp p A O m vl vs vi lost c v)(s:Step H Q H' Q')(hq:∀b,Q b->¬PQ vp p O v b)(hm:kK H' (λb=>(X b\/CQ p v b)\/bg O vp b) m vl vs vi):PD H' X dp vp p A O m vl vs vi lost c v:=⟨(P.cK.bU s λb hb h=>hq b h (YD (YF hb))).1,(s.same vp P.vn λh=>hq vp h (YD (YD rfl))).1.trans P.get,YE P.vn s.n,P.vo,hm,(P.ch.bU s λb hb h=>hq b h (YF hb)).1,P.Rf,λb hb=>YE (P.xn b hb) s.n,P.xc,P.xo⟩
theorem PD.fresh(P:PD H X dp vp p A O m vl vs vi lost c v)(f:ah H H'):PD H' X dp vp p A O m vl vs vi lost c v:=P.bU (f.step (O:=λ_=>False)) (λb h=>h.elim) (P.nx.fresh f)
theorem PD.vop(P:PD H X dp vp p A O m vl vs vi false c v)(h:oJ H H' dp vp O O' m vl vs vi A' m' lost):∃vl' vs' vi',PD H' X dp vp p A' O' m' vl' vs' vi' lost c v/\Step H (PQ vp p O v) H' (PQ vp p O' v):=by obtain⟨s,D,ho,hn,vl',vs',vi',hg,-,hX⟩:=h;have hd':=(P.ch.bU s P.Rf).2;exact⟨vl',vs',vi',⟨D,hg,hn,ho,hX (λb=>X b\/CQ p v b) (λb hb=>hb.elim (P.xn b) (P.ch.lt b)) P.nx,(P.ch.bU s P.Rf).1,hd',λb hb=>YE (P.xn b hb) s.n,P.xc,λb hb=>(s.same b (P.xn b hb) (P.xo b hb)).2⟩,s.or⟩
theorem PD.cop(P:PD H X dp vp p A O m vl vs vi lost c v)(s:Step H (CQ p v) H' (CQ p v'))(C:iO H' p c' v'):PD H' X dp vp p A O m vl vs vi lost c' v'/\Step H (PQ vp p O v) H' (PQ vp p O v'):=by
 have hd:∀b,bg O vp b->¬CQ p v b:=λb h h'=>P.Rf b h' h;have hd':∀b,CQ p v' b->¬bg O vp b:=λb hb h=>(s.same b (P.wlt b h) (hd b h)).2 hb;refine⟨⟨(P.cK.bU s λb hb h=>P.Rf b h (YF hb)).1,(s.same vp P.vn (hd vp (YD rfl))).1.trans P.get,YE P.vn s.n,P.vo,?_,C,hd',λb hb=>YE (P.xn b hb) s.n,λb hb=>(s.same b (P.xn b hb) (P.xc b hb)).2,P.xo⟩,(s.or (O:=bg O vp)).congr (λb=>Or.comm) λb=>Or.comm⟩;have h1:kK H (λb=>(X b\/bg O vp b)\/CQ p v b) m vl vs vi:=P.nx.qA λb _ h=>by
  rcases h with(h|h)|h;.exact YF (YF h)
  .exact YD h
  .exact YF (YD h)
 exact(h1.bU (s.or (O:=λb=>X b\/bg O vp b))).qA λb _ h=>by
  rcases h with(h|h)|h;.exact YF (YF h)
  .exact YD h
  .exact YF (YD h)
end
section
variable{t:Nat->Option du}{fuel:Nat}{H:Heap}{pk:List UInt8->List (List UInt8)}{unpk:List (List UInt8)->Option (List UInt8)}
variable{X:Nat->Prop}{dp vp p a n:Nat}{A:AD}{O:Nat->Prop}{m:MT}{vl vs vi v:V}{c:CH}{us:List Wr}{c0:CH}
def mL(pk:List UInt8->List (List UInt8))(t:Nat->Option du)(fuel:Nat)(H:Heap)(X:Nat->Prop)(dp vp p a:Nat)(A:AD)(O:Nat->Prop)(m:MT)(v:V)(kd nb lt next:Nat)(o:iQ)(r:CH×Nat):Prop:=∃H' O' vl' vs' vi' v',(∀(d:Nat)(k:K),aj (aS (aO Tryz.prog) t fuel (d+10)) (.func 20 []) [.ptr vp 0,.ptr p 0,.agg [.int 4 kd,.int 4 nb,.int 4 lt],.int 7 next] H k=k (.cG [.int 3 (o.E pk A a),.int 3 r.2]) H')/\PD H' X dp vp p (o.A1 pk A a) O' (o.M pk A a m) vl' vs' vi' (o.L pk A a) r.1 v'/\Step H (PQ vp p O v) H' (PQ vp p O' v')
theorem aab(T:aB t)(hc:aM t)(F:bH pk unpk)(hp:t 110=some (.nat (dO pk)))(P:PD H X dp vp p A O m vl vs vi false c v)(I:VI pk A a n us m c0)(hl:m.ae.length<900){kd nb lt next}(hk:kd%6=2)(hkd:kd<256)(hnb:nb<256)(hnx:next<1000)(hfu:1000000<fuel):mL pk t fuel H X dp vp p a A O m v kd nb lt next (snO m (1,next)) (AS c (1,next),eF c (1,next)):=by obtain⟨G0,hG0,f0,p0,n0⟩:=Heap.aV P.cK.wf (.cells [.int 4 kd,.int 4 nb,.int 4 lt]);have P0:=P.fresh f0;have w:=P.cK.wf;have w0:=f0.wf;obtain⟨G1,z1o,f1⟩:=kO (cp:=aO Tryz.prog) (fuel:=fuel) (a:=1) (b:=next) T w0;have z1:=λ{d}{k}=>z1o (d+8) k;have P1:=P0.fresh f1;have hg:kP (1,next):=⟨by simp,by omega⟩;obtain⟨G2,O',z2o,hd⟩:=Z5 T hc F hp (P1.vpo I) hg hl hfu;have z2:=λ{d}{k}=>z2o d k;obtain⟨vl',vs',vi',P2,s2⟩:=P1.vop hd;obtain⟨G3,z3o,f3⟩:=kO (cp:=aO Tryz.prog) (fuel:=fuel) (a:=1) (b:=next) T P2.cK.wf;have z3:=λ{d}{k}=>z3o (d+8) k;have P3:=P2.fresh f3;obtain⟨G4,v',z4o,s4,C4⟩:=Jz (cp:=aO Tryz.prog) (fuel:=fuel) T P3.ch hg (by omega);have z4:=λ{d}{k}=>z4o (d+5) k;obtain⟨P4,s4'⟩:=P3.cop s4 C4;refine⟨G4,O',vl',vs',vi',v',λd k=>?_,P4,(f0.trans f1).step.trans (s2.trans (f3.step.trans s4'))⟩;rw[aI T.Y1 rfl rfl];simp only[aZ]at z2 z4;have e1:=m_ nb;have rm:∀{id}{f},iE id (.rem 256) kd 6 f=f (kd%6):=λ{id f}=>kY hkd (by omega) (by omega);simp only[go_sem,c10,vA,vB,w,hG0,p0,↓rm,hk,e1,↓z1,↓z2,↓z3,↓z4]
theorem Z9(T:aB t)(hc:aM t)(F:bH pk unpk)(hp:t 110=some (.nat (dO pk)))(P:PD H X dp vp p A O m vl vs vi false c v)(I:VI pk A a n us m c0){kd nb lt next}(hk:kd%6=3)(hkd:kd<256)(hnb:nb<256)(hfu:1000000<fuel):mL pk t fuel H X dp vp p a A O m v kd nb lt next (rbO m (nb%6)) (Xa c (nb%6),if c.ae.length<nb%6then 2 else 0):=by obtain⟨G0,hG0,f0,p0,n0⟩:=Heap.aV P.cK.wf (.cells [.int 4 kd,.int 4 nb,.int 4 lt]);have P0:=P.fresh f0;have w:=P.cK.wf;have hq:=n_ (nb%6);obtain⟨G2,O',z2o,hd⟩:=HP T hc F hp (P0.vpo I) I.ok I.l8 hq hfu;have z2:=λ{d}{k}=>z2o d k;obtain⟨vl',vs',vi',P2,s2⟩:=P0.vop hd;obtain⟨G4,v',z4o,s4,C4⟩:=xR (cp:=aO Tryz.prog) (fuel:=fuel) T P2.ch hq (by omega);have z4:=λ{d}{k}=>z4o (d+6) k;obtain⟨P4,s4'⟩:=P2.cop s4 C4;refine⟨G4,O',vl',vs',vi',v',λd k=>?_,P4,f0.step.trans (s2.trans s4')⟩;rw[aI T.Y1 rfl rfl];have e1:=m_ nb;have rm:∀{id}{f},iE id (.rem 256) kd 6 f=f (kd%6):=λ{id f}=>kY hkd (by omega) (by omega);have rn:∀{id}{f},iE id (.rem 9223372036854775808) nb 6 f=f (nb%6):=λ{id f}=>kY (by omega) (by omega) (by omega);simp only[go_sem,c10,vA,vB,w,hG0,p0,↓rm,↓rn,hk,e1,↓z2,↓z4]
theorem Z8(T:aB t)(hc:aM t)(F:bH pk unpk)(hp:t 110=some (.nat (dO pk)))(P:PD H X dp vp p A O m vl vs vi false c v)(I:VI pk A a n us m c0){kd nb lt next}(hk:kd%6=4)(hkd:kd<256)(hnb:nb<256)(hfu:1000000<fuel):mL pk t fuel H X dp vp p a A O m v kd nb lt next (hiO m (1,nb%8)) (W9 c (1,nb%8),(pJ c (1,nb%8)).2):=by
 obtain⟨G0,hG0,f0,p0,n0⟩:=Heap.aV P.cK.wf (.cells [.int 4 kd,.int 4 nb,.int 4 lt]);have P0:=P.fresh f0;have w:=P.cK.wf;have w0:=f0.wf;obtain⟨G1,z1o,f1⟩:=kO (cp:=aO Tryz.prog) (fuel:=fuel) (a:=1) (b:=nb%8) T w0;have z1:=λ{d}{k}=>z1o (d+8) k;have P1:=P0.fresh f1;obtain⟨G2,O',z2o,hd⟩:=X4 T hc F hp (P1.vpo I) hfu;have z2:=λ{d}{k}=>z2o d k;obtain⟨vl',vs',vi',P2,s2⟩:=P1.vop hd;obtain⟨G3,z3o,f3⟩:=kO (cp:=aO Tryz.prog) (fuel:=fuel) (a:=1) (b:=nb%8) T P2.cK.wf;have z3:=λ{d}{k}=>z3o (d+8) k;have P3:=P2.fresh f3;obtain⟨G4,z4o,s4,C4⟩:=Jq (cp:=aO Tryz.prog) (fuel:=fuel) T P3.ch (by omega);have z4:=λ{d}{k}=>z4o (d+5) k;obtain⟨P4,s4'⟩:=P3.cop s4 C4;refine⟨G4,O',vl',vs',vi',v,λd k=>?_,P4,(f0.trans f1).step.trans (s2.trans (f3.step.trans s4'))⟩;rw[aI T.Y1 rfl rfl];simp only[aZ]at z2 z4;have e1:=m_ nb;have e2:nb%8%18446744073709551616=nb%8:=by omega
 have rm:∀{id}{f},iE id (.rem 256) kd 6 f=f (kd%6):=λ{id f}=>kY hkd (by omega) (by omega);have rn:∀{id}{f},iE id (.rem 9223372036854775808) nb 8 f=f (nb%8):=λ{id f}=>kY (by omega) (by omega) (by omega);simp only[go_sem,c10,vA,vB,w,hG0,p0,↓rm,↓rn,hk,e1,e2,↓z1,↓z2,↓z3,↓z4]
theorem aac(T:aB t)(hc:aM t)(F:bH pk unpk)(hp:t 110=some (.nat (dO pk)))(P:PD H X dp vp p A O m vl vs vi false c v)(I:VI pk A a n us m c0){kd nb lt next:Nat}(hk:kd%6=0\/kd%6=1)(hkd:kd<256)(hnb:nb<256)(hlt:lt<256)(hfu:1000000<fuel):mL pk t fuel H X dp vp p a A O m v kd nb lt next (Xe m A.len (nb%9) (dT (lt%200))) (Lh c (nb%9) (dT (lt%200)),if nb%9<c.size/\(32:Nat)=32then 0 else 2):=by
 obtain⟨G0,hG0,f0,p0,n0⟩:=Heap.aV P.cK.wf (.cells [.int 4 kd,.int 4 nb,.int 4 lt]);have P0:=P.fresh f0;have w:=P.cK.wf;have w0:=f0.wf;obtain⟨G1,z1o,f1⟩:=qI (cp:=aO Tryz.prog) (fuel:=fuel) (c:=lt%200) T w0 (by omega) (by omega);have z1:=λ{d}{k}=>z1o (d+8) k;clear z1o;have P1:=P0.fresh f1;obtain⟨G2,O',z2o,hd⟩:=V5 T hc F hp (P1.vpo I) I.ok I.l8 (b:=nb%9) (by omega) hfu;have z2:=λ{d}{k}=>z2o d k;clear z2o;obtain⟨vl',vs',vi',P2,s2⟩:=P1.vop hd;obtain⟨G3,z3o,f3⟩:=qI (cp:=aO Tryz.prog) (fuel:=fuel) (c:=lt%200) T P2.cK.wf (by omega) (by omega);have z3:=λ{d}{k}=>z3o (d+8) k;clear z3o;have P3:=P2.fresh f3;have hq:=n_ (nb%9);obtain⟨G4,z4o,s4,C4⟩:=FG (cp:=aO Tryz.prog) (fuel:=fuel) (l:=32) T P3.ch hq (by omega);have z4:=λ{d}{k}=>z4o (d+7) k;clear z4o;obtain⟨P4,s4'⟩:=P3.cop s4 C4;have hx:H.n<G0.n:=by omega
 have hX:=λh=>YD2 _ (P.lt _ h);have m1:=f1.n;have m2:=s2.n;have m3:=f3.n;have q1:=f1.same _ hx;have t2:=s2.same H.n (by omega) hX;have q2:=t2.1;have q3:G3.get H.n=G2.get H.n:=f3.same _ (by omega);have q4:=(s4'.same _ (by omega) t2.2).1;have p1:=q1.trans p0;have p2:=q2.trans p1;have p3:=q3.trans p2;have hN:∀{G:Heap},G.get H.n=.cells [.int 4 kd,.int 4 nb,.int 4 lt]->Xh (G.get H.n):=λh=>⟨_,h,λv hv=>by rcases YN.1 hv with rfl|hv;exact⟨_,_,rfl⟩;rcases YN.1 hv with rfl|hv;exact⟨_,_,rfl⟩;rw[YK.1 hv];exact⟨_,_,rfl⟩⟩;refine⟨G4,O',vl',vs',vi',v,λd k=>?_,P4,(f0.trans f1).step.trans (s2.trans (f3.step.trans s4'))⟩;have e1:=m_ nb;have rm:∀{id}{f},iE id (.rem 256) kd 6 f=f (kd%6):=λ{id f}=>kY hkd (by omega) (by omega);have rn:∀{id}{f},iE id (.rem 9223372036854775808) nb 9 f=f (nb%9):=λ{id f}=>kY (by omega) (by omega) (by omega);have rl:∀{id}{f},iE id (.rem 256) lt 200 f=f (lt%200):=λ{id f}=>kY (by omega) (by omega) (by omega);rw[aI T.Y1 rfl rfl]
 rcases hk with hk|hk;.simp only[go_sem,c10,vA,vB,w,hG0,p0,↓rm,↓rn,hk,e1,FW,gI];refine(tE (o:=2) (v:=.int 4 lt) rfl hx (λk=>by simp only[go_sem,p0]) (λk=>lI (hN p0) λG hG=>by cases hG)).trans ?_;simp only[go_sem,gI,↓rl];refine(jN (v:=.str 32 (enc (eR (lt%200) 32))) (H':=G1) (λk=>by simp only[go_sem,↓z1]) (λk=>fy λb hb=>by rw[YK.1 hb];exact⟨hN p0,q1⟩)).trans ?_;refine(jN (v:=.int 3 ((Xe m A.len (nb%9) (dT (lt%200))).E pk A a)) (H':=G2) (λk=>by simp only[go_sem,↓z2]) (λk=>fy λb hb=>by rw[YK.1 hb];exact⟨hN p1,q2⟩)).trans ?_;simp only[go_sem,gI,↓rn];refine(tE (o:=2) (v:=.int 4 lt) rfl hx (λk=>by simp only[go_sem,p2]) (λk=>lI (hN p2) λG hG=>by
   rcases YN.1 hG with rfl|hG;.exact q2.symm
   .rw[YK.1 hG];exact(q2.trans q1).symm)).trans ?_;simp only[go_sem,gI,↓rl];refine(jN (v:=.str 32 (enc (eR (lt%200) 32))) (H':=G3) (λk=>by simp only[go_sem,↓z3]) (λk=>fy λb hb=>by
   have hb':b=H.n:=by rcases YN.1 hb with rfl|hb;rfl;exact YK.1 hb
   rw[hb'];exact⟨hN p2,q3⟩)).trans ?_;refine(jN (v:=.int 3 (if nb%9<c.size/\(32:Nat)=32then 0 else 2)) (H':=G4) (λk=>by simp only[go_sem,↓z4]) (λk=>fy λb hb=>by
   have hb':b=H.n:=by rcases YN.1 hb with rfl|hb;rfl;exact YK.1 hb
   rw[hb'];exact⟨hN p3,q4⟩)).trans ?_;simp only[go_sem,gI,yk]
 .simp only[go_sem,c10,vA,vB,w,hG0,p0,↓rm,↓rn,hk,e1,FW,gI];refine(tE (o:=2) (v:=.int 4 lt) rfl hx (λk=>by simp only[go_sem,p0]) (λk=>lI (hN p0) λG hG=>by cases hG)).trans ?_;simp only[go_sem,gI,↓rl];refine(jN (v:=.str 32 (enc (eR (lt%200) 32))) (H':=G1) (λk=>by simp only[go_sem,↓z1]) (λk=>fy λb hb=>by rw[YK.1 hb];exact⟨hN p0,q1⟩)).trans ?_;refine(jN (v:=.int 3 ((Xe m A.len (nb%9) (dT (lt%200))).E pk A a)) (H':=G2) (λk=>by simp only[go_sem,↓z2]) (λk=>fy λb hb=>by rw[YK.1 hb];exact⟨hN p1,q2⟩)).trans ?_;simp only[go_sem,gI,↓rn];refine(tE (o:=2) (v:=.int 4 lt) rfl hx (λk=>by simp only[go_sem,p2]) (λk=>lI (hN p2) λG hG=>by
   rcases YN.1 hG with rfl|hG;.exact q2.symm
   .rw[YK.1 hG];exact(q2.trans q1).symm)).trans ?_;simp only[go_sem,gI,↓rl];refine(jN (v:=.str 32 (enc (eR (lt%200) 32))) (H':=G3) (λk=>by simp only[go_sem,↓z3]) (λk=>fy λb hb=>by
   have hb':b=H.n:=by rcases YN.1 hb with rfl|hb;rfl;exact YK.1 hb
   rw[hb'];exact⟨hN p2,q3⟩)).trans ?_;refine(jN (v:=.int 3 (if nb%9<c.size/\(32:Nat)=32then 0 else 2)) (H':=G4) (λk=>by simp only[go_sem,↓z4]) (λk=>fy λb hb=>by
   have hb':b=H.n:=by rcases YN.1 hb with rfl|hb;rfl;exact YK.1 hb
   rw[hb'];exact⟨hN p3,q4⟩)).trans ?_;simp only[go_sem,gI,yk]
structure NI(m:MT)(next:Nat):Prop where
 tok:m.tok=sH
 g:∀s∈m.ae,s.g.1=1/\s.g.2<next
theorem NI.RE{m:MT}{next:Nat}(h:NI m next)(h1:0<next):ek (1,next) (df m).g=true:=by
 rcases hn:m.ae.length with _|q;.rw[gk hn];show ek (1,next) (0,0)=true;simp[ek]
 .have hs:m.ae[q]?=some m.ae[q]:=YA (by omega);rw[eU hs hn];obtain⟨g1,g2⟩:=h.g _ (YT (by omega:q<m.ae.length));simp[ek,g1,g2]
def xj(m:MT)(next:Nat):Tk:=⟨(df m).g,(1,next),1,1,[]⟩
theorem Vx{next b}{d}(N:NI m next)(h1:0<next)(hn:next<1000)(h8:m.live.length=8)(hb:b<8)(hd:d.1=32)(hk:tM d):MU m (xj m next) [(b,d)]:=⟨rfl,N.RE h1,⟨by show 1<18446744073709551616;omega,by show next<18446744073709551616;omega⟩,by show 1<=_;omega,YC 1,by rfl,by rw[h8];exact sI.one hb hd hk⟩
theorem MM{next}(N:NI m next):rF m (xj m next)=(df m).bT:=by unfold rF;rw[if_neg];intro h;have:=h.2.1;rw[N.tok]at this;exact absurd (congrArg Prod.fst this) (by show¬(0:Nat)=1;omega)
theorem Vp(T:aB t)(hc:aM t)(F:bH pk unpk)(hp:t 110=some (.nat (dO pk)))(P:PD H X dp vp p A O m vl vs vi false c v)(I:VI pk A a n us m c0)(hl:m.ae.length<900)(hs:c.size=8){b lt next}(hb:b<8)(N:NI m next)(h1:0<next)(hnx:next<1000){vx}(hX:Row H (PQ vp p O v) vx 2 1 [.int 3 b,.str 32 (enc (eR lt 32))])(hfu:1000000<fuel):∃G7 G8 G9 O' vl' vs' vi' v',(∀(d)(k),aj (aS (aO Tryz.prog) t fuel (d+9)) (.func 32 []) [.ptr vp 0,.agg (bE (xj m next) .aE),vx] H k=k (.int 3 ((Ri m A.len (xj m next) [(b,dT lt)]).E pk A a)) G7)/\(∀(d)(k),aj (aS (aO Tryz.prog) t fuel (d+9)) (.func 28 []) [.int 7 1,.int 7 next] G7 k=k (.agg [.int 7 1,.int 7 next]) G8)/\(∀(d)(k),aj (aS (aO Tryz.prog) t fuel (d+9)) (.func 36 []) [.ptr p 0,.agg [.int 7 1,.int 7 next],vx] G8 k=k (.int 3 (eF c (1,next))) G9)/\PD G9 X dp vp p ((Ri m A.len (xj m next) [(b,dT lt)]).A1 pk A a) O' ((Ri m A.len (xj m next) [(b,dT lt)]).M pk A a m) vl' vs' vi' ((Ri m A.len (xj m next) [(b,dT lt)]).L pk A a) (W6 c (1,next) [(b,dT lt)]) v'/\Step H (PQ vp p O v) G9 (PQ vp p O' v'):=by have hg:kP (1,next):=⟨by simp,by omega⟩;have Z:=Vx N h1 hnx I.l8 hb rfl (FN lt);obtain⟨G7,O',z7,hd⟩:=Vu (y:=.aE) T hc F hp (P.vpo I) I.ok I.l8 Z (yY I.xe) rfl (hX.qA λb _ h=>YD h) (by simp) (by rw[MM N];exact qa I.ok I.l8) hl hfu;obtain⟨vl',vs',vi',P7,s7⟩:=P.vop hd;obtain⟨G8,z8o,f8⟩:=kO T P7.cK.wf;have P8:=P7.fresh f8;obtain⟨G9,v',z9o,s9,C9⟩:=NF (fuel:=fuel) (cs:=[(b,dT lt)]) T P8.ch hg ((hX.bU s7).fresh f8) (by simp) (by rw[hs];exact sI.one hb rfl (FN lt)) (by omega);obtain⟨P9,s9'⟩:=P8.cop s9 C9;exact⟨G7,G8,G9,O',vl',vs',vi',v',z7,λd k=>z8o (d+8) k,λd k=>z9o (d+5) k,P9,s7.trans (f8.step.trans s9')⟩
theorem aaa(T:aB t)(hc:aM t)(F:bH pk unpk)(hp:t 110=some (.nat (dO pk)))(P:PD H X dp vp p A O m vl vs vi false c v)(I:VI pk A a n us m c0)(hl:m.ae.length<900)(hs:c.size=8){kd nb lt next:Nat}(N:NI m next)(h1:0<next)(hnx:next<1000)(hk:kd%6=5)(hkd:kd<256)(hnb:nb<256)(hlt:lt<256)(hfu:1000000<fuel):mL pk t fuel H X dp vp p a A O m v kd nb lt next (Ri m A.len (xj m next) [(nb%8,dT (lt%200))]) (W6 c (1,next) [(nb%8,dT (lt%200))],eF c (1,next)):=by
 have w:=P.cK.wf;obtain⟨G0,hG0,f0,p0,n0⟩:=Heap.aV w (.cells [.int 4 kd,.int 4 nb,.int 4 lt]);have P0:=P.fresh f0;have w0:=f0.wf;obtain⟨Ga,hGa,fa,pa,na⟩:=Heap.aV w0 (.cells [.int 3 (nb%8),.int 4 (lt%200)]);have Pa:=P0.fresh fa;have hq:=n_ (nb%8);obtain⟨G1,vx,z1o,f1,o1⟩:=As (cp:=aO Tryz.prog) (fuel:=fuel) (cx:=2) (sx:=0) T fa.wf pa (by omega) hq (by omega) (by omega);have z1:=λ{d:Nat}{k:K}=>z1o (d+7) k;clear z1o;have P1:=Pa.fresh f1;have w1:=f1.wf;have hX1:Row G1 (PQ vp p O v) vx 2 1 [.int 3 (nb%8),.str 32 (enc (eR (lt%200) 32))]:=o1.toRow Pa.lt;obtain⟨G2,z2o,f2⟩:=kO (cp:=aO Tryz.prog) (fuel:=fuel) (a:=1) (b:=next) T w1;have z2:=λ{d:Nat}{k:K}=>z2o (d+8) k;clear z2o;have w2:=f2.wf;obtain⟨G3,hG3,f3,p3,n3⟩:=Heap.aV w2 (.cells [.int 7 0,.int 7 0,.int 7 0,.int 7 0,.int 3 0,.int 3 0,.aE]);have w3:=f3.wf;have b3:G2.n<G3.n:=by omega
 obtain⟨G4,hG4,f4,p4,n4,w4,k4⟩:=Heap.bq (b:=G2.n) f3 (YC _) b3 (.cells [.int 7 0,.int 7 0,.int 7 1,.int 7 next,.int 3 1,.int 3 1,.aE]);have f24:=f2.trans f4;have P4:=P1.fresh f24;obtain⟨G5,vL,z5o,f5,o5⟩:=Ad (cp:=aO Tryz.prog) (fuel:=fuel) T (P4.vpo I) (by omega);have z5:=λ{d:Nat}{k:K}=>z5o (d+8) k;clear z5o;have P5:=P4.fresh f5;have w5:=f5.wf;have p5:G5.get G2.n=.cells [.int 7 0,.int 7 0,.int 7 1,.int 7 next,.int 3 1,.int 3 1,.aE]:=(f5.same _ (by omega)).trans p4;have b5:G2.n<G5.n:=by have:=f5.n;omega
 have jx:=λ{id:Nat}{k:R}=>aP o1.one (id:=id) (k:=k);have sL:=λ{id:Nat}{f:Nat->R}=>o5.sn (id:=id) (f:=f);have c9:=l_ m.ae.length;have e1:=m_ nb;have e3:lt<256:=hlt;have rm:∀{id:Nat}{f:Nat->R},iE id (.rem 256) kd 6 f=f (kd%6):=λ{id f}=>kY hkd (by omega) (by omega);have rn:∀{id:Nat}{f:Nat->R},iE id (.rem 9223372036854775808) nb 8 f=f (nb%8):=λ{id f}=>kY (by omega) (by omega) (by omega);have rl:∀{id:Nat}{f:Nat->R},iE id (.rem 256) lt 200 f=f (lt%200):=λ{id f}=>kY (by omega) (by omega) (by omega);have s04:ah H G1:=f0.trans (fa.trans f1);by_cases h0:m.ae.length=0
 .have hst:xj m next=⟨(0,0),(1,next),1,1,[]⟩:=by unfold xj;rw[gk h0]
  obtain⟨G7,G8,G9,O',vl',vs',vi',v',z7,z8,z9,P9,s9⟩:=Vp T hc F hp P5 I hl hs (lt:=lt%200) (by omega:nb%8<8) N h1 hnx ((hX1.fresh f24).fresh f5) hfu;refine⟨G9,O',vl',vs',vi',v',λd k=>?_,P9,(s04.trans (f24.trans f5)).step.trans s9⟩;have z7:=λ{d:Nat}{k:K}=>z7 d k;have z8:=λ{d:Nat}{k:K}=>z8 d k;have z9:=λ{d:Nat}{k:K}=>z9 d k;rw[hst]at z7⊢;simp only[bE]at z7;rw[aI T.Y1 rfl rfl];simp only[go_sem,c10,vA,vB,w,hG0,p0,↓rm,hk,e1];simp only[go_sem,Sa,Sc,Sg,p0,w0,hGa,↓rn,↓rl,↓z1,↓z2,w2,hG3,p3,b3,w3,hG4,↓z5];simp only[go_sem,ZE,Sh,↓sL,h0,Si,Sj,p5,↓z7,↓z8,↓z9]
 .obtain⟨q,hqn⟩:∃q,m.ae.length=q+1:=⟨m.ae.length-1,by omega⟩;have hqs:m.ae[q]?=some m.ae[q]:=YA (by omega);have hgi:(m.ae.map (·.g))[q]?=some m.ae[q].g:=by rw[Yq,hqs];rfl
  have hlg:(df m).g=m.ae[q].g:=by rw[eU hqs hqn]
  have hst:xj m next=⟨m.ae[q].g,(1,next),1,1,[]⟩:=by unfold xj;rw[hlg]
  have hL:=o5.toRow (O:=λ_=>False) λb h=>h.elim;obtain⟨bL,oL,cL,zL,hvL,hbL,-,hrL⟩:=hL.open (i:=q) (by omega);rw[tA hgi]at hrL;have hrL:=λ{id:Nat}{k:List V->R}=>(hrL (G:=G5) rfl).1 (id:=id) (k:=k);generalize m.ae[q].g=g at hrL hst;simp only[aZ]at hrL;subst hvL;obtain⟨G6,hG6,f6,p6,n6,w6,k6⟩:=Heap.bq (b:=G2.n) (f4.trans f5) (YC _) b5 (.cells [.int 7 g.1,.int 7 g.2,.int 7 1,.int 7 next,.int 3 1,.int 3 1,.aE]);have f26:=f2.trans f6;obtain⟨G7,G8,G9,O',vl',vs',vi',v',z7,z8,z9,P9,s9⟩:=Vp T hc F hp (P1.fresh f26) I hl hs (lt:=lt%200) (by omega:nb%8<8) N h1 hnx (hX1.fresh f26) hfu;refine⟨G9,O',vl',vs',vi',v',λd k=>?_,P9,(s04.trans f26).step.trans s9⟩;have z7:=λ{d:Nat}{k:K}=>z7 d k;have z8:=λ{d:Nat}{k:K}=>z8 d k;have z9:=λ{d:Nat}{k:K}=>z9 d k;rw[hst]at z7⊢;simp only[bE]at z7;have h0':(m.ae.length=0)=False:=eq_false h0;have a1:(m.ae.length+18446744073709551615)%18446744073709551616=q:=by omega
  have a2:=l_ q;have a3:q<m.ae.length:=by omega
  have a4:=n_ q;have a5:0<m.ae.length:=by omega
  rw[aI T.Y1 rfl rfl];simp only[go_sem,c10,vA,vB,w,hG0,p0,↓rm,hk,e1];simp only[go_sem,Sa,Sc,Sg,p0,w0,hGa,↓rn,↓rl,↓z1,↓z2,w2,hG3,p3,b3,w3,hG4,↓z5];simp only[go_sem,ZE,Sh,↓sL,c9,a1,a2,a3,a5,↓hrL,p5,w5,b5,hG6];simp only[go_sem,Si,Sj,p6,↓z7,↓z8,↓z9]
end
theorem ie.e0{A:AD}{m:MT}{e:Nat}{o:iQ}{c:CH}(h:ie A m ⟨e,o.m1,o.bw⟩ c):ie A m o c:=⟨h.ok,h.xe,h.l8,h.bw,h.nd,h.len,h.s8,h.ag⟩
theorem NI.mono{m:MT}{a b:Nat}(h:NI m a)(hab:a<=b):NI m b:=⟨h.tok,λs hs=>⟨(h.g s hs).1,YE (h.g s hs).2 hab⟩⟩
def pz(A:AD)(m:MT)(c:CH)(o:iQ)(r:CH×Nat)(next:Nat):Prop:=(o.e0≠0/\o.e0≠7/\r=(c,o.e0))\/o.e0=7\/(o.e0=0/\r.2=0/\ie A m o r.1/\NI o.m1 next)
section
variable{pk:List UInt8->List (List UInt8)}{A:AD}{a n:Nat}{us:List Wr}{m:MT}{c:CH}{next:Nat}
theorem aaj(I:VI pk A a n us m c)(N:NI m next){b}{d}(hd:d.1=32)(hk:tM d):pz A m c (Xe m A.len b d) (Lh c b d,if b<c.size/\(32:Nat)=32then 0 else 2) next:=by
 have hs:=I.s8;unfold pz Xe;by_cases hb:b<8
 .by_cases hf:iN m A.len b d;.simp_all
  .right;right;refine⟨by simp_all,by simp_all,(Lj I hb hd hk hf).e0,N.tok,N.g⟩
 .have:Lh c b d=c:=by unfold Lh;rw[if_neg (by omega)]
  simp_all
theorem Z4(I:VI pk A a n us m c)(N:NI m next)(h1:0<next)(hn:next<1000):pz A m c (snO m (1,next)) (AS c (1,next),eF c (1,next)) (next+1):=by
 have hab:=N.RE h1;have hl:=I.last.1;have hlen:=I.ag.len;unfold pz snO;by_cases h20:20<=m.ae.length
 .have hx:eF c (1,next)=3:=by unfold eF;simp_all
  have:AS c (1,next)=c:=by unfold AS;simp_all
  simp_all
 .right;right;have hx:eF c (1,next)=0:=by unfold eF;simp_all
  refine⟨by simp_all,hx,(PM I ⟨by simp,by omega⟩ hab (by omega)).e0,rfl,λs hs=>?_⟩;rcases Yl.1 (show s∈m.ae++[⟨(1,next),m.live,false⟩]from hs)with hs|hs;.exact⟨(N.g s hs).1,by have:=(N.g s hs).2;omega⟩
  simp_all
theorem ZM(I:VI pk A a n us m c)(N:NI m next){q}:pz A m c (rbO m q) (Xa c q,if c.ae.length<q then 2 else 0) next:=by
 have hlen:=I.ag.len;unfold pz rbO;by_cases hq:m.ae.length<q
 .have:Xa c q=c:=by unfold Xa;simp_all
  simp_all
 .right;right;exact⟨by simp_all,by simp_all,(AO I (by omega)).e0,rfl,λs hs=>N.g s (WK hs)⟩
theorem yo(m)(g):(cW m g).2≠7:=by
 unfold cW;split;.simp
 .split;.simp
  simp
theorem X3(I:VI pk A a n us m c)(N:NI m next){g}:pz A m c (hiO m g) (W9 c g,(pJ c g).2) next:=by
 have hf:=I.ag.find g;unfold pz hiO;by_cases h0:(cW m g).2=0
 .right;right;refine⟨h0,by simp_all,(OI I h0).e0,N.tok,λs hs=>?_⟩;obtain⟨i,hi,hr,-⟩:=lk h0;have hs:=hs;rw[hr]at hs;have hsi:=YA hi;have hm:(GC m i).ae=m.ae.set i {m.ae[i]with hid:=true}:=by unfold GC;simp_all
  rw[hm]at hs;rcases Wn hs with hs|rfl;.exact N.g s hs
  .exact N.g m.ae[i] (YT hi)
 .left;have:W9 c g=c:=by unfold W9;simp_all
  exact⟨h0,yo m g,by simp_all⟩
theorem Z2(I:VI pk A a n us m c)(N:NI m next)(h1:0<next)(hn:next<1000){b}{d}(hb:b<8)(hd:d.1=32)(hk:tM d):pz A m c (Ri m A.len (xj m next) [(b,d)]) (W6 c (1,next) [(b,d)],eF c (1,next)) (next+1):=by
 have hab:=N.RE h1;have hl:=I.last;have hlen:=I.ag.len;have hL:=MM N;unfold pz Ri;by_cases h20:20<=m.ae.length
 .have hx:eF c (1,next)=3:=by unfold eF;simp_all
  have:W6 c (1,next) [(b,d)]=c:=by unfold W6;simp_all
  have hr:uW m (xj m next)=3:=by unfold uW;rw[if_pos ⟨rfl,h20⟩]
  simp_all
 .have hr:uW m (xj m next)=0:=by unfold uW;simp_all
  by_cases hf:kh m A.len [(b,d)];.simp_all
  .right;right;have hx:eF c (1,next)=0:=by unfold eF;simp_all
   have hfin:¬(xj m next).next<(xj m next).all:=YD2 1;have G:=KY I (Vx N h1 hn I.l8 hb hd hk) hfin (by omega) hf (by rw[hL];exact qa I.ok I.l8) (by rw[hL];exact Uh) (by simp) (bv:=IK c [(b,d)]) (by rw[hL,hl.2];rfl);have hc:W6 c (1,next) [(b,d)]={c with ae:=c.ae++[⟨IK c [(b,d)],(1,next),false⟩],live:=IK c [(b,d)]}:=by unfold W6;simp_all
   refine⟨by simp_all,hx,by rw[hc];exact ie.e0 G,?_⟩;refine⟨rfl,λs hs=>?_⟩;rcases Yl.1 hs with hs|hs;.exact⟨(N.g s hs).1,by have:=(N.g s hs).2;omega⟩
   .rw[YK.1 hs];exact⟨rfl,Nat.lt_succ_self _⟩
theorem ad0.len{tk:Tk}{last:Gd}{k:Nat}(h:rK tk last 8 k):tk.bT.length<=8:=by
 unfold rK at h;split at h;.rw[h.2.2.2];exact Ya _
 .exact YR1 h.2.2.2.2.2.len
theorem Mh{k}:∀{L:List (List Nat)},(∀l∈L,l.length<=k)->L.flatten.length<=L.length*k|[],_=>Ya _|l::L,h=>by have h1:=h l (YM ..);have h2:=Mh λx hx=>h x (YI _ hx);rw[WL,YB,YH,Wi];omega
theorem DT(I:gG m 8 400):20<=(cX (eZ m 400)).length:=by
 have h1:((WY 400).filter λi=>decide (193<=i)).length=207:=by rfl
 have hnd:((WY 400).filter λi=>decide (193<=i)).Nodup:=List.Pairwise.filter _ YK1;have hsub:((WY 400).filter λi=>decide (193<=i))⊆cX (eZ m 400)++(dr m).flatten:=λi hi=>by
  rw[Wt,QZ,decide_eq_true_eq]at hi;by_cases hc:(nz (dr m).flatten).count i=0;.refine WS _ ?_;unfold cX;rw[Wt,QZ,decide_eq_true_eq];unfold eZ;rw[dM,pK hi.1,hc];simp_all
  .refine List.mem_append_right _ ?_;have:=Classical.byContradiction λh=>hc (YE1.2 h);exact(UH.1 this).1
 have hle:=List.Nodup.length_le_of_subset hnd hsub;have hfl:(dr m).flatten.length<=(dr m).length*8:=Mh λl hl=>by
  unfold dr at hl;rcases YN.1 hl with rfl|hl;.exact YR1 I.live.len
  rcases YN.1 hl with rfl|hl;.exact ad0.len I.tok
  .obtain⟨s,hs,rfl⟩:=YW.1 hl;exact YR1 (I.ae.mem hs).len
 have h3:(dr m).length=m.ae.length+2:=by unfold dr;simp
 have:=I.num;rw[YB,h1]at hle;omega
end
def pe(n:Nat)(m:MT)(kd nb lt next:Nat):iQ:=if kd%6=0\/kd%6=1then Xe m n (nb%9) (dT (lt%200))else if kd%6=2then snO m (1,next)else if kd%6=3then rbO m (nb%6)else if kd%6=4then hiO m (1,nb%8)else Ri m n (xj m next) [(nb%8,dT (lt%200))]
def It(c:CH)(kd nb lt next:Nat):CH×Nat:=if kd%6=0\/kd%6=1then(Lh c (nb%9) (dT (lt%200)),if nb%9<c.size/\(32:Nat)=32then 0 else 2)else if kd%6=2then(AS c (1,next),eF c (1,next))else if kd%6=3then(Xa c (nb%6),if c.ae.length<nb%6then 2 else 0)else if kd%6=4then(W9 c (1,nb%8),(pJ c (1,nb%8)).2)else(W6 c (1,next) [(nb%8,dT (lt%200))],eF c (1,next))
section
variable{t:Nat->Option du}{fuel:Nat}{H:Heap}{pk:List UInt8->List (List UInt8)}{unpk:List (List UInt8)->Option (List UInt8)}
variable{X:Nat->Prop}{dp vp p a n:Nat}{A:AD}{O:Nat->Prop}{m:MT}{vl vs vi v:V}{c:CH}{us:List Wr}
theorem Iu(T:aB t)(hc:aM t)(F:bH pk unpk)(hp:t 110=some (.nat (dO pk)))(P:PD H X dp vp p A O m vl vs vi false c v)(I:VI pk A a n us m c){kd nb lt next}(N:NI m next)(h1:0<next)(hnx:next<1000)(hkd:kd<256)(hnb:nb<256)(hlt:lt<256)(hfu:1000000<fuel):mL pk t fuel H X dp vp p a A O m v kd nb lt next (pe A.len m kd nb lt next) (It c kd nb lt next)/\pz A m c (pe A.len m kd nb lt next) (It c kd nb lt next) (next+1):=by
 have hl:m.ae.length<900:=by have:=I.ok.num;omega
 have N':=N.mono (Nat.le_succ next);unfold pe It;by_cases k0:kd%6=0\/kd%6=1;.rw[if_pos k0,if_pos k0];exact⟨aac T hc F hp P I k0 hkd hnb hlt hfu,aaj I N' rfl (FN _)⟩
 rw[if_neg k0,if_neg k0];by_cases k2:kd%6=2;.rw[if_pos k2,if_pos k2];exact⟨aab T hc F hp P I hl k2 hkd hnb hnx hfu,Z4 I N h1 hnx⟩
 rw[if_neg k2,if_neg k2];by_cases k3:kd%6=3;.rw[if_pos k3,if_pos k3];exact⟨Z9 T hc F hp P I k3 hkd hnb hfu,ZM I N'⟩
 rw[if_neg k3,if_neg k3];by_cases k4:kd%6=4;.rw[if_pos k4,if_pos k4];exact⟨Z8 T hc F hp P I k4 hkd hnb hfu,X3 I N'⟩
 rw[if_neg k4,if_neg k4];exact⟨aaa T hc F hp P I hl I.s8 N h1 hnx (by omega) hkd hnb hlt hfu,Z2 I N h1 hnx (by omega) rfl (FN _)⟩
def Xi(pk:List UInt8->List (List UInt8))(t:Nat->Option du)(fuel:Nat)(H:Heap)(X:Nat->Prop)(dp vp p:Nat)(A:AD)(O:Nat->Prop)(m:MT)(c:CH)(v:V)(kd nb lt next:Nat):Prop:=∃H' A' O' vl' vs' vi' v' m' c' ch1 E F a' n' us',(∀(d:Nat)(k:K),aj (aS (aO Tryz.prog) t fuel (d+10)) (.func 20 []) [.ptr vp 0,.ptr p 0,.agg [.int 4 kd,.int 4 nb,.int 4 lt],.int 7 next] H k=k (.cG [.int 3 E,.int 3 F]) H')/\PD H' X dp vp p A' O' m' vl' vs' vi' false ch1 v'/\Step H (PQ vp p O v) H' (PQ vp p O' v')/\VI pk A' a' n' us' m' c'/\A'.aT=0/\A'.len=A.len/\A'.room=A.room/\NI m' (next+1)/\((E≠7/\E=F/\ch1=c')\/(E=7/\c'=c))/\(A.len=400->E≠7)
theorem VI.DT(I:VI pk A a n us m c)(h:A.len=400):20<=(cX (eZ m 400)).length:=Go.Ev.DT (by have:=I.ok;rw[h]at this;exact this)
theorem zS(I:VI pk A a n us m c)(h:A.len=400){kd nb lt next:Nat}:(pe A.len m kd nb lt next).e0≠7:=by
 have hr:=I.DT h;unfold pe;split
 .unfold Xe;have:¬iN m A.len (nb%9) (dT (lt%200)):=λhf=>by unfold iN at hf;rw[h]at hf;have:=mA [(nb%9,dT (lt%200))] 1;omega
  by_cases hb:nb%9<8<;>simp[hb,this]
 split
 .unfold snO;show(if ek (1,next) (df m).g=false then 2 else if 20<=m.ae.length then 3 else 0)≠7;split;.omega
  .split<;>omega
 split;.unfold rbO;show(if m.ae.length<nb%6then 2 else 0)≠7;split<;>omega
 split;.exact yo m _
 .unfold Ri;have:¬kh m A.len [(nb%8,dT (lt%200))]:=λhf=>by unfold kh at hf;rw[h]at hf;have:=mA [(nb%8,dT (lt%200))] 1;have h2:[(nb%8,dT (lt%200))].length=1:=rfl;rw[h2]at hf;omega
  show(if uW m (xj m next)≠0then uW m (xj m next)else if kh m A.len [(nb%8,dT (lt%200))]then 7 else 0)≠7;rw[if_neg this];unfold uW;split<;>split<;>omega
theorem Vw(T:aB t)(hc:aM t)(F:bH pk unpk)(hp:t 110=some (.nat (dO pk)))(P:PD H X dp vp p A O m vl vs vi false c v)(I:VI pk A a n us m c)(hf:A.aT=0){kd nb lt next:Nat}(N:NI m next)(h1:0<next)(hnx:next<1000)(hkd:kd<256)(hnb:nb<256)(hlt:lt<256)(hfu:1000000<fuel):Xi pk t fuel H X dp vp p A O m c v kd nb lt next:=by
 obtain⟨⟨H',O',vl',vs',vi',v',z,P',s⟩,hR⟩:=Iu T hc F hp P I N h1 hnx hkd hnb hlt hfu;have hroom:A.len=400->(pe A.len m kd nb lt next).e0≠7:=λh=>zS I h;have N':=N.mono (Nat.le_succ next);generalize pe A.len m kd nb lt next=o at z P' hR hroom;generalize It c kd nb lt next=r at z P' hR;rcases hR with⟨h0,h7,hr⟩|h7|⟨h0,hr,G,N1⟩
 .have e1:o.E pk A a=o.e0:=by unfold iQ.E;simp_all
  have e2:o.A1 pk A a=A:=by unfold iQ.A1;simp_all
  have e3:o.M pk A a m=m:=by unfold iQ.M;simp_all
  have e4:o.L pk A a=false:=by unfold iQ.L;simp_all
  rw[e1]at z;rw[e2,e3,e4]at P';subst hr;exact⟨H',A,O',vl',vs',vi',v',m,c,c,o.e0,o.e0,a,n,us,z,P',s,I,hf,rfl,rfl,N',YF ⟨h7,rfl,rfl⟩,λ_=>h7⟩
 .have h0:o.e0≠0:=by omega
  have e1:o.E pk A a=7:=by unfold iQ.E;simp_all
  have e2:o.A1 pk A a=A:=by unfold iQ.A1;simp_all
  have e3:o.M pk A a m=m:=by unfold iQ.M;simp_all
  have e4:o.L pk A a=false:=by unfold iQ.L;simp_all
  rw[e1]at z;rw[e2,e3,e4]at P';exact⟨H',A,O',vl',vs',vi',v',m,c,r.1,7,r.2,a,n,us,z,P',s,I,hf,rfl,rfl,N',YD ⟨rfl,rfl⟩,λh=>absurd h7 (hroom h)⟩
 .obtain⟨g1,g2,g3,g4,a',n',us',I'⟩:=G.done F I hf;have e1:o.E pk A a=0:=by unfold iQ.E;simp_all
  have e2:o.A1 pk A a=(lO pk A a o.m1 o.bw).1:=by unfold iQ.A1;simp_all
  have e3:o.M pk A a m=o.m1:=by unfold iQ.M CC;simp_all
  have e4:o.L pk A a=false:=by unfold iQ.L Ti;simp_all
  rw[e1,hr]at z;rw[e2,e3,e4]at P';exact⟨H',_,O',vl',vs',vi',v',o.m1,r.1,r.1,0,0,a',n',us',z,P',s,I',g2,g3,g4,N1,YF ⟨by omega,rfl,rfl⟩,λ_=>by omega⟩
end
section
variable{cp:RC->au}{t:Nat->Option du}{fuel:Nat}{H H':Heap}{pk:List UInt8->List (List UInt8)}{unpk:List (List UInt8)->Option (List UInt8)}
variable{X:Nat->Prop}{dp vp p q a n:Nat}{A:AD}{O:Nat->Prop}{m:MT}{vl vs vi v v0:V}{c c0:CH}{us:List Wr}{lost:Bool}
theorem PD.new(S:VP H dp vp a n A O m vl vs vi)(f:ah H H')(C:iO H' q c v)(hq:∀b,CQ q v b->H.n<=b):PD H' (λ_=>False) dp vp q A O m vl vs vi false c v:=by have S':=S.fresh f;exact⟨S'.cK,S'.get,S'.vn,S'.vo,(S.nx.qA λb hb h=>h.elim (λh=>h.elim False.elim λh=>by have:=hq b h;omega) id).fresh f,C,λb hb h=>by have:=hq b hb;have:=S.lt b h;omega,λb h=>h.elim,λb h=>h.elim,λb h=>h.elim⟩
theorem PD.more(P:PD H (λ_=>False) dp vp p A O m vl vs vi lost c v)(f:ah H H')(C:iO H' q c0 v0)(hq:∀b,CQ q v0 b->H.n<=b):PD H' (CQ q v0) dp vp p A O m vl vs vi lost c v:=by have P':=P.fresh f;exact⟨P'.cK,P'.get,P'.vn,P'.vo,(P.nx.qA λb hb h=>h.elim (λh=>h.elim (λh=>by have:=hq b h;omega) λh=>YF (YD h)) YD).fresh f,P'.ch,P'.Rf,C.lt,λb hb h=>by have:=hq b hb;have:=P.ch.lt b h;omega,λb hb h=>by have:=hq b hb;have:=P.wlt b h;omega⟩
theorem Po(T:aB t)(hc:aM t)(F:bH pk unpk)(hu:t 85=some (.nat (eE unpk)))(P:PD H X dp vp p A O m vl vs vi lost c v)(I:VI pk A a n us m c0)(hf:A.aT=0)(hfu:1000000<fuel):∃H' O' A' vp' vl' vs' vi',(∀(d)(k),aj (aS cp t fuel (d+9)) (.func 22 []) [.ptr dp 0] H k=k (.cG [.ptr vp' 0,.int 3 0]) H')/\PD H' X dp vp' p A' O' m vl' vs' vi' false c v/\VI pk A' a n us m c0/\A'.aT=0/\A'.len=A.len/\A'.room=A.room/\Step H O H' O'/\H.n<=vp':=by
 obtain⟨H',O',A',vp',vl',vs',vi',z,s,S,hv,I',g1,g2,g3,hX⟩:=wh T hc F hu P.cK I hf hfu;have hd:=λb hb h=>P.Rf b hb (YF h);refine⟨H',O',A',vp',vl',vs',vi',z,⟨S.cK,S.get,S.vn,S.vo,hX _ λb hb=>hb.elim (P.xn b) (P.ch.lt b),(P.ch.bU s hd).1,λb hb h=>?_,λb hb=>YE (P.xn b hb) s.n,P.xc,λb hb h=>?_⟩,I',g1,g2,g3,s,hv⟩
 .have hbn:=P.ch.lt b hb;rcases h with h|h;.exact(s.same b hbn (hd b hb)).2 h
  omega
 .have hbn:=P.xn b hb;rcases h with h|h;.exact(s.same b hbn λh=>P.xo b hb (YF h)).2 h
  omega
theorem af1(T:aB t)(hc:aM t)(P:PD H X dp vp p A O m vl vs vi false c v)(I:VI pk A a n us m c0)(hs:c.size=8)(hfu:1000<fuel):∃H' b,(∀(d)(k),aj (aS cp t fuel (d+6)) (.func 24 []) [.ptr vp 0,.ptr p 0] H k=k (.bool b) H')/\PD H' X dp vp p A O m vl vs vi false c v/\Step H (bg O vp) H' (bg O vp)/\(gE A m c->b=true):=by obtain⟨H',b,z,V',hb⟩:=Lr T hc (P.vpo I) P.ch P.Rf I.l8 hs (λq hq=>by have:=I.ok.live.pl q hq;have:=I.lo;omega) (λs hs q hq=>by have:=(I.ok.ae.mem hs).pl q hq;have:=I.lo;omega) (λs hs=>by rw[(I.ok.ae.mem hs).len,I.l8]) hfu;exact⟨H',b,z,⟨V'.vp.cK,V'.vp.get,V'.vp.vn,V'.vp.vo,P.nx.bU V'.st.or,V'.ch,P.Rf,λb hb=>YE (P.xn b hb) V'.st.n,P.xc,P.xo⟩,V'.st,hb⟩
end
noncomputable def yT(args:List V)(H:Heap)(k:K):R:=match args with|[]=>k (.bool true) H|_=>no 0
abbrev D3:=Nat×Nat×Nat
def TN(x:D3):List V:=[.int 4 x.1,.int 4 x.2.1,.int 4 x.2.2]
def FR(l:List D3):List V:=l.flatMap TN
theorem yc:∀{l}{i}{x},l[i]?=some x->((FR l).drop (i*3)).take 3=TN x
 |[],i,x,h=>by simp_all|a::l,0,x,h=>by simp at h;subst h;rfl|a::l,i+1,x,h=>by
  have h':=by omega
  rw[show(i+1)*3=3+i*3by omega,<-Qg];exact yc h'
structure vk(H:Heap)(v:V)(ds:List D3):Prop where row:Row H (λ_=>False) v 3 ds.length (FR ds)lt:∀x∈ds,x.1<256/\x.2.1<256/\x.2.2<256n:ds.length<9223372036854775808
theorem vk.fresh{H H':Heap}{v:V}{ds:List D3}(h:vk H v ds)(f:ah H H'):vk H' v ds:=⟨h.row.fresh f,h.lt,h.n⟩
section
variable{t:Nat->Option du}{fuel:Nat}{H:Heap}{pk:List UInt8->List (List UInt8)}{unpk:List (List UInt8)->Option (List UInt8)}
structure LI(pk:List UInt8->List (List UInt8))(H0 G:Heap)(X:Nat->Prop)(dp vp p:Nat)(A:AD)(O:Nat->Prop)(m:MT)(vl vs vi:V)(c:CH)(v:V)(a n:Nat)(us:List Wr)(next:Nat):Prop where
 pd:PD G X dp vp p A O m vl vs vi false c v
 vi:VI pk A a n us m c
 aT:A.aT=0ni:NI m next
 fresh:ah H0 G
 own:∀b,PQ vp p O v b->H0.n<=b
theorem Em(hwk:t 7=some (.nat yT)){cp}(d)(k)(G):aj (aS cp t fuel (d+1)) (.func 14 []) [] G k=k (.bool true) G:=by rw[mS hwk rfl rfl];rfl
theorem ahd:(⟨zT 8,8,[]⟩:CH)=c0:=rfl
theorem XK{q b}:CQ q .aE b↔b=q:=⟨λh=>h.elim id (λ⟨_,_,_,_,h⟩=>(by cases h)),YF⟩
theorem RT(T:aB t)(hc:aM t)(F:bH pk unpk)(hp:t 110=some (.nat (dO pk)))(hu:t 85=some (.nat (eE unpk)))(hw:H.wf)(hfu:1000000<fuel):∃G1 G2 dp vp p,(∀(d)(k),aj (aS (aO Tryz.prog) t fuel (d+10)) (.func 16 []) [.int 3 8] H k=k (.cG [.ptr dp 0,.ptr vp 0]) G1)/\(∀(d)(k),aj (aS (aO Tryz.prog) t fuel (d+2)) (.func 18 []) [.int 3 8] G1 k=k (.ptr p 0) G2)/\∃A O m vl vs vi c v a n us,LI pk H G2 (λ_=>False) dp vp p A O m vl vs vi c v a n us 1/\A.len=400:=by
 obtain⟨G1,A,a,n,us,dp,vp,O,vl,vs,vi,z1,f1,S,I,g1,g2,g3,own⟩:=GZ T hc F hp hu hw hfu;obtain⟨G2,p,z2,f2,C,hv⟩:=NH (fuel:=fuel) T f1.wf (by omega) (YC 8) (by omega);have hq:∀b,CQ p .aE b->G1.n<=b:=λb hb=>by rw[XK.1 hb];omega
 exact⟨G1,G2,dp,vp,p,z1,z2,A,O,mz 8,vl,vs,vi,c0,.aE,a,n,us,⟨PD.new S f2 C hq,I,g1,⟨rfl,λs hs=>by cases hs⟩,f1.trans f2,λb hb=>hb.elim (λhb=>Yr f1.n (hq b hb)) (own b)⟩,g2⟩
end
end Go.Ev
end
section
namespace Go.Ev
open Go.Deep Go.ChangeShapes Go.WideShapes Go.RowKit
theorem uZ{n:Int}:(n%(2^IntKind.u8.bits:Nat)).toNat<256:=by have h1:(0:Int)<=n%(2^IntKind.u8.bits:Nat):=Int.emod_nonneg _ (by simp[IntKind.bits]);have h2:n%(2^IntKind.u8.bits:Nat)<(2^IntKind.u8.bits:Nat):=Int.emod_lt_of_pos _ (by omega);simp only[IntKind.bits]at h1 h2⊢;omega
theorem yx{α:Type}{len}{p}{i}{x:α}(hi:((WY len).map p)[i]?=some x):i<len/\x=p i:=by rw[Yq]at hi;obtain⟨q,h3,rfl⟩:=Option.map_eq_some_iff.1 hi;obtain⟨h4,h5⟩:=YQ.1 h3;rw[List.getElem_range]at h5;simp_all
theorem uy:∀l:List D3,(FR l).length=l.length*3|[]=>rfl|x::l=>by show(TN x++FR l).length=_;rw[YB,uy l,YH,Wi];show 3+_=_;omega
theorem Oo{l}{i j}{x}(h:l[i]?=some x)(hj:j<3):(FR l)[i*3+j]?=(TN x)[j]?:=by rw[<-yc h,Yy,if_pos hj,WB]
section
variable{H:Type}{enc:TypeId×Value->H}{P:Program}{w:World}
theorem Tr{t q:TypeId}{k0 k1 k2:Field}{fuel:Nat}{v:Value}{x:DataW H×List MemPlace}(ht:P.underlying t=some (.slice q))(hq:P.underlying q=some (.struct #[k0,k1,k2]))(hq3:P.cellsOf q=3)(ko0:k0.offset=0)(ko1:k1.offset=1)(ko2:k2.offset=2)(kc0:P.cellsOf k0.type=1)(kc1:P.cellsOf k1.type=1)(kc2:P.cellsOf k2.type=1)(ku0:P.underlying k0.type=some (.int .u8))(ku1:P.underlying k1.type=some (.int .u8))(ku2:P.underlying k2.type=some (.int .u8))(h:DataW.trod enc P w 0 (λ_=>true) true fuel t [v]=some x)(hnf:w.noneFrozen x.2):∃ds,vk (eY w) (tX w.heap.size v) ds:=by
 obtain⟨h1,h2⟩:=zP ht hq3 (by omega) h hnf (λ_ _ _ _ _ hb=>(show False from hb).elim);rcases h2 with h2|⟨b,o,len,c,row,hl0,hl,hv,hb,hbn,hx⟩;.exact⟨[],⟨⟨rfl,λx hx=>(by cases hx),YF ⟨h2,rfl⟩⟩,λx hx=>(by cases hx),by simp⟩⟩
 have each:∀i,i<len->∃p:D3,(row[o+i*3]?=some (.int 4 p.1)/\row[o+i*3+1]?=some (.int 4 p.2.1)/\row[o+i*3+2]?=some (.int 4 p.2.2))/\p.1<256/\p.2.1<256/\p.2.2<256:=λi hi=>by obtain⟨cs,n,y,hlen,hcs,htr,hnf'⟩:=hx i hi;obtain⟨xs,n',_,hy,_,hxl,hf⟩:=DataW.trod_struct hq htr;match cs,hlen,xs,hxl with|[w0,w1,w2],_,[y0,y1,y2],_=>have a0:=hf 0 k0 rfl;have a1:=hf 1 k1 rfl;have a2:=hf 2 k2 rfl;simp[ko0,kc0]at a0;simp[ko1,kc1]at a1;simp[ko2,kc2]at a2;obtain⟨n0,e0,_,x0⟩:=DataW.trod_int ku0 a0;obtain⟨n1,e1,_,x1⟩:=DataW.trod_int ku1 a1;obtain⟨n2,e2,_,x2⟩:=DataW.trod_int ku2 a2;cases e0;cases e1;cases e2;have r0:=hcs 0 _ rfl;have r1:=hcs 1 _ rfl;have r2:=hcs 2 _ rfl;rw[kJ x0]at r0;rw[kJ x1]at r1;rw[kJ x2]at r2;exact⟨(_,_,_),⟨r0,r1,r2⟩,uZ,uZ,uZ⟩
 obtain⟨p,hp⟩:=choose_lt each;have hlen:((WY len).map p).length=len:=by rw[Yg,List.length_range]
 have hget:∀i,i<len->((WY len).map p)[i]?=some (p i):=λi hi=>by rw[Yq,List.getElem?_range hi];rfl
 have hlast:o+len*3<=row.length:=by have:=(YQ.1 (hp (len-1) (by omega)).1.2.2).1;omega
 refine⟨(WY len).map p,⟨⟨uy _,λz hz=>?_,YD ⟨b,o,c,0,row,by rw[hv,hlen],YD hb,hbn,λh=>h,by rw[hlen];exact hlast,?_⟩⟩,λz hz=>?_,by omega⟩⟩;.obtain⟨y,-,hz⟩:=List.mem_flatMap.1 hz;rcases YN.1 hz with rfl|hz;rfl;rcases YN.1 hz with rfl|hz;rfl;rw[YK.1 hz];rfl
 .refine Qa λk=>?_;rw[hlen,Yy];by_cases hk:k<len*3
  .rw[if_pos hk,WB];obtain⟨i,j,hj,rfl⟩:∃i j,j<3/\k=i*3+j:=⟨k/3,k%3,by omega,by omega⟩;have hi:i<len:=by omega
   rw[Oo (hget i hi) hj];obtain⟨⟨r0,r1,r2⟩,-⟩:=hp i hi;match j,hj with|0,_=>exact r0|1,_=>exact r1|2,_=>exact r2
  .rw[if_neg hk,WT (by rw[uy,hlen];omega)]
 .obtain⟨i,hi⟩:=Wg hz;obtain⟨h3,rfl⟩:=yx hi;exact(hp i h3).2
end
end Go.Ev
end
