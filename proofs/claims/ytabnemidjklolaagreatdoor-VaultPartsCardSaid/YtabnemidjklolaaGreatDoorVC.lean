/- VC: a part of the evaluator,of its logic,or of the laws' walk in it. -/
import Derived.Test.YtabnemidjklolaaGreatDoorVB
import Derived.Test.YtabnemidjklolaaGreatDoorLC
import Derived.OpenShut
open List renaming getElem?_eq_getElem→YA,length_append→YB,getD_eq_getElem?_getD→YD,length_cons→YG,mem_cons_of_mem→YI,nil_append→YJ,cons_append→YK,mem_cons_self→YL,mem_singleton→YM,map_cons→YN,getElem_mem→YP,mem_cons→YS,append_nil→YV,getElem?_eq_some_iff→YW,eq_nil_of_length_eq_zero→YX,map_nil→YY,replicate→YZ,mem_map→Ye,take_of_length_le→Yi,length_map→Yj,mem_of_getElem?→Yk,getElem?_append_right→Yl,mem_append→Yo,getElem?_append_left→Yp,getElem?_map→Yq,length_take→Yv,getElem?_take→Yy,map_append→Yz,append_assoc→WB,getElem?_drop→WG,mem_of_mem_take→WI,getElem?_eq_none→WJ,length_drop→WK,flatten_cons→WO,length_replicate→WT,range→WV,length_pos_iff→Wb,map_replicate→Wc,length_set→Wg,take_append_of_le_length→Wk,mem_or_eq_of_mem_set→Wl,drop_zero→Wo,mem_filter→Wp,map_congr_left→Wy,drop_append_of_le_length→QA,mem_range→QD,getElem?_of_mem→QH,mem_append_left→QK,findIdx?_eq_some_iff_getElem→QM,nodup_nil→QP,ext_getElem?→QV,nodup_append→QW,drop_drop→Qd,take_add_one→Qj,take_take→Qq,take_left'→Qv,set_append_right→Qx,count_eq_zero→YD0,mem_replicate→YD3,map_set→YE1,getElem?_set→YE2,nodup_range→YJ3,replicate_succ'→YM4,findIdx?_cons→YP0,take_sublist→YQ1
open Nat renaming le_refl→YC,lt_of_lt_of_le→YF,beq→YR,zero_le→Ya,le_trans→Ys,mod_eq_of_lt→WE,zero_add→WH,add_zero→WM,add_mul→We,add_sub_cancel→Wn,sub_zero→Wu,zero_mul→QF,sub_self→QG,le_of_lt→Qb,lt_irrefl→Qc,le_of_eq→YQ2
open Or renaming inr→YE,inl→YH
open Bool renaming false_eq_true→YT,not_true→WX,true_eq_false→Qf,and_true→YC1
open Option renaming getD_some→YU,getD_none→Ww
set_option linter.unusedVariables false
set_option linter.unusedSimpArgs false
set_option linter.unusedSectionVars false
set_option maxHeartbeats 8000000
open Nat renaming reduceLT→ZE
section
namespace Go.Ev
structure Lt(A:AD)(ss:List (List UInt8)):Prop where at_:∀i(h:i<ss.length),A.read (145+i)=tx ss[i]
section
variable{cp:RC->au}{t:Nat->Option dr}{fuel:Nat}{H:Heap}{O:Nat->Prop}{pk:List UInt8->List (List UInt8)}{unpk:List (List UInt8)->Option (List UInt8)}
theorem J2(T:aB t)(hc:aP t)(hu:t 85=some (.nat (eh unpk))){dp:Nat}{A:AD}{ss:List (List UInt8)}{tt:List UInt8}(hD:cN H dp A O)(ho:A.off=false)(hA:193<=A.len)(hA2:A.len<=1024)(hn:ss.length<=48)(h0:ss≠[])(h32:∀s∈ss,s.length=32)(hT:Lt A ss)(hs:∀k,k<ss.length->unpk (ss.take k)=none)(hb:unpk ss=some tt)(hfu:1000<fuel):∃H',(∀(d:Nat)(k:K),aj (aT cp t fuel (d+4)) (.func 82 []) [.ptr dp 0] H k=k (.cG [tv tt,.int 3 0]) H')/\ah H H':=by
 have hl0:=Wb.2 h0;have n48:=n_ 48;have rd:∀(i)(v)(G),i<ss.length->ah H G->Gr H G v 1 i ((ss.take i).map tv)->∃v' G',ah H G'/\Gr H G' v' 1 (i+1) ((ss.take (i+1)).map tv)/\∀(d)(kx)(kn)(e)(x),af s000 e=.ptr dp 0->af s004 e=v->(unpk (ss.take (i+1))=none->∀e',af s000 e'=.ptr dp 0->af s004 e'=v'->kn e' G'=x)->(unpk (ss.take (i+1))=some tt->∀e',af s002 e'=tv tt->af s003 e'=.int 3 0->kx 0 e' G'=x)->(unpk (ss.take (i+1))=none\/unpk (ss.take (i+1))=some tt)->gG Kj fuel (aT cp t fuel (d+3)) e G kn kx=x:=by
  intro i v G hil f g;have hrd:=hT.at_ i hil;have h32i:=h32 _ (YP hil);have htk:ss.take (i+1)=ss.take i++[ss[i]]:=by rw[Qj,YA hil];rfl
  obtain⟨G1,z1,f1⟩:=pD (cp:=cp) (fuel:=fuel) (a:=145+i) (T.jl hc) (hD.fresh f) ho (by omega);have z1:=λ{d}{k}=>z1 d k;rw[hrd,ZX]at z1;generalize ss[i]=s at htk z1 h32i;have w1:=f1.wf;obtain⟨G2,hG2,f2,p2,n2⟩:=Heap.aR w1 (.cells [tv s]);obtain⟨v',G3,hap,g3,f3,-,-⟩:=Gr.app (cx:=2) (sx:=0) (f.trans (f1.trans f2)) ((g.fresh f1).fresh f2) p2 rfl (λz hz=>by rw[YM.1 hz];rfl) (by omega);have hrow:(ss.take (i+1)).map tv=(ss.take i).map tv++[tv s]:=by rw[htk,Yz];rfl
  rw[<-hrow]at g3;have hsn:=λ{id}{f}=>g.sn (id:=id) (f:=f);refine⟨v',G3,f3,g3,λd kx kn e x q0 q4 hkn hkx hor=>?_⟩;have a1:=n_ i;have a2:=l_ i;have a3:i<48:=by omega
  have a4:=m_ (145+i);have i1:=λ{id}{k}=>aM g3.one (id:=id) (k:=k);have w3:=f3.wf;obtain⟨-,-,⟨-,g3'⟩|⟨b,c,sz,rfl,-,-,gb,-,-⟩⟩:=g3;.omega
  have hcl:∀{k},aj (aT cp t fuel (d+3)) (.func 170 []) [.slice b 0 (i+1) c sz] G3 k=k (Ok (unpk (ss.take (i+1)))) G3:=λ{k}=>by rw[oE hu rfl rfl,YV,uB gb (by rw[Yv];omega) (by omega) (λx hx=>by rw[h32 x (WI hx)];omega)]
  simp only[tv]at z1 hG2;rcases hor with hor|hor
  .rw[hor]at hcl;simp only[go_sem,Kj,q0,q4,↓hsn,a1,a2,a3,a4,n48,↓z1,w1,hG2,↓hap,↓hcl];refine hkn hor _ ?_ ?_;.exact q0
   .rfl
  .rw[hor]at hcl;simp only[go_sem,Kj,q0,q4,↓hsn,a1,a2,a3,a4,n48,↓z1,w1,hG2,↓hap,↓hcl];refine hkx hor _ ?_ ?_;.simp only[go_sem,tv]
   .rfl
 obtain⟨n,hn'⟩:∃n,ss.length=n+1:=⟨ss.length-1,by omega⟩;obtain⟨v1,G1,⟨f1,g1⟩,z1⟩:=bG (n:=n) (I:=λi v G=>ah H G/\Gr H G v 1 i ((ss.take i).map tv)) (S:=λi v e=>af s000 e=.ptr dp 0/\af s004 e=v) (λi v G hin⟨f,g⟩=>by obtain⟨v',G',f',g',z⟩:=rd i v G (by omega) f g;refine⟨v',G',⟨f',g'⟩,λd kx r e x⟨q0,q4⟩hk=>?_⟩;rw[ak];have hno:=hs (i+1) (by omega);exact z d kx _ e x q0 q4 (λ_ e' q0 q4=>hk e' ⟨q0,q4⟩) (λh=>by rw[hno]at h;cases h) (YH hno)) n 0 .aC H (by omega) ⟨ah.refl hD.wf,Gr.aC⟩;obtain⟨v2,G2,f2,g2,z2⟩:=rd n v1 G1 (by omega) f1 g1;have hfull:unpk (ss.take (n+1))=some tt:=by rw[Yi (by omega)];exact hb
 refine⟨G2,λd k=>?_,f2⟩;rw[aI T.k41 rfl rfl];simp only[go_sem,c41,Zf,Zg];refine z1 d _ fuel _ _ (by omega) ⟨?_,?_⟩ λr e'⟨q0,q4⟩=>?_;.rfl
 .rfl
 rw[ak];refine z2 d _ _ e' _ q0 q4 (λh=>by rw[hfull]at h;cases h) (λ_ e'' q2 q3=>?_) (YE hfull);simp only[go_sem,q2,q3]
set_option maxRecDepth 4000in theorem yE(T:aB t)(hc:aP t)(F:bC pk unpk)(hu:t 85=some (.nat (eh unpk))){dp a n:Nat}{A:AD}{us:List Wr}{m:MT}(hD:cN H dp A O)(C:qM A pk a n us)(h0:(A.recover n us).2=0)(ho:(A.recover n us).1.off=false)(hA:193<=(A.recover n us).1.len)(hA2:(A.recover n us).1.len<=1024)(Y:fX m m.live.length (A.recover n us).1.len)(Z:jH m)(hT:Lt (A.recover n us).1 (pk (bq (mW m))))(hfu:1000000<fuel):∃H' O' vp vl vs vi,(∀(d:Nat)(k:K),aj (aT cp t fuel (d+9)) (.func 22 []) [.ptr dp 0] H k=k (.cG [.ptr vp 0,.int 3 0]) H')/\Step H O H' O'/\cN H' dp (A.recover n us).1 O'/\H'.get vp=.cells (vc m vl vs vi dp false)/\vp<H'.n/\¬O' vp/\H.n<=vp/\jO H' (bz O' vp) m vl vs vi/\∀X:Nat->Prop,(∀b,X b->b<H.n)->jO H' (λb=>X b\/bz O' vp b) m vl vs vi:=by
 obtain⟨G1,O1,z1,s1,D1⟩:=Cx (cp:=cp) (fuel:=fuel) T hc F hu hD C (by omega);rw[h0]at z1;have z1:=λ{d}{k}=>z1 (d+1) k;generalize hB:(A.recover n us).1=B at ho hA hA2 Y hT D1⊢;have htl:=Y.text hA2;have hsz:=F.size (bq (mW m)) (by omega);obtain⟨G2,z2,f2⟩:=J2 (cp:=cp) (fuel:=fuel) T hc hu D1 ho hA hA2 (by omega) (F.pos _ (by omega)) (F.len _ (by omega)) hT (λk hk=>F.short _ k (by omega) hk) (F.back _ (by omega)) (by omega);have z2:=λ{d}{k}=>z2 (d+4) k;have D2:=D1.fresh f2;obtain⟨G3,vl,vs,vi,z3,f3,hM⟩:=Ei (cp:=cp) (fuel:=fuel) T f2.wf (Y.mono hA2) Z (by omega);have z3:=λ{d}{k}=>z3 d k;have M3:=hM O1 (λb hb=>D2.lt b hb);have M3a:=hM (λb=>b<G2.n) (λb hb=>hb);have w3:=f3.wf;have D3:=D2.fresh f3;obtain⟨G4,hG4,f4,p4,n4⟩:=Heap.aR w3 (.cells [.aC,.aC,.int 7 0,.int 7 0,.int 7 0,.int 7 0,.int 3 0,.int 3 0,.aC]);have b4:G3.n<G4.n:=by omega
 have w4:=f4.wf;obtain⟨G5,hG5,f5,p5,n5,w5,k5⟩:=Heap.aZ f4 (YC _) b4 (.cells (aS m vl vs vi));have D5:=D3.fresh f5;have M5:=M3.fresh f5;have wm5:G5.mark.wf:=by exact w5
 obtain⟨G6x,G6,z6,hu6,hl6,f6⟩:=qx ⟨G5.mark,λd k=>sm (cp:=cp) (fuel:=fuel) (T.jl hc) (D5.fresh (ah.Fp w5)),ah.refl wm5⟩;have z6:=λ{d}{k}=>z6 (d+7) k;have w6:=f6.wf;have M6:=M5.fresh f6;obtain⟨G7,z7,f7⟩:=uA (cp:=cp) (fuel:=fuel) (blocks:=m.live.length) (n:=B.len) T w6 M6 Z (by have:=Z.live.1;unfold nn;omega) (by unfold nn;omega) (by omega);have z7:=λ{d}{k}=>z7 (d+3) k;rw[KY.2 Y]at z7;have w7:=f7.wf;have M7:=M6.fresh f7;have f57:=f6.trans f7;have p7:=(f57.same _ (by omega)).trans p5;obtain⟨G8,hG8,f8,p8,n8⟩:=Heap.aR w7 (.cells (vc m vl vs vi dp false));have D8:=(D5.fresh f57).fresh f8;have hlt:=D1.lt;have f18:=f2.trans (f3.trans (f5.trans (f57.trans f8)));have m2:=f2.n;have m3:=f3.n;have m57:=f57.n;have sl:=λ{id}{f}=>M3.live.sn (id:=id) (f:=f);have ll:m.live.length<9223372036854775808:=by have:=Z.live.1;omega
 have j1:=λ{id}{k}=>aM M3.live.one (id:=id) (k:=k);have j2:=λ{id}{k}=>aM (let⟨_,h,_⟩:=M3.ae;h.one) (id:=id) (k:=k);have j3:=λ{id}{k}=>aM M3.bP.one (id:=id) (k:=k);refine⟨G8,O1,G7.n,vl,vs,vi,λd k=>?_,s1.trans f18.step,D8,p8,by omega,λh=>by have:=hlt _ h;omega,by have:=s1.n;omega,(M7.mK λb hb h=>h.elim id λe=>by omega).fresh f8,λX hX=>(((M3a.fresh f5).fresh f57).mK λb hb h=>by
  have hs1:=s1.n;rcases h with h|h|h;.have:=hX b h;omega
  .exact D2.lt b h
  .omega).fresh f8⟩;simp only[aS,bu,tv]at z2 z3 hG5 p5 p7 z7;simp only[vc,aS,bu,YK,YJ]at hG8;rw[aI T.k11 rfl rfl];simp only[go_sem,c11,XN,XO,XP,XQ,↓z1,↓z2];simp only[go_sem,XR,↓z3,w3,hG4,p4,b4,w4,↓j1,↓j2,↓j3,hG5];simp only[go_sem,XS,p5,↓sl,ll,↓z6,hu6,hl6,↓z7];simp only[go_sem,XT,XU,p7,w7,↓j1,↓j2,↓j3,hG8]
end
def ET(ss:List (List UInt8)):Nat->List Wr|0=>[]|i+1=>ET ss i++[(145+i,tx (ss.getD i []))]
theorem vJ(ss):∀i,(ET ss i).length=i|0=>rfl|i+1=>by simp only[ET,YB,vJ ss i];rfl
theorem BU{ss}:∀{i}{w},w∈ET ss i->∃j,j<i/\w=(145+j,tx (ss.getD j []))
 |0,w,h=>by cases h|i+1,w,h=>by
  rcases Yo.1 h with h|h;.obtain⟨j,hj,e⟩:=BU h;exact⟨j,by omega,e⟩
  .exact⟨i,by omega,YM.1 h⟩
theorem Sr{ss}:∀{i j},j<i->((145+j,tx (ss.getD j [])):Wr)∈ET ss i
 |0,j,h=>by omega|i+1,j,h=>by
  simp only[ET];by_cases hj:j=i;.simp_all
  .exact QK _ (Sr (by omega))
theorem tI{ss}:∀i,((ET ss i).map (·.1)).Nodup|0=>QP|i+1=>by simp only[ET,Yz];refine QW.2 ⟨tI i,by simp,λx hx y hy=>?_⟩;obtain⟨w,hw,rfl⟩:=Ye.1 hx;obtain⟨j,hj,rfl⟩:=BU hw;rw[YM.1 (by simp_all:y∈[145+i])];omega
def mz(b:Nat):MT:=⟨YZ b 0,[],nY⟩
theorem xO(b):(mz b).live.length=b:=WT
theorem VE(b):nz (YZ b 0)=[]:=by unfold nz;simp
theorem SE{b n}(h1:1<=b)(h2:b<=8):fX (mz b) b n:=⟨⟨h1,h2,xO b,λp hp=>YH (YD3.1 hp).2,by show(nz (YZ b 0)).Nodup;rw[VE];simp⟩,Ya _,trivial,by exact⟨rfl,rfl,rfl,rfl⟩⟩
theorem SF{b}(h2:b<=8):jH (mz b):=⟨⟨by rw[xO];omega,λp hp=>by rw[(YD3.1 hp).2];unfold nn;omega⟩,by show 0<1000;omega,λs hs=>(by cases hs),jK⟩
section
variable{cp:RC->au}{t:Nat->Option dr}{fuel:Nat}{H:Heap}{O:Nat->Prop}{pk:List UInt8->List (List UInt8)}{unpk:List (List UInt8)->Option (List UInt8)}
theorem Nd(T:aB t){vS:V}{dp:Nat}{ss:List (List UInt8)}(hw:H.wf)(hS:Row H O vS 1 ss.length (ss.map tv))(hn:ss.length<1000)(hfu:1000<fuel):∃G' v',ah H G'/\Gr H G' v' 2 ss.length (bK (ET ss ss.length))/\∀(d:Nat)(kx:Nat->KE)(e:Env)(x:R),af s000 e=.ptr dp 0->af s010 e=.aC->af s051 e=vS->af s052 e=.int 3 ss.length->af s053 e=.int 3 0->(∀e',af s000 e'=.ptr dp 0->af s010 e'=v'->kx 2 e' G'=x)->kf DF fuel (aT cp t fuel d) kx fuel e H=x:=by
 have nl:=n_ ss.length;obtain⟨v',G',⟨f',g'⟩,z⟩:=bG (c:=DF) (I:=λi v G=>ah H G/\Gr H G v 2 i (bK (ET ss i))) (S:=λi v e=>af s000 e=.ptr dp 0/\af s010 e=v/\af s051 e=vS/\af s052 e=.int 3 ss.length/\af s053 e=.int 3 i) (λi v G hil⟨f,g⟩=>by
   obtain⟨b,o,c,z,rfl,hbn,-,hrd⟩:=Row.open hS hil;have hrd:=λ{id}{k}=>(hrd (f.same _ hbn)).2 (x:=tv ss[i]) (by simp[hil]) (id:=id) (k:=k);rw[Nat.mul_one]at hrd;have hst:ET ss (i+1)=ET ss i++[(145+i,tx ss[i])]:=by simp only[ET,YD,YA hil,YU]
   generalize ss[i]=s at hrd hst;simp only[tv]at hrd;have w0:=f.wf;obtain⟨G1,hG1,f1,p1,n1⟩:=Heap.aR w0 (.cells [.int 3 (145+i),.str s.length (enc s)]);obtain⟨v',G2,hap,g2,f2,-,-⟩:=Gr.app (cx:=2) (sx:=0) (f.trans f1) (g.fresh f1) p1 rfl (λz hz=>by rcases YS.1 hz with rfl|hz;rfl;rw[YM.1 hz];rfl) (by omega);have a1:=n_ i;have a2:=l_ i;have a3:=m_ (i+1);have a4:=m_ (145+i);refine⟨v',G2,⟨f2,by rw[hst,dP];exact g2⟩,λd kx r e x⟨q0,q10,q51,q52,q53⟩hk=>?_⟩;rw[ak];simp only[go_sem,DF,q10,q51,q52,q53,hil,nl,a1,a2,a3,a4,↓hrd,w0,hG1,↓hap];refine hk _ ?_;simp only[go_sem,q0,q51,q52,and_self]) ss.length 0 .aC H (by omega) ⟨ah.refl hw,Gr.aC⟩;refine⟨G',v',f',g',λd kx e x q0 q10 q51 q52 q53 hk=>z d kx fuel e x (by omega) ⟨q0,q10,q51,q52,q53⟩ λr e'⟨q0,q10,q51,q52,q53⟩=>?_⟩;have e6:¬ss.length<ss.length:=by omega
 rw[ak];simp only[go_sem,DF,q52,q53,nl,e6];exact hk _ q0 q10
set_option maxRecDepth 4000in theorem CW(T:aB t)(hc:aP t)(F:bC pk unpk)(hp:t 110=some (.nat (dC pk))){H0:Heap}{dp b n r:Nat}(h1:193<=n)(h2:n<=1024)(hr:n<=r)(b1:1<=b)(b2:b<=8)(fr:ah H0 H)(hD:cN H dp ⟨n,r,0,false,[],[]⟩ O)(own:∀b,O b->H0.n<=b)(hfu:1000000<fuel):∃H' A' O',(∀(d:Nat)(k:K),aj (aT cp t fuel (d+8)) (.func 40 []) [.ptr dp 0,.int 3 b] H k=k (.int 3 0) H')/\ah H0 H'/\cN H' dp A' O'/\(∀b,O' b->H0.n<=b)/\(∃a n us,JD pk A' a n us)/\A'.aX=0/\A'.len=n/\A'.room=r/\Lt A' (pk (bq (mW (mz b)))):=by
 generalize hF0:(⟨n,r,0,false,[],[]⟩:AD)=F0 at hD;have e0:F0.len=n:=by rw[<-hF0]
 have e1:F0.off=false:=by rw[<-hF0]
 have e2:F0.aX=0:=by rw[<-hF0]
 have e3:F0.es=[]:=by rw[<-hF0]
 have e4:F0.us=[]:=by rw[<-hF0]
 have e5:F0.room=r:=by rw[<-hF0]
 obtain⟨G1,O1,z1,s1,D1⟩:=ED (cp:=cp) (fuel:=fuel) T hc hD e1 (by omega) (by omega) (by rw[e3];decide) (by rw[e4];decide) (YE (by rw[e3,e5];show 0<r;omega)) (by omega);obtain⟨J,j2,j3,j4⟩:=JD.start (pk:=pk) (by omega) (by omega) e1 (by rw[e3];exact nP.nil) e2;rw[j3]at z1;obtain⟨q1,q2,q3,q4⟩:=j4;generalize(F0.runs [[(0,tx (fQ 0 0))]]).1=B at D1 J j2 q1 q2 q3 q4;have hl:=q1.trans e0;have hrr:=q2.trans e5;obtain⟨fr1,own1⟩:=fr.own s1 own;have w1:=fr1.wf;have z1:=λ{d}{k}=>z1 d k;obtain⟨G2,f2,o2,-,n2,z2⟩:=tM (x:=.int 3 0) (n:=b) rfl w1 rfl (by omega) (YC _) (a:=.s s040);have M2:jO G2 (λ_=>False) (mz b) (.slice G1.n 0 b (b+1) 0) .aC .aC:=⟨by have:=o2.toRow (O:=λ_=>False) (λb h=>h.elim);unfold cF;rw[xO];show Row G2 _ _ 1 b ((YZ b 0).map (V.int 3));rw[Wc];exact this,⟨[],⟨rfl,λx hx=>(by cases hx),YH ⟨YH rfl,rfl⟩⟩,rfl,λi s h=>(by cases i<;>cases h)⟩,⟨rfl,λx hx=>(by cases hx),YH ⟨YH rfl,rfl⟩⟩⟩;have hYok:fX (mz b) (mz b).live.length 1024:=by rw[xO];exact SE b1 b2
 have henc:=hYok.enc;have htl:=hYok.text (YC _);obtain⟨G3,vS,z3,f3,hv1,hS⟩:=yu (cp:=cp) (fuel:=fuel) T F hp f2.wf M2 (SF b2) (by omega);rw[henc]at z3 hS;have hS:=hS rfl;simp only at hS;have z3:=λ{d}{k}=>z3 d k;have hsz:=F.size (bq (mW (mz b))) (by omega);have h32:=F.len (bq (mW (mz b))) (by omega);have hpos:=F.pos (bq (mW (mz b))) (by omega);generalize pk (bq (mW (mz b)))=ss at hS hsz h32 hpos⊢;have hss:=by omega
 obtain⟨G4,vw,f4,g4,z4⟩:=Nd (fuel:=fuel) (dp:=dp) T f3.wf (hS.toRow (O:=λ_=>False) (λb h=>h.elim)) (by omega) (by omega);have f24:=f2.trans (f3.trans f4);have hmem:∀w∈ET ss ss.length,145<=w.1/\w.1<n/\w.2.1=32/\sO w.2:=λw hw=>by obtain⟨j,hj,rfl⟩:=BU hw;have:(ss.getD j []).length=32:=h32 _ (by rw[YD,YA hj];exact YP _);exact⟨by show 145<=145+j;omega,by show 145+j<n;omega,this,iM _⟩
 have hwsAt:mN G4 vw (ET ss ss.length) O1:=by
  obtain⟨p1,p2,⟨p3,p4⟩|⟨b,c,s,p3,p4,p5,p6,p7,p8⟩⟩:=g4;.exact absurd (YX p4) hpos
  .exact YE ⟨b,c,s,by rw[vJ];exact p3,p6,p8,λhb=>by have:=D1.lt b hb;have:=f2.n;have:=f3.n;omega⟩
 have D4:=D1.fresh f24;obtain⟨G5,O5,z5,s5,D5⟩:=uk (cp:=cp) (fuel:=fuel) T hc F hp D4 J.FU.can hwsAt (λw hw=>⟨by have:=(hmem w hw).2.1;omega,by rw[(hmem w hw).2.2.1];omega,(hmem w hw).2.2.2⟩) (by rw[vJ];omega) (by omega);have z5:=λ{d}{k}=>z5 d k;have hok:=λw hw=>(hmem w hw).2.2.2;have hcode:=J.code F j2 (by omega) hok;have hdid:=J.ep F j2 hok;have hmay:iu B.len [] (ET ss ss.length)=true:=Ca (λw hw=>⟨⟨(hmem w hw).1,by rw[hl];exact(hmem w hw).2.1,(hmem w hw).2.2.1⟩,λh=>(by cases h)⟩) (tI _);have h0:(B.ep pk 0 (ET ss ss.length)).2=0:=by rw[hcode];unfold Ev.code;rw[vJ,hmay];have:=Wb.2 hpos;rw[if_neg (by omega),if_neg (by omega),if_neg (by simp)]
 rw[h0]at z5;obtain⟨fr5,own5⟩:=(fr1.trans f24).own s5 own1;refine⟨G5,_,O5,λd k=>?_,fr5,D5,own5,hdid.jd,hdid.aX,hdid.len.trans hl,hdid.room.trans hrr,⟨λi hi=>?_⟩⟩
 .have hL:∀{d}{k},aj (aT cp t fuel (d+1)) (.func 88 []) [.ptr dp 0] H k=k (.int 3 n) H:=λ{d k}=>by rw[sm (T.jl hc) hD,e0]
  have c1:=n_ n;have c2:=n_ b;have c3:=n_ 193;have c4:=n_ 1;have c5:=n_ 8;have c6:¬n<193:=by omega
  have c7:¬b<1:=by omega
  have c8:¬8<b:=by omega
  have ssn:=λ{id}{f}=>hS.sn (id:=id) (f:=f);have c9:=l_ ss.length;simp only[aS,bu,mz,nY]at z3;rw[aI T.k20 rfl rfl];simp only[go_sem,c20,Y4,↓hL,c1,c2,c3,c4,c5,c6,c7,c8];simp only[go_sem,Y5,Y6,↓z1,↓z2,↓z3];simp only[go_sem,Y7,Y8,Y9,↓ssn,c9];refine z4 (d+7) _ _ _ ?_ ?_ ?_ ?_ ?_ λe' q0 q10=>?_;.rfl
  .rfl
  .rfl
  .rfl
  .rfl
  simp only[go_sem,Zc,Zd,q0,q10,↓z5]
 .have hy:=(hdid.yes h0).1 (145+i) (by omega);have hin:=Sr (ss:=ss) hi;have:=fj (es:=B.es) (tI ss.length) hin;rw[AD.read,hy,this,YD,YA hi];rfl
end
structure Cn where
 iC:List Tx
 g:Gd
 hid:Bool
structure CH where
 live:List Tx
 size:Nat
 ae:List Cn
def zT(n:Nat):List Tx:=YZ n (32,0)++YZ (8-n) (0,0)
theorem lT{n}(h:n<=8):(zT n).length=8:=by unfold zT;simp_all
def db(c:Cn):List V:=c.iC.map sv++[.int 7 c.g.1,.int 7 c.g.2,.bool c.hid]
def dO(l:List Cn):List V:=l.flatMap db
structure Df(c:CH):Prop where
 l8:c.live.length=8s1:1<=c.size
 s8:c.size<=8n:c.ae.length<1000v8:∀s∈c.ae,s.iC.length=8g:∀s∈c.ae,jN s.g
theorem gj{α:Type}{l:List α}(h:l.length=8):∃x0 x1 x2 x3 x4 x5 x6 x7,l=[x0,x1,x2,x3,x4,x5,x6,x7]:=by rcases l with _|⟨x0,_|⟨x1,_|⟨x2,_|⟨x3,_|⟨x4,_|⟨x5,_|⟨x6,_|⟨x7,_|⟨x8,l⟩⟩⟩⟩⟩⟩⟩⟩⟩<;>simp at h;simp
theorem iJ{c}(h:c.iC.length=8):(db c).length=11:=by unfold db;simp_all
theorem tB:∀{l},(∀s∈l,s.iC.length=8)->(dO l).length=l.length*11|[],_=>rfl|s::l,h=>by show(db s++dO l).length=_;rw[YB,tB λt ht=>h t (YI _ ht),iJ (h s (YL ..)),YG];omega
theorem oQ:∀{l}{i}{s},(∀s∈l,s.iC.length=8)->l[i]?=some s->((dO l).drop (i*11)).take 11=db s|[],i,s,_,h=>by simp_all|a::l,0,s,h8,h=>by simp at h;subst h;show((db a++dO l).drop (0*11)).take 11=_;rw[QF,Wo,Qv (iJ (h8 _ (YL ..)))]|a::l,i+1,s,h8,h=>by have:=oQ (λt ht=>h8 t (YI _ ht)) (by simpa using h);show((db a++dO l).drop ((i+1)*11)).take 11=_;rw[show(i+1)*11=(db a).length+i*11by rw[iJ (h8 _ (YL ..))];omega,<-Qd,List.drop_left' rfl];omega
theorem ML(a b):dO (a++b)=dO a++dO b:=List.flatMap_append
theorem MK(c):∀y∈db c,y.one=true:=λy hy=>by
 rcases Yo.1 hy with hy|hy;.obtain⟨x,_,rfl⟩:=Ye.1 hy;rfl
 .rcases YS.1 hy with rfl|hy;.rfl
  .rcases YS.1 hy with rfl|hy;.rfl
   .rw[YM.1 hy];rfl
def hZ:Heap:=.mk 0 0 .e
def nX(c:CH)(v:V):List V:=c.live.map sv++[.int 3 c.size,v]
structure iZ(H:Heap)(cp:Nat)(c:CH)(v:V):Prop where
 wf:H.wf
 get:H.get cp=.cells (nX c v)cn:cp<H.n
 own:Own hZ H v 11 c.ae.length (dO c.ae)off:iw v cp
 ok:Df c
def CB(v:V)(b:Nat):Prop:=∃o n c s,v=.slice b o n c s
def CQ(cp:Nat)(v:V)(b:Nat):Prop:=b=cp\/CB v b
theorem Own.cb{H G:Heap}{v:V}{sz n b:Nat}{row:List V}(h:Own H G v sz n row)(hb:CB v b):H.n<=b/\b<G.n:=by obtain⟨o,n',c,s,e⟩:=hb;exact h.cV e
theorem iZ.lt{H:Heap}{cp:Nat}{c:CH}{v:V}(h:iZ H cp c v):∀b,CQ cp v b->b<H.n:=λb hb=>hb.elim (λe=>by rw[e];exact h.cn) λe=>(h.own.cb e).2
theorem iZ.cm{H H':Heap}{cp:Nat}{c:CH}{v:V}{P P':Nat->Prop}(h:iZ H cp c v)(s:Step H P H' P')(hd:∀b,CQ cp v b->¬P b):iZ H' cp c v/\∀b,CQ cp v b->¬P' b:=by
 refine⟨⟨s.wf,(s.same _ h.cn (hd _ (YH rfl))).1.trans h.get,YF h.cn s.n,?_,h.off,h.ok⟩,λb hb=>(s.same _ (h.lt b hb) (hd b hb)).2⟩;obtain⟨h1,h2,h3|⟨b,c,z,r,g1,g2,g3,g4,g5⟩⟩:=h.own;.exact⟨h1,h2,YH h3⟩
 .exact⟨h1,h2,YE ⟨b,c,z,r,g1,(s.same b g5 (hd b (YE ⟨_,_,_,_,g1⟩))).1.trans g2,g3,g4,YF g5 s.n⟩⟩
theorem iZ.fresh{H H':Heap}{cp:Nat}{c:CH}{v:V}(h:iZ H cp c v)(f:ah H H'):iZ H' cp c v:=(h.cm (f.step (O:=λ_=>False)) λ_ _ h=>h).1
theorem iZ.row{H:Heap}{cp:Nat}{c:CH}{v:V}(h:iZ H cp c v):Row H (λ_=>False) v 11 c.ae.length (dO c.ae):=h.own.toRow λb h=>h.elim
section
variable{cp:RC->au}{t:Nat->Option dr}{fuel:Nat}{H:Heap}
theorem J8(T:aB t){n B:Nat}{G0:Heap}{b0:V}(f0:ah H G0)(hn:n<=8)(hB:H.n<=B)(hBn:B<G0.n)(gB:G0.get B=.cells ((zT 0).map sv))(hfu:1000<fuel):∃G',ah H G'/\G'.get B=.cells ((zT n).map sv)/\(∀j,j<G0.n->j≠B->G'.get j=G0.get j)/\G0.n<=G'.n/\∀(d:Nat)(kx:Nat->KE)(e:Env)(x:R),af s002 e=b0->af s003 e=.ptr B 0->af s005 e=.int 3 n->af s006 e=.int 3 0->(∀e',af s002 e'=b0->af s003 e'=.ptr B 0->kx 1 e' G'=x)->kf DG fuel (aT cp t fuel d) kx fuel e G0=x:=by
 have nl:=n_ n;obtain⟨_,G',⟨f',g',k',n'⟩,z⟩:=bG (c:=DG) (fuel:=fuel) (n:=n) (I:=λi _ G=>ah H G/\G.get B=.cells ((zT i).map sv)/\(∀j,j<G0.n->j≠B->G.get j=G0.get j)/\G0.n<=G.n) (S:=λi _ e=>af s002 e=b0/\af s003 e=.ptr B 0/\af s005 e=.int 3 n/\af s006 e=.int 3 i) (λi _ G hil⟨f,g,k,hn'⟩=>by
   have w0:=f.wf;have hset:((zT i).map sv).set i (.str 32 0)=(zT (i+1)).map sv:=by unfold zT;rw[show(8-i)=(8-(i+1))+1by omega];rw[Yz,Yz,Wc,Wc,Wc,Wc,Qx _ _ (by simp),WT,QG,List.replicate_succ,List.set_cons_zero,YM4,WB];rfl
   have hlen:((zT i).map sv).length=8:=by rw[Yj,lT (by omega)]
   generalize(zT i).map sv=X at g hset hlen;obtain⟨G1,hG1,f1,p1,n1⟩:=Heap.aR w0 (.bytes 32 0);have w1:=f1.wf;have g1:=(f1.same _ (by omega)).trans g;have b1:B<G1.n:=by omega
   obtain⟨G2,hG2,f2,p2,n2,w2,k2⟩:=Heap.aZ (f.trans f1) hB b1 (.cells (X.set i (.str 32 0)));have a1:=n_ i;have a2:=l_ i;have a3:=m_ (i+1);have a4:i<X.length:=by omega
   have a5:i<8:=by omega
   refine⟨(),G2,⟨f2,by rw[<-hset];exact p2,λj hj hne=>by rw[k2 _ hne,f1.same _ (by omega)];exact k j hj hne,by omega⟩,λd kx r e x⟨q2,q3,q5,q6⟩hk=>?_⟩;rw[ak];simp only[go_sem,DG,q3,q5,q6,hil,nl,a1,a2,a3,a4,a5,w0,hG1,p1,g1,w1,b1,hG2];exact hk _ (by simp only[go_sem,q2,q3,q5,and_self])) n 0 () G0 (by omega) ⟨f0,gB,λ_ _ _=>rfl,YC _⟩;refine⟨G',f',g',k',n',λd kx e x q2 q3 q5 q6 hk=>z d kx fuel e x (by omega) ⟨q2,q3,q5,q6⟩ λr e'⟨q2,q3,q5,q6⟩=>?_⟩;have e6:¬n<n:=by omega
 rw[ak];simp only[go_sem,DG,q5,q6,nl,e6];exact hk _ q2 q3
theorem rG(T:aB t){n}(hw:H.wf)(hn:n<=8)(hfu:1000<fuel):∃H',(∀(d)(k),aj (aT cp t fuel (d+1)) (.func 68 []) [.int 3 n] H k=k (.agg ((zT n).map sv)) H')/\ah H H':=by
 obtain⟨G1,hG1,f1,p1,n1⟩:=Heap.aR hw (.cells [.str 0 0,.str 0 0,.str 0 0,.str 0 0,.str 0 0,.str 0 0,.str 0 0,.str 0 0]);have w1:=f1.wf;obtain⟨G2,hG2,f2,p2,n2⟩:=Heap.aR w1 (.cells [.str 0 0,.str 0 0,.str 0 0,.str 0 0,.str 0 0,.str 0 0,.str 0 0,.str 0 0]);have f12:=f1.trans f2;obtain⟨G3,f3,g3,k3,n3,z3⟩:=J8 (b0:=.ptr H.n 0) T f12 hn (by omega) (by omega) p2 hfu;have q3:G3.get H.n=.cells [.str 0 0,.str 0 0,.str 0 0,.str 0 0,.str 0 0,.str 0 0,.str 0 0,.str 0 0]:=by rw[k3 _ (by omega) (by omega),f2.same _ (by omega)];omega
 have hlen:((zT n).map sv).length=8:=by rw[Yj,lT hn]
 have hone:∀y∈(zT n).map sv,y.one=true:=λy hy=>by obtain⟨x,_,rfl⟩:=Ye.1 hy;rfl
 generalize(zT n).map sv=X at g3 hlen hone⊢;have b3:H.n<G3.n:=by omega
 have w3:=f3.wf;obtain⟨G4,hG4,f4,p4,n4,w4,k4⟩:=Heap.aZ f3 (YC _) b3 (.cells X);refine⟨G4,λd k=>?_,f4⟩;obtain⟨x0,x1,x2,x3,x4,x5,x6,x7,rfl⟩:=gj hlen;have i0:=λ{id}{k}=>aM (hone x0 (by simp)) (id:=id) (k:=k);have i1:=λ{id}{k}=>aM (hone x1 (by simp)) (id:=id) (k:=k);have i2:=λ{id}{k}=>aM (hone x2 (by simp)) (id:=id) (k:=k);have i3:=λ{id}{k}=>aM (hone x3 (by simp)) (id:=id) (k:=k);have i4:=λ{id}{k}=>aM (hone x4 (by simp)) (id:=id) (k:=k);have i5:=λ{id}{k}=>aM (hone x5 (by simp)) (id:=id) (k:=k);have i6:=λ{id}{k}=>aM (hone x6 (by simp)) (id:=id) (k:=k);have i7:=λ{id}{k}=>aM (hone x7 (by simp)) (id:=id) (k:=k);rw[aI T.k34 rfl rfl];simp only[go_sem,c34,hw,hG1,w1,hG2];refine z3 d _ _ _ ?_ ?_ ?_ ?_ λe' q2 q3'=>?_;.rfl
 .rfl
 .rfl
 .rfl
 simp only[go_sem,q2,q3',g3,q3,w3,b3,hG4,↓i0,↓i1,↓i2,↓i3,↓i4,↓i5,↓i6,↓i7,↓dR,p4]
theorem gq(T:aB t){c}{v}{p}(C:iZ H p c v)(d)(k):aj (aT cp t fuel (d+1)) (.func 130 []) [.ptr p 0] H k=k (.bool false) H:=by
 have g:=C.get;obtain⟨x0,x1,x2,x3,x4,x5,x6,x7,e⟩:=gj C.ok.l8;have h1:¬c.size=0:=by have:=C.ok.s1;omega
 simp only[nX,e,YN,YY,YK,YJ]at g;rw[aI T.k65 rfl rfl];simp only[go_sem,c65,g,h1]
theorem Aj(T:aB t){c}{v}{p b l x}(C:iZ H p c v)(hb:nn b)(hl:l<1000000)(d)(k):aj (aT cp t fuel (d+1)) (.func 122 []) [.ptr p 0,.int 3 b,.str l x] H k=k (.bool (decide (b<c.size)&&decide (l=32))) H:=by
 have g:=C.get;obtain⟨x0,x1,x2,x3,x4,x5,x6,x7,e⟩:=gj C.ok.l8;have h1:nn c.size:=by have:=C.ok.s8;unfold nn;omega
 have h2:=l_ l;simp only[nX,e,YN,YY,YK,YJ]at g;rw[aI T.k61 rfl rfl];by_cases c1:b<c.size<;>by_cases c2:l=32<;>simp only[go_sem,ZE,c61,g,h1,h2,hb,c1,c2,Ya,decide_true,decide_false,YC1,Bool.and_false]
end
theorem Own.adR{G:Heap}{v w x:V}{sz n m:Nat}{row new:List V}(hw:G.wf)(h:Own hZ G v sz n row)(hN:∀{id:Nat}{f:Nat->List V->R},cX id sz G x f=f m new)(hl:new.length=m*sz)(hone:∀v∈new,v.one=true)(hb:n+m<1000000):∃v' G',(∀{id:Nat}{ph:dg}{e:Env}{k:K}{a y:Arg},aA a e=v->aA y e=x->aQ (.app false sz a y) id ph e G k=k v' G')/\Own hZ G' v' sz (n+m) (row++new)/\G'.wf/\(∀j,j<G.n->iw v j->G'.get j=G.get j)/\G.n<=G'.n/\(∀j,j<G.n->iw v j->iw v' j)/\∀lo,lo<=G.bF->lo<=G.n->(∀b,CB v b->lo<=b)->lo<=G'.bF/\∀b,CB v' b->lo<=b:=by
 by_cases hm:m=0
 .subst hm;have hr:new=[]:=YX (by omega);subst hr;refine⟨v,G,λ{id ph e k a y}ha hx=>?_,by rw[YV];exact h,hw,λj _ _=>rfl,YC _,λj _ h=>h,λ_ h _ h'=>⟨h,h'⟩⟩;rw[da,ha,hx,hN];obtain⟨_,_,⟨rfl,_⟩|⟨b,c,s,r,rfl,_⟩⟩:=h;.rw[ek,if_pos rfl]
  .rw[cq,if_pos rfl]
 have hne:∀j,j<G.n->∀c s l,iw (.slice G.n 0 l c s) j:=λj hj c s l b o n c' s' he=>by cases he;omega
 have hcb:∀lo,lo<=G.n->∀c s l b,CB (.slice G.n 0 l c s) b->lo<=b:=λlo h c s l b⟨_,_,_,_,e⟩=>by cases e;exact h
 obtain⟨h1,h2,⟨rfl,rfl⟩|⟨b,c,s,rest,rfl,g2,g3,g5,g6⟩⟩:=h
 .have hr:row=[]:=YX (by omega);subst hr;refine⟨.slice G.n 0 m 0 sz,G.new (.cells new),λ{id ph e k a y}ha hx=>?_,⟨by simp[hl],by simpa using hone,YE ⟨G.n,0,sz,[],by rw[WH],?_,YE ⟨rfl,rfl,rfl⟩,Ya _,by rw[Heap.aO];omega⟩⟩,by rw[Heap.bd];exact hw,λj hj _=>?_,by rw[Heap.aO];omega,λj hj _=>hne j hj _ _ _,λlo a a2 _=>⟨by rw[Heap.nC];exact a,hcb lo a2 _ _ _⟩⟩;.rw[da,ha,hx,hN,ek,if_neg hm,bT hone,if_pos (by omega),cE hw]
  .rw[Heap.aF hw,if_pos rfl,YV];rfl
  .rw[Heap.aF hw,if_neg (by omega)]
 .have hlr:∀{id:Nat}{g:List V->R},eL id G b 0 (n*sz) g=g row:=λ{id g}=>by rw[pj,g2,fL,eV (Ya _),eF (by simp[h1])];rw[Wo,<-h1,Qv rfl]
  have hlen:(row++new).length=(n+m)*sz:=by rw[YB,h1,hl,We]
  have hon:∀v∈row++new,v.one=true:=λv hv=>(Yo.1 hv).elim (h2 v) (hone v);rcases g3 with rfl|⟨rfl,rfl,rfl⟩
  .refine⟨.slice G.n 0 (n+m) 0 sz,G.new (.cells (row++new)),λ{id ph e k a y}ha hx=>?_,⟨hlen,hon,YE ⟨G.n,0,sz,[],rfl,?_,YE ⟨rfl,rfl,rfl⟩,Ya _,by rw[Heap.aO];omega⟩⟩,by rw[Heap.bd];exact hw,λj hj _=>?_,by rw[Heap.aO];omega,λj hj _=>hne j hj _ _ _,λlo a a2 _=>⟨by rw[Heap.nC];exact a,hcb lo a2 _ _ _⟩⟩;.rw[da,ha,hx,hN,cq,if_neg hm,iE (by omega),bT hone,if_pos (by omega),hlr,bT h2,cE hw]
   .rw[Heap.aF hw,if_pos rfl,YV]
   .rw[Heap.aF hw,if_neg (by omega)]
  .rw[YV]at g2;have hw2:(G.put b .dead).wf:=by rw[Heap.bH];exact hw
   refine⟨.slice G.n 0 (n+m) 0 s,(G.put b .dead).new (.cells (row++new)),λ{id ph e k a y}ha hx=>?_,⟨hlen,hon,YE ⟨G.n,0,s,[],rfl,?_,YE ⟨rfl,rfl,rfl⟩,Ya _,by rw[Heap.aO,Heap.aV];omega⟩⟩,by rw[Heap.bd];exact hw2,λj hj ho=>?_,by rw[Heap.aO,Heap.aV];omega,λj hj _=>hne j hj _ _ _,λlo a a2 hcbv=>⟨?_,hcb lo a2 _ _ _⟩⟩;.rw[da,ha,hx,hN,cq,if_neg hm,l4,bT hone,if_pos (by omega),g2,fL,if_pos h1,eW hw g6,cE hw2,Heap.aV]
   .rw[Heap.aF hw2,if_pos (by rw[Heap.aV]),YV]
   .rw[Heap.aF hw2,if_neg (by rw[Heap.aV];omega),Heap.aG hw g6,if_neg (ho _ _ _ _ _ rfl)]
   .rw[Heap.nC];exact Heap.eS a (hcbv b ⟨_,_,_,_,rfl⟩)
def eX(c:CH):Cn:=c.ae.getLast?.getD ⟨zT c.size,(0,0),false⟩
theorem qa{c}{q}{s}(hs:c.ae[q]?=some s)(hq:c.ae.length=q+1):eX c=s:=by unfold eX;rw[List.getLast?_eq_getElem?,hq,Wn,hs];rfl
theorem qb{c}(h:c.ae.length=0):eX c=⟨zT c.size,(0,0),false⟩:=by unfold eX;simp_all
theorem xE{c}(h:Df c):(eX c).iC.length=8/\jN (eX c).g:=by
 rcases hn:c.ae.length with _|q;.rw[qb hn];exact⟨lT h.s8,by simp,by simp⟩
 .have hs:c.ae[q]?=some c.ae[q]:=YA (by omega);rw[qa hs hn];exact⟨h.v8 _ (YP _),h.g _ (YP _)⟩
def dH(c:CH)(g:Gd):Nat:=if dJ g (eX c).g=false then 2 else if 20<=c.ae.length then 3 else 0
theorem pZ{a b}:IK a b↔dJ a b=true:=by unfold IK dJ;simp
section
variable{cp:RC->au}{t:Nat->Option dr}{fuel:Nat}{H:Heap}
theorem iZ.el{c:CH}{v:V}{p i:Nat}(C:iZ H p c v)(hi:i<c.ae.length):∃b o z s,v=.slice b o c.ae.length z s/\b<H.n/\∀{G:Heap},G.get b=H.get b->∀{id:Nat}{k:List V->R},vh id (G.get b) (o+i*11) 11 k=k (db c.ae[i]):=by obtain⟨b,o,z,s,h1,h2,-,h4⟩:=C.row.open hi;refine⟨b,o,z,s,h1,h2,λ{G}hG{id k}=>?_⟩;rw[(h4 hG).1,oQ C.ok.v8 (YA hi)]
set_option maxRecDepth 4000in theorem qP(T:aB t){c}{v}{p}(C:iZ H p c v)(hfu:1000<fuel):∃H',(∀(d)(k),aj (aT cp t fuel (d+2)) (.func 120 []) [.ptr p 0] H k=k (.agg (db (eX c))) H')/\ah H H':=by
 have hn:=C.ok.n;obtain⟨x0,x1,x2,x3,x4,x5,x6,x7,e⟩:=gj C.ok.l8;obtain⟨G1,hG1,f1,p1,n1⟩:=Heap.aR C.wf (.cells [.str 0 0,.str 0 0,.str 0 0,.str 0 0,.str 0 0,.str 0 0,.str 0 0,.str 0 0,.int 7 0,.int 7 0,.bool false]);have w:=C.wf;have w1:=f1.wf;have C1:=C.fresh f1;have g:=C1.get;simp only[nX,e,YN,YY,YK,YJ,sv]at g;have sn:=λ{id}{f}=>C.own.sn (id:=id) (f:=f);have a1:=by omega
 have a2:=n_ c.ae.length;have a3:=n_ 0;have b1:H.n<G1.n:=by omega
 rcases hq:c.ae.length with _|q
 .rw[qb hq];obtain⟨G2,z2,f2⟩:=rG (cp:=cp) T w1 C.ok.s8 hfu;have z2:=λ{d}{k}=>z2 d k;have p2:=(f2.same _ b1).trans p1;have w2:=f2.wf;have b2:H.n<G2.n:=by have:=f2.n;omega
  obtain⟨y0,y1,y2,y3,y4,y5,y6,y7,ez⟩:=gj (lT C.ok.s8);rw[ez]at z2⊢;simp only[YN,YY,sv]at z2;obtain⟨G3,hG3,f3,p3,n3,w3,k3⟩:=Heap.aZ (f1.trans f2) (YC _) b2 (.cells (db ⟨[y0,y1,y2,y3,y4,y5,y6,y7],(0,0),false⟩));simp only[db,YN,YY,YK,YJ,sv]at hG3 p3⊢;have a4:=by omega
  rw[hq]at sn a1 a2;refine⟨G3,λd k=>?_,f3⟩;rw[aI T.k60 rfl rfl];simp only[go_sem,ZE,c60,w,hG1,g,a1,a2,a4,↓z2,p2,w2,b2,hG3,↓dR]
 .have hlt:q<c.ae.length:=by omega
  have hs:=YA hlt;obtain⟨b,o,z,s,hv,hbn,hrd⟩:=C.el hlt;have hrd:=λ{id}{k}=>hrd (f1.same _ hbn) (id:=id) (k:=k);rw[qa hs hq];have h8:=C.ok.v8 _ (YP hlt);generalize c.ae[q]=sn' at hrd h8;obtain⟨y0,y1,y2,y3,y4,y5,y6,y7,ey⟩:=gj h8;obtain⟨G3,hG3,f3,p3,n3,w3,k3⟩:=Heap.aZ f1 (YC _) b1 (.cells (db sn'));simp only[db,ey,YN,YY,YK,YJ,sv]at hG3 p3 hrd⊢;have a5:=n_ q;have a6:=l_ q;have a7:(q+1+18446744073709551615)%18446744073709551616=q:=by omega
  have a8:=l_ (q+1);have a9:0<q+1:=by omega
  have a10:q<q+1:=by omega
  have a11:=n_ (q+1);rw[hq]at sn hv;subst hv;refine⟨G3,λd k=>?_,f3⟩;rw[aI T.k60 rfl rfl];simp only[go_sem,c60,w,hG1,g,↓sn,a3,a6,a7,a8,a9,a10,a11,↓hrd,p1,w1,b1,hG3,↓dR,p3]
theorem wK(T:aB t){c:CH}{v:V}{p:Nat}{g:Gd}(C:iZ H p c v)(hg:jN g)(hfu:1000<fuel):∃H',(∀(d:Nat)(k:K),aj (aT cp t fuel (d+3)) (.func 118 []) [.ptr p 0,.agg (aY g)] H k=k (.int 3 (dH c g)) H')/\ah H H':=by
 have hn:=C.ok.n;obtain⟨l8,lg⟩:=xE C.ok;have w:=C.wf;obtain⟨G0,hG0,f0,p0,n0⟩:=Heap.aR w (.cells (aY g));have C0:=C.fresh f0;have z0:=λ{d}{k}=>gq (cp:=cp) (fuel:=fuel) T C0 d k;obtain⟨G1,z1,f1⟩:=qP (cp:=cp) T C0 hfu;have z1:=λ{d}{k}=>z1 d k;have w1:=f1.wf;obtain⟨G2,hG2,f2,p2,n2⟩:=Heap.aR w1 (.cells [.int 7 0,.int 7 0]);have b2:G1.n<G2.n:=by omega
 have w2:=f2.wf;obtain⟨G3,hG3,f3,p3,n3,w3,k3⟩:=Heap.aZ f2 (YC _) b2 (.cells (aY (eX c).g));have q3:G3.get H.n=.cells (aY g):=by rw[f3.same _ (by have:=f1.n;omega),f1.same _ (by omega)];exact p0
 have wm3:G3.mark.wf:=by exact w3
 obtain⟨G4x,G4,z4,hu4,hl4,f4⟩:=qx ⟨G3.mark,λd k=>rV (cp:=cp) (fuel:=fuel) T hg.1 lg.1 d k,ah.refl wm3⟩;have z4:=λ{d}{k}=>z4 d k;have p4:=(f4.same _ (by omega)).trans p3;have q4:=(f4.same _ (by have:=f1.n;omega)).trans q3;have w4:=f4.wf;have z5:=λ{d}{k}=>rV (cp:=cp) (fuel:=fuel) (H:=G4) T hg.2 lg.2 d k;obtain⟨G5,hG5,f5,p5,n5⟩:=Heap.aR w4 (.cells [.int 3 (nR g.1 (eX c).g.1),.int 3 (nR g.2 (eX c).g.2)]);have z6:=λ{d}{k}=>K5 (cp:=cp) (fuel:=fuel) (c:=3) (s:=0) T p5 (by omega) d k;have f05:=f0.trans (f1.trans (f3.trans (f4.trans f5)));have C5:=C.fresh f05;obtain⟨x0,x1,x2,x3,x4,x5,x6,x7,e⟩:=gj C.ok.l8;have g5:=C5.get;simp only[nX,e,YN,YY,YK,YJ,sv]at g5;have sn:=λ{id}{f}=>C.own.sn (id:=id) (f:=f);have e3:=Cl g (eX c).g;unfold V7 at e3;have a1:=l_ c.ae.length;have a2:=n_ c.ae.length;have a3:=n_ 20;obtain⟨y0,y1,y2,y3,y4,y5,y6,y7,ey⟩:=gj l8;unfold dH;generalize eX c=lc at*;simp only[db,ey,YN,YY,YK,YJ,sv]at z1;simp only[aY]at hG0 hG3 p3 q3 p4 q4;refine⟨G5,λd k=>?_,f05⟩;rw[aI T.k59 rfl rfl];rw[pZ]at e3;rcases hab:dJ g lc.g with _|_
 .rw[hab]at e3;have e4:(dW (.le 9223372036854775808 18446744073709551616) (if nR g.1 lc.g.1=0then nR g.2 lc.g.2else nR g.1 lc.g.1) 0=true)=True:=by rw[e3];simp
  simp only[go_sem,c59,aY,w,hG0,↓z0,↓z1,w1,hG2,p2,b2,w2,hG3,q3,p3,↓z4,hu4,hl4,p4,q4,↓z5,w4,hG5,↓z6,e4]
 .rw[hab]at e3;have e4:(dW (.le 9223372036854775808 18446744073709551616) (if nR g.1 lc.g.1=0then nR g.2 lc.g.2else nR g.1 lc.g.1) 0=true)=False:=by rw[e3];simp
  by_cases h20:20<=c.ae.length;.simp only[go_sem,c59,aY,w,hG0,↓z0,↓z1,w1,hG2,p2,b2,w2,hG3,q3,p3,↓z4,hu4,hl4,p4,q4,↓z5,w4,hG5,↓z6,e4,g5,↓sn,a1,a2,a3,h20,Qf]
  .simp only[go_sem,c59,aY,w,hG0,↓z0,↓z1,w1,hG2,p2,b2,w2,hG3,q3,p3,↓z4,hu4,hl4,p4,q4,↓z5,w4,hG5,↓z6,e4,g5,↓sn,a1,a2,a3,h20,Qf]
theorem UX{c}{v}(h:Df c):(nX c v).length=10:=by unfold nX;rw[YB,Yj,h.l8];rfl
def J3(c:CH)(b:Nat)(x:Tx):CH:=if b<c.size/\x.1=32then{c with live:=c.live.set b x}else c
theorem iZ.put{c c':CH}{v:V}{p:Nat}{l:List V}(C:iZ H p c v)(hc:Df c')(hs:c'.ae=c.ae)(e:l=nX c' v):iZ (H.put p (.cells l)) p c' v/\Step H (CQ p v) (H.put p (.cells l)) (CQ p v):=by subst e;refine⟨⟨by rw[Heap.bH];exact C.wf,by rw[Heap.aG C.wf C.cn,if_pos rfl],by rw[Heap.aV];exact C.cn,by rw[hs];exact C.own.nU C.wf C.cn C.off,C.off,hc⟩,Step.iW C.wf C.cn (YH rfl)⟩
theorem ab7{c}{b}{x}(h:Df c):Df (J3 c b x):=by
 unfold J3;split;.exact⟨by rw[Wg];exact h.l8,h.s1,h.s8,h.n,h.v8,h.g⟩
 omega
theorem Ec(T:aB t){c}{v}{p b l x}(C:iZ H p c v)(hb:nn b)(hl:l<1000000):∃H',(∀(d)(k),aj (aT cp t fuel (d+2)) (.func 70 []) [.ptr p 0,.int 3 b,.str l x] H k=k (.int 3 (if b<c.size/\l=32then 0 else 2)) H')/\Step H (CQ p v) H' (CQ p v)/\iZ H' p (J3 c b (l,x)) v:=by
 have z0:=λ{d}{k}=>gq (cp:=cp) (fuel:=fuel) T C d k;have z1:=λ{d}{k}=>Aj (cp:=cp) (fuel:=fuel) (x:=x) T C hb hl d k;by_cases h:b<c.size/\l=32
 .obtain⟨h1,h2⟩:=h;subst h2;have hs8:=C.ok.s8;have hw:J3 c b (32,x)={c with live:=c.live.set b (32,x)}:=by unfold J3;simp_all
  have hset:(nX c v).set b (.str 32 x)=nX (J3 c b (32,x)) v:=by rw[hw];unfold nX;rw[List.set_append_left _ _ (by rw[Yj,C.ok.l8];omega),YE1];rfl
  have hlen:=UX (v:=v) C.ok;have g:=C.get;have hCn:=C.cn;have hCw:=C.wf;obtain⟨C',s'⟩:=C.put (ab7 C.ok) (by rw[hw]) hset;generalize nX c v=L at g hlen hset C' s';generalize hG:H.put p (.cells (L.set b (.str 32 x)))=G at C' s';have a1:b<L.length:=by omega
  have a2:b<8:=by omega
  have a3:=l_ b;refine⟨G,λd k=>?_,s',C'⟩;simp only[h1,decide_true,YC1]at z1;rw[aI T.k35 rfl rfl];simp only[go_sem,c35,↓z0,↓z1,g,a1,a2,a3,hCw,hCn,hG,h1,and_self]
 .have hf:(decide (b<c.size)&&decide (l=32))=false:=by simp_all
  rw[hf]at z1;refine⟨H,λd k=>?_,Step.refl C.wf,by unfold J3;rw[if_neg h];omega⟩;rw[aI T.k35 rfl rfl];simp only[go_sem,c35,↓z0,↓z1,h]
end
theorem Ci{v}{b}:iw v b↔¬CB v b:=⟨λh⟨o,n,c,s,e⟩=>h b o n c s e rfl,λh b' o n c s e hb=>h ⟨o,n,c,s,by simp_all⟩⟩
theorem iZ.GH{G G':Heap}{p:Nat}{c c':CH}{v v':V}(C:iZ G p c v)(w:G'.wf)(n:G.n<=G'.n)(same:∀j,j<G.n->iw v j->G'.get j=G.get j)(off:∀j,j<G.n->iw v j->iw v' j)(lo:∀lo,lo<=G.bF->lo<=G.n->(∀b,CB v b->lo<=b)->lo<=G'.bF/\∀b,CB v' b->lo<=b)(own:Own hZ G' v' 11 c'.ae.length (dO c'.ae))(ok:Df c'):iZ (G'.put p (.cells (nX c' v'))) p c' v'/\Step G (CQ p v) (G'.put p (.cells (nX c' v'))) (CQ p v'):=by
 have hp:p<G'.n:=YF C.cn n;have ho:iw v' p:=off p C.cn C.off;refine⟨⟨by rw[Heap.bH];exact w,by rw[Heap.aG w hp,if_pos rfl],by rw[Heap.aV];exact hp,own.nU w hp ho,ho,ok⟩,⟨by rw[Heap.bH];exact w,by rw[Heap.aV];exact n,λb hb hq=>?_,λl h1 h2 h3=>?_⟩⟩
 .have h1:b≠p:=λe=>hq (YH e);have h2:iw v b:=Ci.2 λh=>hq (YE h);refine⟨by rw[Heap.aG w hp,if_neg h1];exact same b hb h2,λh=>?_⟩;rcases h with h|h;.exact h1 h
  .exact Ci.1 (off b hb h2) h
 .obtain⟨g1,g2⟩:=lo l h1 h2 λb hb=>h3 b (YE hb);exact⟨Heap.eS g1 (h3 p (YH rfl)),λb hb=>hb.elim (λe=>by rw[e];exact h3 p (YH rfl)) (g2 b)⟩
theorem iZ.snoc{G:Heap}{p X:Nat}{c:CH}{v:V}{s:Cn}(C:iZ G p c v)(hX:G.get X=.cells (db s))(h8:s.iC.length=8)(hg:jN s.g)(hn:c.ae.length<900):∃v' G',(∀{id:Nat}{ph:dg}{e:Env}{k:K}{a y:Arg},aA a e=v->aA y e=.slice X 0 1 2 0->aQ (.app false 11 a y) id ph e G k=k v' G')/\G'.wf/\p<G'.n/\G'.get p=.cells (nX c v)/\v'.one=true/\iZ (G'.put p (.cells (nX {c with ae:=c.ae++[s]} v'))) p {c with ae:=c.ae++[s]} v'/\Step G (CQ p v) (G'.put p (.cells (nX {c with ae:=c.ae++[s]} v'))) (CQ p v'):=by
 obtain⟨v',G',hop,own,w,same,n,off,lo⟩:=Own.adR (w:=v) (x:=.slice X 0 1 2 0) (m:=1) (new:=db s) C.wf C.own (λ{id f}=>fT hX (iJ h8)) (by rw[iJ h8]) (MK s) (by omega);have own':Own hZ G' v' 11 (c.ae++[s]).length (dO (c.ae++[s])):=by rw[YB,ML];show Own hZ G' v' 11 (c.ae.length+1) (dO c.ae++(db s++[]));rw[YV];exact own
 obtain⟨C',s'⟩:=C.GH (c':={c with ae:=c.ae++[s]}) w n same off lo own' ⟨C.ok.l8,C.ok.s1,C.ok.s8,by show(c.ae++[s]).length<1000;rw[YB];show c.ae.length+1<1000;omega,λt ht=>(Yo.1 ht).elim (C.ok.v8 t) λh=>by rw[YM.1 h];exact h8,λt ht=>(Yo.1 ht).elim (C.ok.g t) λh=>by rw[YM.1 h];exact hg⟩;exact⟨v',G',hop,w,YF C.cn n,(same p C.cn C.off).trans C.get,own.one,C',s'⟩
def zJ(c:CH)(g:Gd):CH:=if dH c g=0then{c with ae:=c.ae++[⟨c.live,g,false⟩]}else c
theorem SO{c}{g}:dH c g<10:=by unfold dH;split;omega;split<;>omega
theorem AN{c}{g}(h:dH c g=0):c.ae.length<20:=by
 unfold dH at h;split at h;.omega
 simp_all
section
variable{cp:RC->au}{t:Nat->Option dr}{fuel:Nat}{H:Heap}
set_option maxRecDepth 4000in theorem Ih(T:aB t){c}{v}{p}{g}(C:iZ H p c v)(hg:jN g)(hfu:1000<fuel):∃H' v',(∀(d)(k),aj (aT cp t fuel (d+4)) (.func 72 []) [.ptr p 0,.agg (aY g)] H k=k (.int 3 (dH c g)) H')/\Step H (CQ p v) H' (CQ p v')/\iZ H' p (zJ c g) v':=by
 have w:=C.wf;obtain⟨G0,hG0,f0,p0,n0⟩:=Heap.aR w (.cells (aY g));have C0:=C.fresh f0;obtain⟨G1,z1,f1⟩:=wK (cp:=cp) T C0 hg hfu;have z1:=λ{d}{k}=>z1 d k;have C1:=C0.fresh f1;have p1:=(f1.same _ (by omega)).trans p0;have f01:=f0.trans f1;unfold zJ;by_cases h:dH c g=0
 .rw[h]at z1⊢;have hlen:=AN h;have w1:=C1.wf;have wm:G1.mark.wf:=by exact w1
  obtain⟨Gn,G2,hGn,hu2,hl2,f2,p2,n2⟩:=Heap.Cb w1 (.cells (db ⟨c.live,g,false⟩));have C2:=C1.fresh f2;obtain⟨v',G3,hop,w3,hp3,g3,j3,C',s'⟩:=C2.snoc p2 C.ok.l8 hg (by omega);have j3:=λ{id}{k}=>aM j3 (id:=id) (k:=k);have g1:=C1.get;obtain⟨x0,x1,x2,x3,x4,x5,x6,x7,e⟩:=gj C.ok.l8;have f02:=f01.trans f2;refine⟨_,v',λd k=>?_,f02.step.trans s',C'⟩;have p0':=p0;generalize hG4:G3.put p (.cells (nX {c with ae:=c.ae++[⟨c.live,g,false⟩]} v'))=G4;simp only[aY]at hG0 p0' p1 z1;simp only[nX,db,e,YN,YY,YK,YJ,sv]at g1 g3 hGn hG4;rw[aI T.k36 rfl rfl];simp only[go_sem,c36,aY,w,hG0,p0',p1,↓z1,g1,wm,hGn,hu2,hl2,↓hop,↓j3,g3,w3,hp3,hG4]
 .rw[if_neg h];refine⟨G1,v,λd k=>?_,f01.step,C1⟩;have p0':=p0;simp only[aY]at hG0 p0' z1;rw[aI T.k36 rfl rfl];simp only[go_sem,c36,aY,w,hG0,p0',↓z1,h]
def BE(v:V)(n:Nat):V:=match v with|.slice b o _ _ _=>.slice b o n (n+1) 0|v=>v
theorem Rt{G}{v}{sz N n}{row}(h:Own hZ G v sz N row)(hn:n<=N):Own hZ G (BE v n) sz n (row.take (n*sz)):=by
 obtain⟨h1,h2,⟨rfl,rfl⟩|⟨b,c,s,rest,rfl,g,hc,hb1,hb2⟩⟩:=h
 .obtain rfl:n=0:=by omega
  exact⟨by simp,λx hx=>by simp_all,YH ⟨rfl,rfl⟩⟩
 .refine⟨by simp_all,λx hx=>h2 x (WI hx),YE ⟨b,n+1,0,row.drop (n*sz)++rest,rfl,?_,YH rfl,hb1,hb2⟩⟩;rw[<-WB,List.take_append_drop];omega
theorem KG{v}{n b}:CB (BE v n) b↔CB v b:=by
 unfold BE;split;.exact⟨λ⟨o,_,_,_,e⟩=>by cases e;exact⟨_,_,_,_,rfl⟩,λ⟨o,_,_,_,e⟩=>by cases e;exact⟨_,_,_,_,rfl⟩⟩
 rfl
theorem wX:∀{l}{n},(∀s∈l,s.iC.length=8)->(dO l).take (n*11)=dO (l.take n)|[],n,_=>by simp[dO]|a::l,0,_=>by rfl|a::l,n+1,h=>by have:=wX (n:=n) λt ht=>h t (YI _ ht);show(db a++dO l).take ((n+1)*11)=db a++dO (l.take n);rw[show(n+1)*11=(db a).length+n*11by rw[iJ (h a (YL ..))];omega,List.take_length_add_append,this]
def Ur(c:CH)(n:Nat):CH:=if c.ae.length<n then c else{c with ae:=c.ae.take n,live:=(eX {c with ae:=c.ae.take n}).iC}
set_option maxRecDepth 4000in theorem wP(T:aB t){c:CH}{v:V}{p n:Nat}(C:iZ H p c v)(hn:nn n)(hfu:1000<fuel):∃H' v',(∀(d:Nat)(k:K),aj (aT cp t fuel (d+3)) (.func 74 []) [.ptr p 0,.int 3 n] H k=k (.int 3 (if c.ae.length<n then 2 else 0)) H')/\Step H (CQ p v) H' (CQ p v')/\iZ H' p (Ur c n) v':=by
 have w:=C.wf;have z0:=λ{d}{k}=>gq (cp:=cp) (fuel:=fuel) T C d k;have hcn:=C.ok.n;have sn:=λ{id}{f}=>C.own.sn (id:=id) (f:=f);have a1:=l_ c.ae.length;have a2:=n_ c.ae.length;have a3:=n_ 0;have a4:¬n<0:=by omega
 obtain⟨x0,x1,x2,x3,x4,x5,x6,x7,e⟩:=gj C.ok.l8;have g:=C.get;simp only[nX,e,YN,YY,YK,YJ,sv]at g;unfold Ur;by_cases h:c.ae.length<n;.simp only[if_pos h];refine⟨H,v,λd k=>?_,Step.refl w,C⟩;rw[aI T.k37 rfl rfl];simp only[go_sem,c37,↓z0,g,↓sn,a1,a2,a3,a4,hn,h]
 .simp only[if_neg h];have hle:n<=c.ae.length:=by omega
  have own1:Own hZ H (BE v n) 11 (c.ae.take n).length (dO (c.ae.take n)):=by rw[<-wX C.ok.v8,Yv,Nat.min_eq_left hle];exact Rt C.own hle
  have ok1:Df {c with ae:=c.ae.take n}:=⟨C.ok.l8,C.ok.s1,C.ok.s8,by show(c.ae.take n).length<1000;rw[Yv];omega,λs hs=>C.ok.v8 s (WI hs),λs hs=>C.ok.g s (WI hs)⟩;obtain⟨C1,s1⟩:=C.GH w (YC _) (λ_ _ _=>rfl) (λj _ h=>Ci.2 λhc=>Ci.1 h (KG.1 hc)) (λlo h1 _ h3=>⟨h1,λb hb=>h3 b (KG.1 hb)⟩) own1 ok1;have j1:=λ{id}{k}=>aM own1.one (id:=id) (k:=k);have hcn':=C.cn;generalize hG1:H.put p (.cells (nX {c with ae:=c.ae.take n} (BE v n)))=G1 at C1 s1;obtain⟨G2,z2o,f2⟩:=qP (cp:=cp) T C1 hfu;have z2:=λ{d}{k}=>z2o d k;clear z2o;obtain⟨l8,lg⟩:=xE ok1;have C2:=C1.fresh f2;have g2:=C2.get;have w2:=C2.wf;have c2n:=C2.cn;obtain⟨C3,s3⟩:=C2.put (c':={c with ae:=c.ae.take n,live:=(eX {c with ae:=c.ae.take n}).iC}) ⟨l8,ok1.s1,ok1.s8,ok1.n,ok1.v8,ok1.g⟩ rfl rfl;generalize hG3:G2.put p (.cells (nX {c with ae:=c.ae.take n,live:=(eX {c with ae:=c.ae.take n}).iC} (BE v n)))=G3 at C3 s3;generalize eX {c with ae:=c.ae.take n}=lc at z2 l8 lg C3 s3 hG3⊢;obtain⟨y0,y1,y2,y3,y4,y5,y6,y7,ey⟩:=gj l8;simp only[db,ey,YN,YY,YK,YJ,sv]at z2;simp only[nX,e,ey,YN,YY,YK,YJ,sv]at hG1 g2 hG3;refine⟨G3,BE v n,λd k=>?_,s1.trans (f2.step.trans s3),C3⟩;have hn':=l_ n;rw[aI T.k37 rfl rfl];have own:=C.own;obtain⟨_,_,⟨hv,h0⟩|⟨b,cc,s,r,hv,_,hc,_⟩⟩:=own
  .have n0:n=0:=by omega
   subst hv n0;simp only[BE]at hG1 g2 hG3 j1;simp only[go_sem,ZE,c37,↓z0,g,↓sn,a1,a2,a3,a4,h,↓j1,w,hcn',hG1,↓z2,g2,w2,c2n,hG3]
  .subst hv;simp only[BE]at hG1 g2 hG3 j1;rcases hc with rfl|⟨rfl,rfl,_⟩
   .have q1:=by omega
    by_cases n0:n=0;.subst n0;simp only[go_sem,ZE,c37,↓z0,g,↓sn,a1,a2,a3,a4,h,Ya,QG,↓j1,w,hcn',hG1,↓z2,g2,w2,c2n,hG3]
    .simp only[go_sem,c37,↓z0,g,↓sn,a1,a2,a3,a4,hn,h,hn',Ya,YC,Wn,hle,n0,QF,WH,Wu,↓j1,w,hcn',hG1,↓z2,g2,w2,c2n,hG3]
   .by_cases n0:n=0;.subst n0;simp only[go_sem,ZE,c37,↓z0,g,↓sn,a1,a2,a3,a4,h,Ya,QG,↓j1,w,hcn',hG1,↓z2,g2,w2,c2n,hG3]
    .simp only[go_sem,c37,↓z0,g,↓sn,a1,a2,a3,a4,hn,h,hn',Ya,YC,hle,n0,QF,WH,Wu,↓j1,w,hcn',hG1,↓z2,g2,w2,c2n,hG3]
end
def cidx(l:List Cn)(g:Gd):Option Nat:=l.findIdx? λs=>decide (s.g=g)
theorem vC{l}{g}{i}(h:cidx l g=some i):∃hi:i<l.length,l[i].g=g:=by unfold cidx at h;rw[QM]at h;obtain⟨h1,h2,-⟩:=h;simp_all
def oG(c:CH)(g:Gd):Nat×Nat:=match cidx c.ae g with|none=>(0,5)|some i=>if(c.ae.getD i ⟨[],(0,0),false⟩).hid=true then(0,14)else(i,0)
theorem wG{c}{g}(h:(oG c g).2=0):∃i,∃hi:i<c.ae.length,oG c g=(i,0)/\c.ae[i].g=g/\c.ae[i].hid=false/\cidx c.ae g=some i:=by
 unfold oG at h⊢;rcases hx:cidx c.ae g with _|i;.simp_all
 .obtain⟨hi,hg⟩:=vC hx;rcases hh:c.ae[i].hid with _|_;.simp_all
  simp_all
theorem aaI{c}{g}(h:c.ae.length<1000):(oG c g).1<1000/\(oG c g).2<1000:=by
 unfold oG;rcases hx:cidx c.ae g with _|i;.simp
 .obtain⟨hi,-⟩:=vC hx;simp only;split;.simp
  omega
theorem Own.zero{H G:Heap}{v:V}{sz n b o n' c s:Nat}{row:List V}(h:Own H G v sz n row)(e:v=.slice b o n' c s):o=0/\n'=n:=by obtain⟨_,_,⟨rfl,_⟩|⟨_,_,_,_,rfl,_⟩⟩:=h<;>cases e;exact⟨rfl,rfl⟩
theorem iZ.hid{H:Heap}{c:CH}{v:V}{p i:Nat}(C:iZ H p c v)(hi:i<c.ae.length):∃b z s,v=.slice b 0 c.ae.length z s/\b<H.n/\∀{G:Heap},G.get b=H.get b->∀{id:Nat}{k:V->R},FO id (G.get b) (i*11+10) k=k (.bool c.ae[i].hid):=by
 obtain⟨b,o,z,s,h1,h2,-,h4⟩:=C.row.cell (by omega);obtain⟨rfl,-⟩:=C.own.zero h1;refine⟨b,z,s,h1,h2,λ{G}hG{id k}=>?_⟩;have e:=oQ C.ok.v8 (YA hi);have h8:=C.ok.v8 _ (YP hi);have e2:(((dO c.ae).drop (i*11)).take 11)[10]?=some (.bool c.ae[i].hid):=by rw[e];unfold db;rw[Yl (by rw[Yj,h8];omega),Yj,h8];rfl
 rw[Yy,if_pos (by omega),WG]at e2;have:=h4 hG e2 (id:=id) (k:=k);rwa[WH]at this
section
variable{cp:RC->au}{t:Nat->Option dr}{fuel:Nat}{H:Heap}
theorem Rr(T:aB t){s}{g}{cg}(hw:H.wf)(h8:s.iC.length=8)(gg:H.get cg=.cells (aY g))(hn:cg<H.n):∃H',(∀(d)(k),aj (aT cp t fuel (d+1)) (.func 234 [.ptr cg 0]) [.agg (db s)] H k=k (.bool (decide (s.g=g))) H')/\ah H H':=by
 obtain⟨G1,hG1,f1,p1,n1⟩:=Heap.aR hw (.cells (db s));have g1:=(f1.same _ hn).trans gg;refine⟨G1,λd k=>?_,f1⟩;obtain⟨y0,y1,y2,y3,y4,y5,y6,y7,ey⟩:=gj h8;simp only[db,ey,YN,YY,YK,YJ,sv]at hG1 p1⊢;simp only[aY]at g1;rw[ay T.aeb rfl rfl];simp only[YK,YJ];by_cases h:s.g=g;.have e1:=λ{id}{f}=>MS h (id:=id) (f:=f);rw[decide_eq_true h];simp only[go_sem,aaB,hw,hG1,p1,g1,↓bB,↓e1]
 .have e1:=λ{id}{f}=>Va h (id:=id) (f:=f);rw[decide_eq_false h];simp only[go_sem,aaB,hw,hG1,p1,g1,↓bB,↓e1,YT]
theorem D7(T:aB t){c:CH}{v:V}{p:Nat}{g:Gd}{cg:Nat}(C:iZ H p c v)(gg:H.get cg=.cells (aY g))(hcn:cg<H.n)(hfu:1000<fuel):∃H',(∀(d:Nat)(k:K),aj (aT cp t fuel (d+2)) (.func 232 []) [v,.func 234 [.ptr cg 0]] H k=k (.int 3 ((cidx c.ae g).getD 18446744073709551615)) H')/\ah H H':=by
 have hn:=C.ok.n;have nl:=n_ c.ae.length;have sn:=λ{id}{f}=>C.own.sn (id:=id) (f:=f);have a0:=l_ c.ae.length;have run:=jT (c:=wD) (fuel:=fuel) (ph:=λd=>aT cp t fuel (d+1)) (I:=λi _ G=>ah H G/\∀(j)(s),j<i->c.ae[j]?=some s->s.g≠g) (S:=λi _ e=>af s000 e=v/\af s001 e=.func 234 [.ptr cg 0]/\af s007 e=.int 3 c.ae.length/\af s010 e=.int 3 i) (J:=λq G=>ah H G/\cidx c.ae g=some q) (Q:=λq e=>af s004 e=.int 3 q) (λi _ G hil⟨f,hno⟩=>by
   obtain⟨b,o,z,zz,hv,hbn,hrd⟩:=C.el hil;have hsi:=YA hil;have hrd:=λ{id}{k}=>hrd (f.same _ hbn) (id:=id) (k:=k);have h8:=C.ok.v8 _ (YP hil);have hidx:c.ae[i].g=g->cidx c.ae g=some i:=λh=>by unfold cidx;rw[QM];refine⟨hil,decide_eq_true h,λj hj=>?_⟩;have:=hno j c.ae[j] hj (YA (by omega));exactλh=>this (of_decide_eq_true h)
   generalize hsd:c.ae[i]=s at hsi hrd hidx h8;obtain⟨G1,z1o,f1⟩:=Rr (cp:=cp) (fuel:=fuel) T f.wf h8 ((f.same _ hcn).trans gg) (YF hcn f.n);have z1:∀{d}{k:K},_=k (.bool (decide (s.g=g))) G1:=λ{d}{k}=>z1o d k;clear z1o;have a1:=n_ i;have a2:=l_ i;have a3:=m_ (i+1);by_cases h:s.g=g;.refine YE ⟨i,G1,⟨f.trans f1,hidx h⟩,λd kx r e y⟨q0,q1,q7,q10⟩hk=>?_⟩;simp only[decide_eq_true h]at z1;rw[hv]at q0;rw[ak];simp only[go_sem,wD,q0,q1,q7,q10,hil,nl,a1,a2,↓hrd,↓z1];refine hk _ ?_;simp only[go_sem,↓reduceIte]
   .refine YH ⟨(),G1,⟨f.trans f1,λj s' hj hs'=>?_⟩,λd kx r e y⟨q0,q1,q7,q10⟩hk=>?_⟩
    .by_cases hji:j<i;.exact hno j s' hji hs'
     .obtain rfl:j=i:=by omega
      rw[hsi]at hs';cases hs';exact h
    rw[hv]at q0;rw[ak];simp only[go_sem,wD,q0,q1,q7,q10,hil,nl,a1,a2,a3,↓hrd,↓z1,h,decide_false];exact hk _ (by simp only[go_sem,q0,q1,q7,hv,and_self])) c.ae.length 0 () H (by omega) ⟨ah.refl C.wf,λj s hj=>by omega⟩;rcases run with⟨_,G',⟨f',hno⟩,z⟩|⟨q,G',⟨f',hq⟩,z⟩
 .have Az:cidx c.ae g=none:=by unfold cidx;rw[List.findIdx?_eq_none_iff];intro s hs;obtain⟨j,hj,rfl⟩:=List.getElem_of_mem hs;have:=hno j _ hj (YA hj);simpa using this
  rw[Az];refine⟨G',λd k=>?_,f'⟩;rw[aI T.abc rfl rfl];simp only[go_sem,aaA,↓sn,a0];refine z d _ fuel _ _ (by omega) ⟨?_,?_,?_,?_⟩ λr e'⟨q0,q1,q7,q10⟩=>?_;.rfl
  .rfl
  .rfl
  .rfl
  have e6:¬c.ae.length<c.ae.length:=by omega
  rw[ak];simp only[go_sem,wD,q7,q10,nl,e6,Ww]
 .rw[hq];refine⟨G',λd k=>?_,f'⟩;rw[aI T.abc rfl rfl];simp only[go_sem,aaA,↓sn,a0];refine z d _ fuel _ _ (by omega) ⟨?_,?_,?_,?_⟩ λe' q4=>?_;.rfl
  .rfl
  .rfl
  .rfl
  simp only[go_sem,q4,YU]
theorem wH(T:aB t){c:CH}{v:V}{p:Nat}{g:Gd}(C:iZ H p c v)(hfu:1000<fuel):∃H' x,(∀(d:Nat)(k:K),aj (aT cp t fuel (d+3)) (.func 160 []) [.ptr p 0,.agg (aY g)] H k=k (.cG [x,.int 3 (oG c g).2]) H')/\ah H H'/\x.one=true/\((oG c g).2=0->∃b n cc s,v=.slice b 0 n cc s/\x=.ptr b ((oG c g).1*11)):=by
 have hn:=C.ok.n;have w:=C.wf;obtain⟨G0,hG0,f0,p0,n0⟩:=Heap.aR w (.cells (aY g));have C0:=C.fresh f0;have z0:=λ{d}{k}=>gq (cp:=cp) (fuel:=fuel) T C0 d k;obtain⟨G2,z2o,f2⟩:=D7 (cp:=cp) T C0 p0 (by omega) hfu;have z2:=λ{d}{k}=>z2o d k;have C2:=C0.fresh f2;have g0:=C0.get;have g2:=C2.get;obtain⟨x0,x1,x2,x3,x4,x5,x6,x7,e⟩:=gj C.ok.l8;simp only[nX,e,YN,YY,YK,YJ,sv]at g0 g2;simp only[aY]at hG0;have a3:=n_ 0;rcases hi:cidx c.ae g with _|i
 .have hr:oG c g=(0,5):=by unfold oG;rw[hi]
  rw[hi]at z2;simp only[Ww]at z2;have a4:dW (.lt 9223372036854775808 18446744073709551616) 18446744073709551615 0=true:=by decide
  refine⟨G2,.py,λd k=>?_,f0.trans f2,rfl,λh=>by rw[hr]at h;cases h⟩;rw[hr,aI T.k80 rfl rfl];simp only[go_sem,c80,aY,w,hG0,↓z0,g0,↓z2,a4]
 .rw[hi]at z2;simp only[YU]at z2;obtain⟨hlt,-⟩:=vC hi;obtain⟨b,z,s,hv,hbn,hrd⟩:=C0.hid hlt;have hrd:=λ{id}{k}=>hrd (f2.same _ hbn) (id:=id) (k:=k);have a1:=n_ i;have a2:=l_ i;have a4:¬i<0:=by omega
  have hcf:oG c g=if c.ae[i].hid=true then(0,14)else(i,0):=by unfold oG;rw[hi];simp only[YD,YA hlt,YU]
  rcases hh:c.ae[i].hid with _|_
  .have hr:oG c g=(i,0):=by rw[hcf,hh];rfl
   rw[hh]at hrd;refine⟨G2,.ptr b (i*11),λd k=>?_,f0.trans f2,rfl,λ_=>⟨b,_,z,s,hv,by rw[hr]⟩⟩;rw[hv]at g0 g2 z2;rw[hr,aI T.k80 rfl rfl];simp only[go_sem,c80,aY,w,hG0,↓z0,g0,↓z2,a1,a2,a3,a4,hlt,g2,WH,↓hrd]
  .have hr:oG c g=(0,14):=by rw[hcf,hh];rfl
   rw[hh]at hrd;refine⟨G2,.py,λd k=>?_,f0.trans f2,rfl,λh=>by rw[hr]at h;cases h⟩;rw[hv]at g0 g2 z2;rw[hr,aI T.k80 rfl rfl];simp only[go_sem,c80,aY,w,hG0,↓z0,g0,↓z2,a1,a2,a3,a4,hlt,g2,WH,↓hrd]
theorem Al:∀{l}{i}{s},(∀s∈l,s.iC.length=8)->l[i]?=some s->(dO l).set (i*11+10) (.bool true)=dO (l.set i {s with hid:=true})|[],i,s,_,h=>by rfl|a::l,0,s,h8,h=>by simp at h;subst h;obtain⟨y0,y1,y2,y3,y4,y5,y6,y7,ey⟩:=gj (h8 a (YL ..));show(db a++dO l).set 10 (.bool true)=db {a with hid:=true}++dO l;simp only[db,ey,YN,YY,YK,YJ];rfl|a::l,i+1,s,h8,h=>by have:=Al (λt ht=>h8 t (YI _ ht)) (by simpa using h);have hl:=iJ (h8 a (YL ..));show(db a++dO l).set ((i+1)*11+10) (.bool true)=db a++dO (l.set i {s with hid:=true});rw[Qx _ _ (by omega),hl,show(i+1)*11+10-11=i*11+10by omega,this]
def Uq(c:CH)(g:Gd):CH:=if(oG c g).2=0then{c with ae:=c.ae.set (oG c g).1 {c.ae.getD (oG c g).1 ⟨[],(0,0),false⟩with hid:=true}}else c
theorem HY(T:aB t){c}{v}{p}{g}(C:iZ H p c v)(hfu:1000<fuel):∃H',(∀(d)(k),aj (aT cp t fuel (d+4)) (.func 78 []) [.ptr p 0,.agg (aY g)] H k=k (.int 3 (oG c g).2) H')/\Step H (CQ p v) H' (CQ p v)/\iZ H' p (Uq c g) v:=by
 have hn:=C.ok.n;have w:=C.wf;obtain⟨G0,hG0,f0,p0,n0⟩:=Heap.aR w (.cells (aY g));have C0:=C.fresh f0;obtain⟨G1,x,z1o,f1,jx,hx⟩:=wH (cp:=cp) T C0 hfu;have z1:=λ{d}{k}=>z1o d k;have C1:=C0.fresh f1;have f01:=f0.trans f1;have p0':=p0;simp only[aY]at hG0 p0' z1;unfold Uq;by_cases h:(oG c g).2=0
 .obtain⟨i,hi,hr,hgi,hhi,-⟩:=wG h;obtain⟨b,n,cc,s,hv,hxx⟩:=hx h;have hsi:=YA hi;rw[if_pos h];simp only[hr,YD,hsi,YU]at hxx z1⊢;subst hxx;have hlen:=tB C.ok.v8;obtain⟨b',c',s',l,hv',gb,-,hbn,hll,hput⟩:=C1.own.put C1.wf (by intro e;rw[e]at hlen;simp at hlen;omega);obtain rfl:b=b':=by rw[hv]at hv';cases hv';rfl
  obtain⟨n2,o2,k2⟩:=hput (i*11+10) (.bool true) (by omega) rfl;rw[Al C.ok.v8 hsi]at o2;have hbp:b≠p:=λe=>C.off _ _ _ _ _ hv e.symm;have s2:Step G1 (CQ p v) (G1.put b (.cells (l.set (i*11+10) (.bool true)))) (CQ p v):=Step.iW C1.wf hbn (YE ⟨_,_,_,_,hv⟩);have w1:=C1.wf;generalize hG2:G1.put b (.cells (l.set (i*11+10) (.bool true)))=G2 at n2 o2 k2 s2;have a1:i*11+10<l.length:=by omega
  refine⟨G2,λd k=>?_,f01.step.trans s2,⟨s2.wf,(k2 _ (λe=>hbp e.symm)).trans C1.get,by rw[n2];exact C1.cn,by rw[Wg];omega,C.off,⟨C.ok.l8,C.ok.s1,C.ok.s8,by rw[Wg];omega,λt ht=>?_,λt ht=>?_⟩⟩⟩;.rw[aI T.k39 rfl rfl];simp only[go_sem,c39,aY,w,hG0,p0',↓z1,gb,a1,w1,hbn,hG2]
  .rcases Wl ht with ht|rfl;.exact C.ok.v8 t ht
   .exact(show c.ae[i].iC.length=8from C.ok.v8 _ (YP hi))
  .rcases Wl ht with ht|rfl;.exact C.ok.g t ht
   .exact(show jN c.ae[i].g from C.ok.g _ (YP hi))
 .rw[if_neg h];have jx:=λ{id}{k}=>aM jx (id:=id) (k:=k);refine⟨G1,λd k=>?_,f01.step,C1⟩;rw[aI T.k39 rfl rfl];simp only[go_sem,c39,aY,w,hG0,p0',↓z1,h]
theorem Ea(T:aB t){O}{n}{v}{row}(hw:H.wf)(h:Row H O v 1 n row)(hn:n<1000000):∃H' v',(∀(d)(k),aj (aT cp t fuel (d+1)) (.func 266 []) [v] H k=k v' H')/\ah H H'/\Own H H' v' 1 n row:=th T.aen hw h hn
theorem abU(l:List Tx):∀y∈l.map sv,y.one=true:=λy hy=>by obtain⟨x,_,rfl⟩:=Ye.1 hy;rfl
theorem wJ(T:aB t){c}{v}{p}{iC:List Tx}(C:iZ H p c v)(h8:iC.length=8):∃H' v',(∀(d)(k),aj (aT cp t fuel (d+2)) (.func 204 []) [.ptr p 0,.agg (iC.map sv)] H k=k v' H')/\ah H H'/\Own H H' v' 1 c.size ((iC.take c.size).map sv):=by have w:=C.wf;have s8:=C.ok.s8;obtain⟨G0,hG0,f0,p0,n0⟩:=Heap.aR w (.cells (iC.map sv));have C0:=C.fresh f0;have hR:Row G0 (λ_=>False) (.slice H.n 0 c.size 9 0) 1 c.size ((iC.take c.size).map sv):=⟨by simp_all,abU _,YE ⟨H.n,0,9,0,iC.map sv,rfl,YH p0,by omega,id,by simp_all,by simp⟩⟩;obtain⟨G1,v',z1o,f1,o1⟩:=Ea (cp:=cp) (fuel:=fuel) T f0.wf hR (by omega);have z1:=λ{d}{k}=>z1o d k;have g0:=C0.get;obtain⟨x0,x1,x2,x3,x4,x5,x6,x7,e⟩:=gj C.ok.l8;obtain⟨y0,y1,y2,y3,y4,y5,y6,y7,ey⟩:=gj h8;simp only[nX,e,YN,YY,YK,YJ,sv]at g0;simp only[ey,YN,YY,sv]at hG0;have a1:=n_ c.size;have a2:=l_ c.size;refine⟨G1,v',λd k=>?_,f0.trans f1,o1.sub (by omega)⟩;rw[aI T.ad0 rfl rfl,ey];simp only[YN,YY,sv];simp only[go_sem,acX,w,hG0,g0,a2,s8,Ya,YC,↓z1,Wu]
theorem Ib(T:aB t){c}{v}{p}(C:iZ H p c v):∃H' v',(∀(d)(k),aj (aT cp t fuel (d+3)) (.func 92 []) [.ptr p 0] H k=k v' H')/\ah H H'/\Own H H' v' 1 c.size ((c.live.take c.size).map sv):=by have z0:=λ{d}{k}=>gq (cp:=cp) (fuel:=fuel) T C d k;obtain⟨G1,v',z1o,f1,o1⟩:=wJ (cp:=cp) (fuel:=fuel) T C C.ok.l8;have z1:=λ{d}{k}=>z1o d k;have g:=C.get;obtain⟨x0,x1,x2,x3,x4,x5,x6,x7,e⟩:=gj C.ok.l8;simp only[nX,e,YN,YY,YK,YJ,sv]at g;simp only[e,YN,YY,sv]at z1;refine⟨G1,v',λd k=>?_,f1,o1⟩;rw[aI T.k46 rfl rfl];simp only[go_sem,c46,↓z0,g,↓z1]
theorem Ig(T:aB t){c}{v}{p}{g}(C:iZ H p c v)(hfu:1000<fuel):∃H' v',(∀(d:Nat)(k:K),aj (aT cp t fuel (d+4)) (.func 96 []) [.ptr p 0,.agg (aY g)] H k=k (.cG [v',.int 3 (oG c g).2]) H')/\ah H H'/\((oG c g).2≠0->v'=.aC)/\∀(i:Nat)(s:Cn),oG c g=(i,0)->c.ae[i]?=some s->Own H H' v' 1 c.size ((s.iC.take c.size).map sv):=by
 have w:=C.wf;obtain⟨G0,hG0,f0,p0,n0⟩:=Heap.aR w (.cells (aY g));have C0:=C.fresh f0;obtain⟨G1,x,z1o,f1,jx,hx⟩:=wH (cp:=cp) T C0 hfu;have z1:=λ{d}{k}=>z1o d k;have C1:=C0.fresh f1;have f01:=f0.trans f1;have p0':=p0;simp only[aY]at hG0 p0' z1;by_cases h:(oG c g).2=0
 .obtain⟨i,hi,hr,hgi,hhi,-⟩:=wG h;obtain⟨b,n,cc,s,hv,hxx⟩:=hx h;have hsi:=YA hi;obtain⟨b',o,z,zz,hv',hbn,hrd⟩:=C1.el hi;have hrd:=λ{id}{k}=>hrd rfl (id:=id) (k:=k);have h8:=C.ok.v8 _ (YP hi);obtain⟨G2,v',z2o,f2,o2⟩:=wJ (cp:=cp) (fuel:=fuel) T C1 h8;have z2:=λ{d}{k}=>z2o d k;simp only[hr]at hxx z1⊢;subst hxx;have hrd8:∀{id}{k},vh id (G1.get b) (i*11) 8 k=k (c.ae[i].iC.map sv):=λ{id k}=>by
   obtain⟨_,_,⟨hn',_⟩|⟨b2,c2,s2,rest,hv2,gb,_,_,_⟩⟩:=C1.own;.omega
   .obtain rfl:b=b2:=by rw[hv]at hv2;cases hv2;rfl
    have hat:=oQ C.ok.v8 hsi;have e8:((dO c.ae++rest).drop (i*11)).take 8=c.ae[i].iC.map sv:=by
     rw[QA (by omega),Wk (by rw[WK];omega)];have:((dO c.ae).drop (i*11)).take 8=(((dO c.ae).drop (i*11)).take 11).take 8:=by rw[Qq];rfl
     rw[this,hat];unfold db;rw[Qv (by rw[Yj,h8])]
    rw[gb,iP,eV (by rw[YB];omega),eF (by rw[WK,YB];omega),e8]
  refine⟨G2,v',λd k=>?_,f01.trans f2,λhne=>absurd rfl hne,λj s' hj hs'=>?_⟩;.rw[aI T.k48 rfl rfl];simp only[go_sem,UU,aY,w,hG0,p0',↓z1,↓hrd8,↓z2]
  .obtain rfl:i=j:=congrArg Prod.fst hj;rw[hsi]at hs';cases hs';exact o2.sub (by have:=f01.n;omega)
 .refine⟨G1,.aC,λd k=>?_,f01,λ_=>rfl,λi s hi=>absurd (by rw[hi]) h⟩;rw[aI T.k48 rfl rfl];simp only[go_sem,UU,aY,w,hG0,p0',↓z1,h,not_false_eq_true]
theorem DY(T:aB t){c:CH}{v:V}{p:Nat}(C:iZ H p c v)(hfu:1000<fuel):∃H' v',(∀(d:Nat)(k:K),aj (aT cp t fuel (d+2)) (.func 94 []) [.ptr p 0] H k=k v' H')/\ah H H'/\Own H H' v' 2 c.ae.length (hU (c.ae.map (·.g))):=by
 have hn:=C.ok.n;have nl:=n_ c.ae.length;have z0:=λ{d}{k}=>gq (cp:=cp) (fuel:=fuel) T C d k;have g:=C.get;obtain⟨x0,x1,x2,x3,x4,x5,x6,x7,e⟩:=gj C.ok.l8;simp only[nX,e,YN,YY,YK,YJ,sv]at g;have sn:=λ{id}{f}=>C.own.sn (id:=id) (f:=f);have a0:=l_ c.ae.length;obtain⟨v',G',⟨f',o'⟩,z⟩:=bG (c:=Kk) (fuel:=fuel) (I:=λi v G=>ah H G/\Own H G v 2 i (hU ((c.ae.take i).map (·.g)))) (S:=λi w e=>af s003 e=w/\af s014 e=v/\af s015 e=.int 3 c.ae.length/\af s016 e=.int 3 i) (λi u G hil⟨f,o⟩=>by
   obtain⟨b,ob,cc,z,hv,hbn,hrd⟩:=C.el hil;have htk:c.ae.take (i+1)=c.ae.take i++[c.ae[i]]:=by rw[Qj,YA hil];rfl
   have hrd:=λ{id}{k}=>hrd (f.same _ hbn) (id:=id) (k:=k);have h8:=C.ok.v8 _ (YP hil);generalize c.ae[i]=s at htk hrd h8;obtain⟨y0,y1,y2,y3,y4,y5,y6,y7,ey⟩:=gj h8;have w0:=f.wf;obtain⟨G1,hG1,f1,p1,n1⟩:=Heap.aR w0 (.cells [.str 0 0,.str 0 0,.str 0 0,.str 0 0,.str 0 0,.str 0 0,.str 0 0,.str 0 0,.int 7 0,.int 7 0,.bool false]);obtain⟨G2,hG2,f2,p2,n2,w2,k2⟩:=Heap.aZ f1 (YC _) (by omega) (.cells (db s));obtain⟨G3,hG3,f3,p3,n3⟩:=Heap.aR w2 (.cells (aY s.g));have f03:=(f.trans f2).trans f3;obtain⟨v',G4,hap,o4,f4,-⟩:=Own.app (w:=u) (x:=.slice G2.n 0 1 2 0) f03 ((o.fresh f2).fresh f3) (λ{id f}=>fT p3 rfl) rfl (Em _) (by omega);have w1:=f1.wf;have a1:=n_ i;have a2:=l_ i;have a3:=m_ (i+1);have a4:G.n<G1.n:=by omega
   refine⟨v',G4,⟨f4,by rw[htk,Yz,se];simpa[hU]using o4⟩,λd kx r e x⟨q3,q14,q15,q16⟩hk=>?_⟩;simp only[db,ey,YN,YY,YK,YJ,sv]at hG2 p2 hrd;simp only[aY]at hG3;rw[hv]at q14;rw[ak];simp only[go_sem,Kk,q3,q14,q15,q16,hil,nl,a1,a2,a3,a4,↓hrd,w0,hG1,p1,w1,hG2,p2,w2,hG3,↓hap];refine hk _ ?_;simp only[go_sem,q14,q15,hv,and_self]) c.ae.length 0 .aC H (by omega) ⟨ah.refl C.wf,Own.nil⟩;rw[List.take_length]at o';refine⟨G',v',λd k=>?_,f',o'⟩;rw[aI T.k47 rfl rfl];simp only[go_sem,c47,↓z0,g,↓sn,a0];refine z (d+1) _ fuel _ _ (by omega) ⟨?_,?_,?_,?_⟩ λr e'⟨q3,q14,q15,q16⟩=>?_;.rfl
 .rfl
 .rfl
 .rfl
 have e6:¬c.ae.length<c.ae.length:=by omega
 rw[ak];simp only[go_sem,Kk,q3,q15,q16,nl,e6]
theorem L9(T:aB t){n}(hw:H.wf)(h1:1<=n)(h8:n<=8)(hfu:1000<fuel):∃H' q,(∀(d)(k),aj (aT cp t fuel (d+2)) (.func 18 []) [.int 3 n] H k=k (.ptr q 0) H')/\ah H H'/\iZ H' q ⟨zT n,n,[]⟩ .aC/\H.n<=q:=by
 obtain⟨G1,z1o,f1⟩:=rG (cp:=cp) T hw h8 hfu;have z1:=λ{d}{k}=>z1o d k;have w1:=f1.wf;obtain⟨G2,hG2,f2,p2,n2⟩:=Heap.aR w1 (.cells (nX ⟨zT n,n,[]⟩ .aC));have a1:=n_ n;have a2:=n_ 1;have a3:=n_ 8;have a4:¬n<1:=by omega
 have a5:¬8<n:=by omega
 refine⟨G2,G1.n,λd k=>?_,f1.trans f2,⟨f2.wf,p2,by omega,Own.nil,(λb o n c s e=>(by cases e)),⟨lT h8,h1,h8,by simp,λs hs=>(by cases hs),λs hs=>(by cases hs)⟩⟩,f1.n⟩;obtain⟨y0,y1,y2,y3,y4,y5,y6,y7,ez⟩:=gj (lT h8);simp only[ez,YN,YY,sv]at z1;simp only[nX,ez,YN,YY,YK,YJ,sv]at hG2;rw[aI T.k9 rfl rfl];simp only[go_sem,c9,a1,a2,a3,a4,a5,↓z1,w1,hG2]
end
def dU(l:List Tx)(cs:List Wr):Nat->List Tx|0=>l|i+1=>(dU l cs i).set (cs.getD i (0,(0,0))).1 (cs.getD i (0,(0,0))).2
theorem rC{l}{cs}:∀i,(dU l cs i).length=l.length|0=>rfl|i+1=>by simp only[dU,Wg,rC i]
def zR(c:CH)(cs:List Wr):List Tx:=dU (eX c).iC cs cs.length
def Hc(c:CH)(g:Gd)(cs:List Wr):CH:=if dH c g=0then{c with ae:=c.ae++[⟨zR c cs,g,false⟩],live:=zR c cs}else c
section
variable{cp:RC->au}{t:Nat->Option dr}{fuel:Nat}{H:Heap}
theorem O4(T:aB t){c:CH}{v vx:V}{p B Bg:Nat}{cs:List Wr}{O:Nat->Prop}{l0:List Tx}{G0:Heap}(C:iZ H p c v)(hX:Row H O vx 2 cs.length (bK cs))(hn:cs.length<1000)(hch:qp cs c.size)(h8:l0.length=8)(f0:ah H G0)(hB:H.n<=B)(hBn:B<G0.n)(gB:G0.get B=.cells (l0.map sv))(hfu:1000<fuel):∃G',ah H G'/\G'.get B=.cells ((dU l0 cs cs.length).map sv)/\G0.n<=G'.n/\(∀j,j<G0.n->j≠B->G'.get j=G0.get j)/\∀(d:Nat)(kx:Nat->KE)(e:Env)(x:R),af s000 e=.ptr p 0->af s004 e=.ptr Bg 0->af s010 e=.ptr B 0->af s011 e=.int 3 18446744073709551615->af s025 e=vx->af s026 e=.int 3 cs.length->af s027 e=.int 3 0->(∀e',af s000 e'=.ptr p 0->af s004 e'=.ptr Bg 0->af s010 e'=.ptr B 0->kx 1 e' G'=x)->kf DE fuel (aT cp t fuel (d+1)) kx fuel e G0=x:=by
 have nl:=n_ cs.length;have s8:=C.ok.s8;obtain⟨_,G',⟨f',g',n',k'⟩,z⟩:=bG (c:=DE) (ph:=λd=>aT cp t fuel (d+1)) (I:=λi _ G=>ah H G/\G.get B=.cells ((dU l0 cs i).map sv)/\G0.n<=G.n/\∀j,j<G0.n->j≠B->G.get j=G0.get j) (S:=λi _ e=>af s000 e=.ptr p 0/\af s004 e=.ptr Bg 0/\af s010 e=.ptr B 0/\af s011 e=.int 3 (nK cs i)/\af s025 e=vx/\af s026 e=.int 3 cs.length/\af s027 e=.int 3 i) (λi _ G hil⟨f,g,n,k⟩=>by
   have hsi:cs[i]?=some cs[i]:=YA hil;obtain⟨c1,c2,c3⟩:=hch.lt _ (YP hil);have hup:(dW (.le 9223372036854775808 18446744073709551616) cs[i].1 (nK cs i)=true)=False:=by rw[DX];cases i with|zero=>simp only[nK,eq_iff_iff,iff_false];omega|succ j=>have:=hch.up j hil;simp only[YD,hsi,YU]at this;simp only[nK,YD,eq_iff_iff,iff_false];omega
   have hpr:nK cs (i+1)=cs[i].1:=by simp only[nK,YD,hsi,YU]
   have hst:(dU l0 cs (i+1)).map sv=((dU l0 cs i).map sv).set cs[i].1 (sv cs[i].2):=by simp only[dU,YD,hsi,YU];rw[YE1]
   obtain⟨b,o,cc,z,rfl,hbn,-,hrd⟩:=hX.open hil;have hrd1:=λ{id}{k}=>(hrd (f.same _ hbn)).1 (id:=id) (k:=k);rw[jS hsi]at hrd1;generalize hcx:cs[i]=x at c1 c2 c3 hup hpr hrd1 hst;obtain⟨q,u,w⟩:=x;simp only[sv]at c1 c2 hup hpr hrd1 hst;subst c2;have hXl:((dU l0 cs i).map sv).length=8:=by rw[Yj,rC,h8]
   generalize(dU l0 cs i).map sv=X at g hst hXl;obtain⟨G1,hG1,f1,p1,n1⟩:=Heap.aR f.wf (.cells [.int 3 0,.str 0 0]);have b1:G.n<G1.n:=by omega
   obtain⟨G2,hG2,f2,p2,n2,w2,k2⟩:=Heap.aZ f1 (YC _) b1 (.cells [.int 3 q,.str 32 w]);have fx:=f.trans f2;have g2:=(f2.same _ (by omega)).trans g;have b2:B<G2.n:=by omega
   obtain⟨G3,hG3,f3,p3,n3,w3,k3⟩:=Heap.aZ fx hB b2 (.cells (X.set q (.str 32 w)));have a4:=n_ q;have hm:=λ{d}{k}=>Aj (cp:=cp) (fuel:=fuel) (l:=32) (x:=w) T (C.fresh fx) a4 (by omega) d k;simp only[c1,decide_true,YC1]at hm;have a1:=n_ i;have a2:=l_ i;have a3:=m_ (i+1);have a5:q<8:=by omega
   have a6:q<X.length:=by omega
   have a7:=l_ q;have wf:=f.wf;have w1:=f1.wf;refine⟨(),G3,⟨f3,by rw[hst];exact p3,by omega,λj hj hne=>by rw[k3 _ hne,f2.same _ (by omega)];exact k j hj hne⟩,λd kx r e y⟨q0,q4,q10,q11,q25,q26,q27⟩hk=>?_⟩;rw[ak];simp only[go_sem,DE,q0,q10,q11,q25,q26,q27,hil,nl,a1,a2,a3,a5,a6,a7,↓hrd1,wf,hG1,p1,w1,b1,hG2,p2,↓hm,hup,g2,w2,b2,hG3];exact hk _ (by simp only[go_sem,q0,q4,q10,q25,q26,hpr,and_self])) cs.length 0 () G0 (by omega) ⟨f0,gB,YC _,λ_ _ _=>rfl⟩;refine⟨G',f',g',n',k',λd kx e x q0 q4 q10 q11 q25 q26 q27 hk=>z d kx fuel e x (by omega) ⟨q0,q4,q10,q11,q25,q26,q27⟩ λr e'⟨q0,q4,q10,q11,q25,q26,q27⟩=>?_⟩;have e6:¬cs.length<cs.length:=by omega
 rw[ak];simp only[go_sem,DE,q26,q27,nl,e6];exact hk _ q0 q4 q10
set_option maxRecDepth 4000in theorem Af(T:aB t){c:CH}{v vx:V}{p:Nat}{g:Gd}{cs:List Wr}{O:Nat->Prop}(C:iZ H p c v)(hg:jN g)(hX:Row H O vx 2 cs.length (bK cs))(hn:cs.length<1000)(hch:qp cs c.size)(hfu:1000<fuel):∃H' v',(∀(d:Nat)(k:K),aj (aT cp t fuel (d+4)) (.func 36 []) [.ptr p 0,.agg (aY g),vx] H k=k (.int 3 (dH c g)) H')/\Step H (CQ p v) H' (CQ p v')/\iZ H' p (Hc c g cs) v':=by
 have w:=C.wf;obtain⟨G0,hG0,f0,p0,n0⟩:=Heap.aR w (.cells (aY g));have C0:=C.fresh f0;obtain⟨G1,z1o,f1⟩:=wK (cp:=cp) T C0 hg hfu;have z1:=λ{d}{k}=>z1o d k;clear z1o;have C1:=C0.fresh f1;have f01:=f0.trans f1;have p0':=p0;have hlt:=SO (c:=c) (g:=g);unfold Hc;by_cases h:dH c g=0
 .rw[if_pos h];rw[h]at z1⊢;have hlen:=AN h;have w1:=C1.wf;have p1:=(f1.same _ (by omega)).trans p0;obtain⟨G2,z2o,f2⟩:=qP (cp:=cp) T C1 hfu;have z2:=λ{d}{k}=>z2o d k;clear z2o;obtain⟨l8,lg⟩:=xE C.ok;have w2:=f2.wf;obtain⟨G3,hG3,f3,p3,n3⟩:=Heap.aR w2 (.cells [.str 0 0,.str 0 0,.str 0 0,.str 0 0,.str 0 0,.str 0 0,.str 0 0,.str 0 0]);have w3:=f3.wf;have b3:G2.n<G3.n:=by omega
  obtain⟨G4,hG4,f4,p4,n4,w4,k4⟩:=Heap.aZ f3 (YC _) b3 (.cells ((eX c).iC.map sv));have C2:=C1.fresh f2;have f02:=f01.trans f2;obtain⟨G5,f5,g5,n5,k5,z5⟩:=O4 (cp:=cp) (Bg:=H.n) T C2 (hX.fresh f02) hn hch l8 f4 (YC _) (by omega) p4 hfu;have C5:=C2.fresh f5;have w5:=C5.wf;have hv8:(zR c cs).length=8:=by unfold zR;rw[rC,l8]
  have wm:G5.mark.wf:=by exact w5
  have p5:G5.get H.n=.cells (aY g):=by rw[f5.same _ (by have:=f2.n;have:=f1.n;omega),f2.same _ (by have:=f1.n;omega)];exact p1
  have g5':G5.get G2.n=.cells ((zR c cs).map sv):=g5;obtain⟨Gn,G6,hGn,hu6,hl6,f6,p6,n6⟩:=Heap.Cb w5 (.cells (db ⟨zR c cs,g,false⟩));have C6:=C5.fresh f6;obtain⟨v',G7,hop,w7,hp7,g7,j7,C8,s8⟩:=C6.snoc p6 hv8 hg (by omega);have j7:=λ{id}{k}=>aM j7 (id:=id) (k:=k);have g5c:=C5.get;have g8:=C8.get;have w8:=C8.wf;have b8:=C8.cn;have hB8:(G7.put p (.cells (nX {c with ae:=c.ae++[⟨zR c cs,g,false⟩]} v'))).get G2.n=.cells ((zR c cs).map sv):=by
   have hnq:¬CQ p v G2.n:=λh=>by have:=C2.lt _ h;omega
   rw[(s8.same _ (by omega) hnq).1,f6.same _ (by omega)];exact g5'
  obtain⟨C9,s9⟩:=C8.put (c':={c with ae:=c.ae++[⟨zR c cs,g,false⟩],live:=zR c cs}) ⟨hv8,C8.ok.s1,C8.ok.s8,C8.ok.n,C8.ok.v8,C8.ok.g⟩ rfl rfl;generalize hG8:G7.put p (.cells (nX {c with ae:=c.ae++[⟨zR c cs,g,false⟩]} v'))=G8 at g8 w8 b8 C9 s9 s8 hB8;generalize hG9:G8.put p (.cells (nX {c with ae:=c.ae++[⟨zR c cs,g,false⟩],live:=zR c cs} v'))=G9 at C9 s9;obtain⟨x0,x1,x2,x3,x4,x5,x6,x7,e⟩:=gj C.ok.l8;obtain⟨u0,u1,u2,u3,u4,u5,u6,u7,eu⟩:=gj hv8;refine⟨G9,v',λd k=>?_,f02.step.trans (f5.step.trans (f6.step.trans (s8.trans s9))),C9⟩;obtain⟨y0,y1,y2,y3,y4,y5,y6,y7,ey⟩:=gj l8;simp only[aY]at hG0 p0' p1 p5 z1;simp only[nX,db,e,eu,ey,YN,YY,YK,YJ,sv]at z2 hG4 p4 g5' g5c g7 hGn hG8 hB8 g8 hG9;have sx:=λ{id}{f}=>hX.sn (id:=id) (f:=f);have a1:=l_ cs.length;rw[aI T.k18 rfl rfl];simp only[go_sem,c18,PI,aY,w,hG0,p0',↓z1];simp only[go_sem,X5,X6,↓z2,w2,hG3,p3,w3,b3,hG4,↓sx,a1];refine z5 (d+2) _ _ _ ?_ ?_ ?_ ?_ ?_ ?_ ?_ λe' q0 q4 q10=>?_;.rfl
  .rfl
  .rfl
  .rfl
  .rfl
  .rfl
  .rfl
  simp only[go_sem,X7,q0,q4,q10,g5c,g5',p5,wm,hGn,hu6,hl6,↓hop,↓j7,g7,w7,hp7,hG8];simp only[go_sem,X8,Y1,Y3,q0,q10,hB8,g8,w8,b8,hG9]
 .rw[if_neg h];refine⟨G1,v,λd k=>?_,f01.step,C1⟩;simp only[aY]at hG0 p0' z1;rw[aI T.k18 rfl rfl];simp only[go_sem,c18,PI,aY,w,hG0,p0',↓z1,h]
end
theorem Ep{id l1 a l2 b}{cls}{l m}{f}:gu id (2::cls) (.str l1 a::l) (.str l2 b::m) f=if l1=l2/\a=b then gu id cls l m f else f false:=by
 show aH (YR l1 l2) (aH (YR a b) (gu id cls l m f) (f false)) (aH false (gu id cls l m f) (f false))=_;simp only[bI,pq,YT,if_false];by_cases h1:l1=l2;.simp_all
 simp_all
theorem eqV{id}{f}:∀{a b:List Tx}{n},a.length=n->b.length=n->gu id (YZ n 2) (a.map sv) (b.map sv) f=f (decide (a=b))
 |[],[],0,_,_=>by rfl|[],_::_,n,h,h'=>by subst h;simp_all|_::_,[],n,h,h'=>by subst h';simp_all|x::a,y::b,0,h,_=>by simp_all|x::a,y::b,n+1,h,h'=>by
  show gu id (2::YZ n 2) (.str x.1 x.2::a.map sv) (.str y.1 y.2::b.map sv) f=_;rw[Ep,eqV (by simp_all) (by simp_all)];by_cases hxy:x=y;.simp_all
  .rw[if_neg (λh=>hxy (Prod.ext h.1 h.2))];simp_all
theorem wI{a}:∀i,jh a a i=[]|0=>rfl|i+1=>by simp only[jh,wI i,if_true,YV]
theorem iZ.iC{H:Heap}{c:CH}{v:V}{p i:Nat}(C:iZ H p c v)(hi:i<c.ae.length):∃b z s,v=.slice b 0 c.ae.length z s/\b<H.n/\∀{G:Heap},G.get b=H.get b->∀{id:Nat}{k:List V->R},vh id (G.get b) (i*11) 8 k=k (c.ae[i].iC.map sv):=by
 have hsi:c.ae[i]?=some c.ae[i]:=YA hi;have h8:=C.ok.v8 _ (YP hi);obtain⟨_,_,⟨hn',h0⟩|⟨b,c2,s2,rest,hv2,gb,_,_,hb⟩⟩:=C.own;.omega
 refine⟨b,c2,s2,hv2,hb,λ{G}hG{id k}=>?_⟩;have hl:=tB C.ok.v8;have hat:=oQ C.ok.v8 hsi;have e8:((dO c.ae++rest).drop (i*11)).take 8=c.ae[i].iC.map sv:=by
  rw[QA (by omega),Wk (by rw[WK];omega)];have:((dO c.ae).drop (i*11)).take 8=(((dO c.ae).drop (i*11)).take 11).take 8:=by rw[Qq];rfl
  rw[this,hat];unfold db;rw[Qv (by rw[Yj,h8])]
 rw[hG,gb,iP,eV (by rw[YB];omega),eF (by rw[WK,YB];omega),e8]
section
variable{cp:RC->au}{t:Nat->Option dr}{fuel:Nat}{H:Heap}
theorem L8(T:aB t){A B:Nat}{a b:List Tx}(hw:H.wf)(gA:H.get A=.cells (a.map sv))(hA:A<H.n)(gB:H.get B=.cells (b.map sv))(hB:B<H.n)(ha:a.length=8)(hb:b.length=8)(hfu:1000<fuel):∃G' v',ah H G'/\Own H G' v' 2 (Dc a b).length (bK (Dc a b))/\∀(d:Nat)(kx:Nat->KE)(e:Env)(x:R),af s006 e=.ptr A 0->af s010 e=.ptr B 0->af s007 e=.aC->af s062 e=.int 3 0->(∀e',af s007 e'=v'->kx 1 e' G'=x)->kf zX fuel (aT cp t fuel d) kx fuel e H=x:=by
 have nl:=n_ 8;obtain⟨v',G',⟨f',o'⟩,z⟩:=bG (c:=zX) (fuel:=fuel) (n:=8) (I:=λi v G=>ah H G/\Own H G v 2 (jh a b i).length (bK (jh a b i))) (S:=λi v e=>af s006 e=.ptr A 0/\af s010 e=.ptr B 0/\af s007 e=v/\af s062 e=.int 3 i) (λi v G hil⟨f,o⟩=>by
   have hia:i<a.length:=by omega
   have hib:i<b.length:=by omega
   have hg1:a.getD i t0=a[i]:=by rw[YD,YA hia,YU]
   have hg2:b.getD i t0=b[i]:=by rw[YD,YA hib,YU]
   have hst:jh a b (i+1)=jh a b i++(if a[i]=b[i]then[]else[(i,b[i])]):=by simp only[jh,hg1,hg2]
   have hcl:=mb a b i;have gA':=(f.same _ hA).trans gA;have gB':=(f.same _ hB).trans gB;have hra:∀{id}{k},FO id (G.get A) i k=k (sv a[i]):=λ{id k}=>yf (YH gA') (by simp[hia]) rfl;have hrb:∀{id}{k},FO id (G.get B) i k=k (sv b[i]):=λ{id k}=>yf (YH gB') (by simp[hib]) rfl;generalize a[i]=x at hra hst;generalize b[i]=y at hrb hst;simp only[sv]at hra hrb;have w0:=f.wf;have a1:=n_ i;have a2:=l_ i;have a3:=m_ (i+1);by_cases hxy:x=y
   .rw[if_pos hxy,YV]at hst;have e1:(x.1=y.1/\x.2=y.2)=True:=by rw[uL];exact eq_true hxy
    have e2:(y.1=x.1/\y.2=x.2)=True:=by rw[uL];exact eq_true hxy.symm
    refine⟨v,G,⟨f,by rw[hst];exact o⟩,λd kx r e x⟨q6,q10,q7,q62⟩hk=>?_⟩;rw[ak];simp only[go_sem,zX,q6,q10,q62,hil,nl,a1,a2,a3,↓hra,↓hrb,e2,WX];exact hk _ (by simp only[go_sem,q6,q10,q7,and_self])
   .rw[if_neg hxy]at hst;have e1:(x.1=y.1/\x.2=y.2)=False:=by rw[uL];exact eq_false hxy
    have e2:(y.1=x.1/\y.2=x.2)=False:=by rw[uL];exact eq_false λh=>hxy h.symm
    obtain⟨G3,hG3,f3,p3,n3⟩:=Heap.aR w0 (.cells [.int 3 i,.str y.1 y.2]);obtain⟨v',G4,hap,o4,f4,-⟩:=Own.app (w:=v) (x:=.slice G.n 0 1 2 0) (f.trans f3) (o.fresh f3) (λ{id f}=>fT p3 rfl) rfl (λz hz=>by rcases YS.1 hz with rfl|hz;rfl;rw[YM.1 hz];rfl) (by omega);refine⟨v',G4,⟨f4,by rw[hst,YB,dP];exact o4⟩,λd kx r e x⟨q6,q10,q7,q62⟩hk=>?_⟩;rw[ak];simp only[go_sem,zX,q6,q10,q7,q62,hil,nl,a1,a2,a3,↓hra,↓hrb,e2,w0,hG3,↓hap];refine hk _ ?_;simp only[go_sem,q6,q10,and_self]) 8 0 .aC H (by omega) ⟨ah.refl hw,Own.nil⟩;have hc8:jh a b 8=Dc a b:=by unfold Dc;rw[hb]
 rw[hc8]at o';refine⟨G',v',f',o',λd kx e x q6 q10 q7 q62 hk=>z d kx fuel e x (by omega) ⟨q6,q10,q7,q62⟩ λr e'⟨q6,q10,q7,q62⟩=>?_⟩;have e6:=by omega
 rw[ak];simp only[go_sem,ZE,zX,q62,nl];exact hk _ q7
def jr(c:CH)(i:Nat):List Tx:=if i=0then zT c.size else(c.ae.getD (i-1) ⟨[],(0,0),false⟩).iC
set_option maxRecDepth 4000in theorem yR(T:aB t){c:CH}{v:V}{p i:Nat}(C:iZ H p c v)(hi:nn i)(hfu:1000<fuel):∃H' v',(∀(d:Nat)(k:K),aj (aT cp t fuel (d+2)) (.func 100 []) [.ptr p 0,.int 3 i] H k=k (.cG [v',.int 3 (if i<c.ae.length then 0 else 5)]) H')/\ah H H'/\(¬i<c.ae.length->v'=.aC)/\∀s,c.ae[i]?=some s->Own H H' v' 2 (Dc (jr c i) s.iC).length (bK (Dc (jr c i) s.iC)):=by
 have hn:=C.ok.n;have w:=C.wf;have z0:=λ{d}{k}=>gq (cp:=cp) (fuel:=fuel) T C d k;have sn:=λ{id}{f}=>C.own.sn (id:=id) (f:=f);have a1:=l_ c.ae.length;have a2:=n_ c.ae.length;have a3:=n_ 0;have a4:¬i<0:=by omega
 have g:=C.get;obtain⟨x0,x1,x2,x3,x4,x5,x6,x7,e⟩:=gj C.ok.l8;simp only[nX,e,YN,YY,YK,YJ,sv]at g;by_cases hlt:i<c.ae.length
 .have hge:¬c.ae.length<=i:=by omega
  have hsi:=YA hlt;rw[if_pos hlt];obtain⟨G1,z1o,f1⟩:=rG (cp:=cp) T w C.ok.s8 hfu;have z1:=λ{d}{k}=>z1o d k;clear z1o;have w1:=f1.wf;obtain⟨G2,hG2,f2,p2,n2⟩:=Heap.aR w1 (.cells [.str 0 0,.str 0 0,.str 0 0,.str 0 0,.str 0 0,.str 0 0,.str 0 0,.str 0 0]);have w2:=f2.wf;have b2:G1.n<G2.n:=by omega
  obtain⟨G3,hG3,f3,p3,n3,w3,k3⟩:=Heap.aZ f2 (YC _) b2 (.cells ((zT c.size).map sv));have f13:=f1.trans f3;have C3:=C.fresh f13;have g3:=C3.get;simp only[nX,e,YN,YY,YK,YJ,sv]at g3;have base:∃G4,ah H G4/\G3.n<=G4.n/\G4.get G1.n=.cells ((jr c i).map sv)/\(jr c i).length=8/\∀(d)(kn)(kx)(e)(x),af s000 e=.ptr p 0->af s001 e=.int 3 i->af s006 e=.ptr G1.n 0->(∀e',af s000 e'=.ptr p 0->af s001 e'=.int 3 i->af s006 e'=.ptr G1.n 0->gG Kq fuel (aT cp t fuel d) e' G4 kn kx=x)->gG Kp fuel (aT cp t fuel d) e G3 kn kx=x:=by
   unfold jr;by_cases h0:i=0
   .subst h0;simp only[if_true];refine⟨G3,f13,YC _,p3,lT C.ok.s8,λd kn kx e x q0 q1 q6 hk=>?_⟩;have e0:¬0<0:=by omega
    simp only[go_sem,Kp,q1,a3,e0];exact hk _ q0 q1 q6
   .obtain⟨j,rfl⟩:=s_ i;have hj:j<c.ae.length:=by omega
    simp only[h0,if_false,Wn];rw[YD,YA hj,YU];obtain⟨b,z,s,hv,hbn,hrd⟩:=C3.iC hj;have hrd:=λ{id}{k}=>hrd rfl (id:=id) (k:=k);have h8:=C.ok.v8 _ (YP hj);generalize c.ae[j]=s' at hrd h8;have b3:G1.n<G3.n:=by omega
    obtain⟨G4,hG4,f4,p4,n4,w4,k4⟩:=Heap.aZ f3 (YC _) b3 (.cells (s'.iC.map sv));refine⟨G4,f1.trans f4,by omega,p4,h8,λd kn kx e y q0 q1 q6 hk=>?_⟩;have e1:0<j+1:=by omega
    have e2:(j+1+18446744073709551615)%18446744073709551616=j:=by unfold nn at hi;omega
    have e3:=n_ j;have e4:=l_ j;have e5:=by omega
    obtain⟨y0,y1,y2,y3,y4,y5,y6,y7,ey⟩:=gj h8;obtain⟨u0,u1,u2,u3,u4,u5,u6,u7,eu⟩:=gj (lT C.ok.s8);simp only[ey,eu,YN,YY,sv]at hrd hG4 p3;rw[hv]at g3;simp only[go_sem,Kp,q0,q1,q6,a3,hi,e1,e2,e4,hj,g3,WH,WM,↓hrd,p3,w3,b3,hG4];exact hk _ q0 q1 q6
  obtain⟨G4,f4,n4,p4,hpl,zb⟩:=base;have C4:=C.fresh f4;have g4:=C4.get;simp only[nX,e,YN,YY,YK,YJ,sv]at g4;obtain⟨b,z,s,hv,hbn,hrd⟩:=C4.iC hlt;have hrd:=λ{id}{k}=>hrd rfl (id:=id) (k:=k);have h8:=C.ok.v8 _ (YP hlt);generalize c.ae[i]=sn' at hsi hrd h8;have w4:=f4.wf;obtain⟨G5,hG5,f5,p5,n5⟩:=Heap.aR w4 (.cells [.str 0 0,.str 0 0,.str 0 0,.str 0 0,.str 0 0,.str 0 0,.str 0 0,.str 0 0]);have w5:=f5.wf;have b5:G4.n<G5.n:=by omega
  have hbb:=by omega
  have gb5:=f5.same _ hbn;obtain⟨G6,hG6,f6,p6,n6,w6,k6⟩:=Heap.aZ f5 (YC _) b5 (.cells (sn'.iC.map sv));have q4:=(f6.same _ (by omega)).trans p4;have hb4:=hi;have hb5:=l_ i;have hrep:∀{id}{f},gu id [2,2,2,2,2,2,2,2] (sn'.iC.map sv) ((jr c i).map sv) f=f (decide (sn'.iC=jr c i)):=λ{id f}=>eqV h8 hpl;have f46:=f4.trans f6;by_cases hsame:sn'.iC=jr c i
  .have hnil:Dc (jr c i) sn'.iC=[]:=by rw[hsame];exact wI _
   simp only[decide_eq_true hsame]at hrep;refine⟨G6,.aC,λd k=>?_,f46,λh=>absurd hlt h,λs' hs'=>by rw[hsi]at hs';cases hs';rw[hnil];exact Own.nil⟩;generalize jr c i=pv at*;obtain⟨y0,y1,y2,y3,y4,y5,y6,y7,ey⟩:=gj h8;obtain⟨u0,u1,u2,u3,u4,u5,u6,u7,eu⟩:=gj hpl;obtain⟨w0',w1',w2',w3',w4',w5',w6',w7',ew⟩:=gj (lT C.ok.s8);clear hsame hnil;simp only[ey,eu,ew,YN,YY,sv]at hrd hG3 hG6 p6 q4 z1 hrep;rw[aI T.k50 rfl rfl];simp only[go_sem,c50,Km,Ko,Q4,↓z0,g,↓sn,a1,a2,a3,a4,hi,hge,↓z1,w1,hG2,p2,w2,b2,hG3];refine zb (d+1) _ _ _ _ ?_ ?_ ?_ λe' q0 q1 q6=>?_;.rfl
   .rfl
   .rfl
   rw[hv]at g4;simp only[go_sem,Kq,Q5,Q6,Q7,q0,q1,q6,g4,hb5,hlt,WH,WM,↓hrd,w4,hG5,p5,w5,b5,hG6,p6,q4,↓bB,↓hrep,WX]
  .simp only[decide_eq_false hsame]at hrep;obtain⟨G7,v',f7,o7,z7⟩:=L8 (cp:=cp) T w6 q4 (by omega) p6 (by omega) hpl h8 hfu;refine⟨G7,v',λd k=>?_,f46.trans f7,λh=>absurd hlt h,λs' hs'=>by rw[hsi]at hs';cases hs';exact o7.sub (by have:=f46.n;omega)⟩;generalize jr c i=pv at*;obtain⟨y0,y1,y2,y3,y4,y5,y6,y7,ey⟩:=gj h8;obtain⟨u0,u1,u2,u3,u4,u5,u6,u7,eu⟩:=gj hpl;obtain⟨w0',w1',w2',w3',w4',w5',w6',w7',ew⟩:=gj (lT C.ok.s8);clear hsame o7;simp only[ey,eu,ew,YN,YY,sv]at hrd hG3 hG6 p6 q4 z1 hrep;rw[aI T.k50 rfl rfl];simp only[go_sem,c50,Km,Ko,Q4,↓z0,g,↓sn,a1,a2,a3,a4,hi,hge,↓z1,w1,hG2,p2,w2,b2,hG3];refine zb (d+1) _ _ _ _ ?_ ?_ ?_ λe' q0 q1 q6=>?_;.rfl
   .rfl
   .rfl
   rw[hv]at g4;simp only[go_sem,Kq,Q5,q0,q1,q6,g4,hb5,hlt,WH,WM,↓hrd,w4,hG5,p5,w5,b5,hG6,p6,q4,↓bB,↓hrep,YT];refine z7 (d+1) _ _ _ ?_ ?_ ?_ ?_ λe'' q7=>?_;.exact q6
   .rfl
   .rfl
   .rfl
   simp only[go_sem,Q6,Q7,q7]
 .have hge:c.ae.length<=i:=by omega
  rw[if_neg hlt];refine⟨H,.aC,λd k=>?_,ah.refl w,λ_=>rfl,λs hs=>absurd (YW.1 hs).1 hlt⟩;rw[aI T.k50 rfl rfl];simp only[go_sem,c50,Km,Ko,↓z0,g,↓sn,a1,a2,a3,a4,hi,hge]
end
def eD(c n:Nat):List UInt8:=YZ n (UInt8.ofNat c)
theorem fN{c n}:(eD c n).length=n:=WT
theorem II{c n}:eD c (n+1)=eD c n++[UInt8.ofNat c]:=YM4
theorem NK{c i}(h:c<256):Js (enc (eD c i)) i 1 c=enc (eD c (i+1)):=by
 have h1:=iM (eD c i);rw[fN]at h1;have h2:enc (eD c i)>>>(8*(i+1))=0:=by rw[xb,List.drop_eq_nil_of_le (by rw[fN];omega)];rfl
 rw[II,iL,fN];unfold Js;rw[h2,WE h1];simp only[enc];have h3:(UInt8.ofNat c).toNat=c:=by simp_all
 rw[h3]
def dT(c:Nat):Tx:=(32,enc (eD c 32))
theorem wT(c):sO (dT c):=by have:=iM (eD c 32);exact this
section
variable{cp:RC->au}{t:Nat->Option dr}{fuel:Nat}{H:Heap}
theorem pT(T:aB t){c:Nat}(hw:H.wf)(hc:c<=250)(hfu:1000<fuel):∃H',(∀(d:Nat)(k:K),aj (aT cp t fuel (d+1)) (.func 30 []) [.int 4 c] H k=k (.str 32 (enc (eD c 32))) H')/\ah H H':=by
 obtain⟨G1,hG1,f1,p1,n1⟩:=Heap.aR hw (.bytes 32 0);have n32:=n_ 32;obtain⟨_,G',⟨f',g',n'⟩,z⟩:=bG (c:=Kg) (fuel:=fuel) (n:=32) (I:=λi _ G=>ah H G/\G.get H.n=.bytes 32 (enc (eD c i))/\H.n<G.n) (S:=λi _ e=>af s000 e=.int 4 c/\af s003 e=.slice H.n 0 32 33 0/\af s004 e=.int 3 i) (λi _ G hil⟨f,g,hn⟩=>by
   have hx:=NK (c:=c) (i:=i) (by omega);have w0:=f.wf;obtain⟨G2,hG2,f2,p2,n2,w2,k2⟩:=Heap.aZ f (YC _) hn (.bytes 32 (enc (eD c (i+1))));have a1:=n_ i;have a2:=l_ i;have a3:=m_ (i+1);have a4:i+1<=32:=by omega
   refine⟨(),G2,⟨f2,p2,by omega⟩,λd kx r e x⟨q0,q3,q4⟩hk=>?_⟩;rw[ak];simp only[go_sem,ZE,Kg,q0,q3,q4,hil,n32,a1,a2,a3,a4,g,hx,w0,hn,hG2];exact hk _ (by simp only[go_sem,q0,q3,and_self])) 32 0 () G1 (by omega) ⟨f1,p1,by omega⟩;refine⟨G',λd k=>?_,f'⟩;have e6:¬(32:Nat)<32:=by omega
 have e7:¬dW (.gt 0 256) c 250=true:=by rw[KB];omega
 have e8:enc (eD c 32)%256^32=enc (eD c 32):=WE (wT c);have e9:=by omega
 rw[aI T.k15 rfl rfl];simp only[go_sem,c15,hw,hG1];refine z d _ fuel _ _ (by omega) ⟨?_,?_,?_⟩ λr e'⟨q0,q3,q4⟩=>?_;.rfl
 .rfl
 .rfl
 rw[ak];simp only[go_sem,ZE,Kg,q0,q3,q4,n32,e6,e7,g',Nat.shiftRight_zero,e8]
theorem fO(T:aB t){a b}(hw:H.wf):∃H',(∀(d)(k),aj (aT cp t fuel (d+1)) (.func 28 []) [.int 7 a,.int 7 b] H k=k (.agg [.int 7 a,.int 7 b]) H')/\ah H H':=by
 obtain⟨G1,hG1,f1,p1,n1⟩:=Heap.aR hw (.cells [.int 7 0,.int 7 0]);have w1:=f1.wf;have b1:H.n<G1.n:=by omega
 obtain⟨G2,hG2,f2,p2,n2,w2,k2⟩:=Heap.aZ f1 (YC _) b1 (.cells [.int 7 a,.int 7 b]);refine⟨G2,λd k=>?_,f2⟩;rw[aI T.k14 rfl rfl];simp only[go_sem,c14,hw,hG1,p1,w1,b1,hG2,↓dR,p2]
theorem yS(T:aB t){X b c cx sx}(hw:H.wf)(gX:H.get X=.cells [.int 3 b,.int 4 c])(hX:X<H.n)(hb:nn b)(hc:c<=250)(hfu:1000<fuel):∃H' v',(∀(d)(k),aj (aT cp t fuel (d+2)) (.func 64 []) [.slice X 0 1 cx sx] H k=k v' H')/\ah H H'/\Own H H' v' 2 1 [.int 3 b,.str 32 (enc (eD c 32))]:=by
 have wm:H.mark.wf:=by exact hw
 obtain⟨Gm',z1',f1'⟩:=pT T wm hc hfu;obtain⟨Gm,G1,z1o,hu1,hl1,f1⟩:=qx (cp:=cp) ⟨Gm',z1',f1'⟩;have z1:=λ{d}{k}=>z1o d k;have w1:=f1.wf;obtain⟨G2,hG2,f2,p2,n2⟩:=Heap.aR w1 (.cells [.int 3 b,.str 32 (enc (eD c 32))]);obtain⟨v',G3,hap,o3,f3,-⟩:=Own.app (w:=.aC) (x:=.slice G1.n 0 1 2 0) (sz:=2) (f1.trans f2) Own.nil (λ{id f}=>fT p2 rfl) rfl (λz hz=>by rcases YS.1 hz with rfl|hz;rfl;rw[YM.1 hz];rfl) (by omega);have a0:=n_ 0;have a1:=n_ 1;have a2:=n_ 10;have e0:=by omega
 have e1:=by omega
 have e2:=by omega
 obtain⟨f,rfl⟩:∃f,fuel=f+2:=⟨fuel-2,by omega⟩;refine⟨G3,v',λd k=>?_,f3,o3⟩;rw[aI T.k32 rfl rfl];simp only[go_sem,c32];rw[ak];simp only[go_sem,ZE,Ze,a0,a1,a2,gX,↓z1,hu1,hl1,w1,hG2,↓hap];rw[ak];simp only[go_sem,ZE,a1]
theorem yw(T:aB t){O Q:Nat->Prop}{va vb:V}{a b:List Tx}(hw:H.wf)(hA:zP H O va a)(hB:zP H Q vb b)(ha:a.length<1000)(hb:b.length<1000)(hfu:1000<fuel)(d:Nat)(k:K):aj (aT cp t fuel (d+1)) (.func 90 []) [va,vb] H k=k (.bool (decide (a=b))) H:=by
 have sa:=λ{id}{f}=>hA.sn (id:=id) (f:=f);have sb:=λ{id}{f}=>hB.sn (id:=id) (f:=f);have na:=n_ a.length;have ha9:=l_ a.length;have hb9:=l_ b.length;by_cases hl:a.length=b.length
 .have run:=jT (c:=DI) (fuel:=fuel) (ph:=λd=>aT cp t fuel d) (τ:=Unit) (n:=a.length) (I:=λi _ G=>G=H/\∀j,j<i->a.getD j t0=b.getD j t0) (S:=λi _ e=>af s000 e=va/\af s001 e=vb/\af s005 e=.int 3 i) (J:=λ_ G=>G=H/\a≠b) (Q:=λ_ e=>af s004 e=.bool false) (j:=λ_=>0) (λi _ G hil⟨hG,hno⟩=>by
    subst hG;obtain⟨ba,oa,ca,za,hva,-,-,hra⟩:=hA.open hil;obtain⟨bb,ob,cb,zb,hvb,-,-,hrb⟩:=hB.open (i:=i) (by omega);have hra:=λ{id}{k}=>hra rfl (id:=id) (k:=k);have hrb:=λ{id}{k}=>hrb rfl (id:=id) (k:=k);have hil':i<b.length:=by omega
    have hga:a.getD i t0=a[i]:=by rw[YD,YA hil,YU]
    have hgb:b.getD i t0=b[i]:=by rw[YD,YA hil',YU]
    have hne:a[i]≠b[i]->a≠b:=λh e=>h (by subst e;rfl);generalize a[i]=x at hra hga hne;generalize b[i]=y at hrb hgb hne;simp only[sv]at hra hrb;have a1:=n_ i;have a2:=l_ i;have a3:=m_ (i+1);by_cases hxy:x=y
    .have e1:(x.1=y.1/\x.2=y.2)=True:=by rw[uL];exact eq_true hxy
     refine YH ⟨(),G,⟨rfl,λj hj=>?_⟩,λd kx r e z⟨q0,q1,q5⟩hk=>?_⟩
     .by_cases hji:j<i;.exact hno j hji
      .obtain rfl:j=i:=by omega
       rw[hga,hgb,hxy]
     rw[hva]at q0;rw[hvb]at q1;rw[ak];simp only[go_sem,DI,q0,q1,q5,hil,hil',na,ha9,a1,a2,a3,↓hra,↓hrb,e1,WX];exact hk _ (by simp only[go_sem,q0,q1,hva,hvb,and_self])
    .have e1:(x.1=y.1/\x.2=y.2)=False:=by rw[uL];exact eq_false hxy
     refine YE ⟨(),G,⟨rfl,hne hxy⟩,λd kx r e z⟨q0,q1,q5⟩hk=>?_⟩;rw[hva]at q0;rw[hvb]at q1;rw[ak];simp only[go_sem,DI,q0,q1,q5,hil,hil',na,ha9,a1,a2,↓hra,↓hrb,e1];refine hk _ ?_;simp only[go_sem,↓reduceIte]) a.length 0 () H (by omega) ⟨rfl,λj hj=>by omega⟩;rw[aI T.k45 rfl rfl];simp only[go_sem,c45,↓sa,↓sb,hb9,hl];rcases run with⟨_,G',⟨rfl,hno⟩,z⟩|⟨_,G',⟨rfl,hne⟩,z⟩
  .have heq:=List.ext_getElem hl λi h1 h2=>by have:=hno i h1;rwa[YD,YD,YA h1,YA h2]at this
   rw[decide_eq_true heq];refine z d _ fuel _ _ (by omega) ⟨?_,?_,?_⟩ λr e'⟨q0,q1,q5⟩=>?_;.rfl
   .rfl
   .rfl
   have e6:¬a.length<a.length:=by omega
   rw[ak];simp only[go_sem,DI,q0,q5,↓sa,ha9,na,e6]
  .rw[decide_eq_false hne];refine z d _ fuel _ _ (by omega) ⟨?_,?_,?_⟩ λe' q4=>?_;.rfl
   .rfl
   .rfl
   simp only[go_sem,q4]
 .have hne:¬a=b:=λe=>hl (by rw[e]);rw[decide_eq_false hne,aI T.k45 rfl rfl];simp only[go_sem,c45,↓sa,↓sb,ha9,hb9,hl,not_false_eq_true]
end
structure fU(A:AD)(m:MT)(c:CH):Prop where
 live:m.live.map (cw A)=c.live
 len:m.ae.length=c.ae.length
 sn:∀(i:Nat)(s:Sn)(s':Cn),m.ae[i]?=some s->c.ae[i]?=some s'->s.g=s'.g/\s.hid=s'.hid/\s.bP.map (cw A)=s'.iC
theorem EU{g}:∀{a}{b},a.length=b.length->(∀(i:Nat)(s)(s'),a[i]?=some s->b[i]?=some s'->s.g=s'.g)->qZ a g=cidx b g|[],[],_,_=>rfl|[],_::_,h,_=>by simp_all|_::_,[],h,_=>by simp_all|x::a,y::b,h,hs=>by have h0:=hs 0 x y rfl rfl;have ih:=EU (g:=g) (by simpa using h) λi s s' h1 h2=>hs (i+1) s s' (by simp_all) (by simp_all);unfold qZ cidx at ih⊢;rw[YP0,YP0,h0,ih]
def W7(A:AD)(m:MT)(g:Gd):List Tx:=if(cT m g).2=0then(m.ae.getD (cT m g).1 ⟨(0,0),[],false⟩).bP.map (cw A)else[]
def W6(c:CH)(g:Gd):List Tx:=if(oG c g).2=0then(c.ae.getD (oG c g).1 ⟨[],(0,0),false⟩).iC else[]
theorem fU.find{A:AD}{m:MT}{c:CH}(h:fU A m c)(g:Gd):cT m g=oG c g:=by
 have hi:=EU (g:=g) h.len λi s s' h1 h2=>(h.sn i s s' h1 h2).1;unfold cT oG;rw[hi];rcases hx:cidx c.ae g with _|i;.rfl
 .obtain⟨hlt,-⟩:=vC hx;have hlt':i<m.ae.length:=by rw[h.len];exact hlt
  have:=(h.sn i _ _ (YA hlt') (YA hlt)).2.1;simp only[YD,YA hlt,YA hlt',YU,this]
theorem fU.read{A:AD}{m:MT}{c:CH}(h:fU A m c)(g:Gd):W7 A m g=W6 c g:=by
 unfold W7 W6;rw[h.find g];by_cases h0:(oG c g).2=0
 .rw[if_pos h0,if_pos h0];obtain⟨i,hi,hr,-⟩:=wG h0;have hlt':i<m.ae.length:=by rw[h.len];exact hi
  rw[hr];simp only[YD,YA hi,YA hlt',YU];exact(h.sn i _ _ (YA hlt') (YA hi)).2.2
 .rw[if_neg h0,if_neg h0]
theorem zT8:zT 8=YZ 8 (32,0):=by rfl
theorem fU.prev{A:AD}{m:MT}{c:CH}(h:fU A m c)(h8:m.live.length=8)(hs:c.size=8){i:Nat}(hi:i<m.ae.length):(mB m i).map (cw A)=jr c i:=by
 unfold mB jr;by_cases h0:i=0;.rw[if_pos h0,if_pos h0,h8,hs,zT8,Wc];rfl
 .rw[if_neg h0,if_neg h0];have h1:i-1<m.ae.length:=by omega
  have h2:i-1<c.ae.length:=by rw[<-h.len];exact h1
  simp only[YD,YA h1,YA h2,YU];exact(h.sn (i-1) _ _ (YA h1) (YA h2)).2.2
theorem eqW{id}{w w':Wr}{f}:gu id [1,2] [.int 3 w.1,.str w.2.1 w.2.2] [.int 3 w'.1,.str w'.2.1 w'.2.2] f=f (decide (w=w')):=by
 rw[bU,Ep,cW];obtain⟨a,b,c⟩:=w;obtain⟨a',b',c'⟩:=w';by_cases h1:a=a'
 .by_cases h2:b=b'/\c=c';.simp_all
  .rw[if_pos h1,if_neg h2];congr 1;simp_all
 simp_all
section
variable{cp:RC->au}{t:Nat->Option dr}{fuel:Nat}{H:Heap}
theorem Dv(T:aB t){O Q:Nat->Prop}{va vb v0 v1 v7 v10 v11:V}{p q:List Wr}(hP:Row H O va 2 p.length (bK p))(hQ:Row H Q vb 2 q.length (bK q))(hl:p.length=q.length)(hp:p.length<1000)(hfu:1000<fuel)(d:Nat)(kx:Nat->KE)(e:Env)(x:R)(q0:af s000 e=v0)(q1:af s001 e=v1)(q7:af s007 e=v7)(q10:af s010 e=v10)(q11:af s011 e=v11)(q16:af s016 e=va)(q20:af s020 e=vb)(q22:af s022 e=.int 3 0)(h1:p=q->∀e',af s000 e'=v0->af s001 e'=v1->af s007 e'=v7->af s010 e'=v10->af s011 e'=v11->kx 3 e' H=x)(h2:p≠q->∀e',af s004 e'=.bool false->kx 0 e' H=x):kf zU fuel (aT cp t fuel d) kx fuel e H=x:=by
 have sa:=λ{id}{f}=>hP.sn (id:=id) (f:=f);have na:=n_ p.length;have ha9:=l_ p.length;have run:=jT (c:=zU) (fuel:=fuel) (ph:=λd=>aT cp t fuel d) (τ:=Unit) (n:=p.length) (I:=λi _ G=>G=H/\∀j,j<i->p[j]?=q[j]?) (S:=λi _ e=>af s000 e=v0/\af s001 e=v1/\af s007 e=v7/\af s010 e=v10/\af s011 e=v11/\af s016 e=va/\af s020 e=vb/\af s022 e=.int 3 i) (J:=λ_ G=>G=H/\p≠q) (Q:=λ_ e=>af s004 e=.bool false) (j:=λ_=>0) (λi _ G hil⟨hG,hno⟩=>by
   subst hG;have hil':i<q.length:=by omega
   have hsp:=YA hil;have hsq:=YA hil';obtain⟨ba,oa,ca,za,hva,-,-,hra⟩:=hP.open hil;obtain⟨bb,ob,cb,zb,hvb,-,-,hrb⟩:=hQ.open hil';have hra:=λ{id}{k}=>(hra rfl).1 (id:=id) (k:=k);have hrb:=λ{id}{k}=>(hrb rfl).1 (id:=id) (k:=k);rw[jS hsp]at hra;rw[jS hsq]at hrb;have hne:p[i]≠q[i]->p≠q:=λh e=>h (by subst e;rfl);have hpq:p[i]=q[i]->p[i]?=q[i]?:=λh=>by rw[hsp,hsq,h]
   generalize p[i]=y at hra hne hpq;generalize q[i]=z at hrb hne hpq;have a1:=n_ i;have a2:=l_ i;have a3:=m_ (i+1);by_cases hyz:y=z
   .have e1:∀{id}{f},gu id [1,2] [.int 3 y.1,.str y.2.1 y.2.2] [.int 3 z.1,.str z.2.1 z.2.2] f=f true:=λ{id f}=>by rw[eqW,decide_eq_true hyz]
    refine YH ⟨(),G,⟨rfl,λj hj=>?_⟩,λd kx r e w⟨q0,q1,q7,q10,q11,q16,q20,q22⟩hk=>?_⟩
    .by_cases hji:j<i;.exact hno j hji
     .obtain rfl:j=i:=by omega
      exact hpq hyz
    rw[hva]at q16;rw[hvb]at q20;rw[ak];simp only[go_sem,zU,q16,q20,q22,hil,hil',na,ha9,a1,a2,a3,↓hra,↓hrb,↓bB,↓e1,WX];exact hk _ (by simp only[go_sem,q0,q1,q7,q10,q11,q16,q20,hva,hvb,and_self])
   .have e1:∀{id}{f},gu id [1,2] [.int 3 y.1,.str y.2.1 y.2.2] [.int 3 z.1,.str z.2.1 z.2.2] f=f false:=λ{id f}=>by rw[eqW,decide_eq_false hyz]
    refine YE ⟨(),G,⟨rfl,hne hyz⟩,λd kx r e w⟨q0,q1,q7,q10,q11,q16,q20,q22⟩hk=>?_⟩;rw[hva]at q16;rw[hvb]at q20;rw[ak];simp only[go_sem,zU,q16,q20,q22,hil,hil',na,ha9,a1,a2,↓hra,↓hrb,↓bB,↓e1,YT];refine hk _ ?_;simp only[go_sem,↓reduceIte]) p.length 0 () H (by omega) ⟨rfl,λj hj=>by omega⟩;rcases run with⟨_,G',⟨rfl,hno⟩,z⟩|⟨_,G',⟨rfl,hne⟩,z⟩
 .have heq:=QV λi=>by
   by_cases hi:i<p.length;.exact hno i hi
   .rw[WJ (by omega),WJ (by omega)]
  refine z d kx fuel e x (by omega) ⟨q0,q1,q7,q10,q11,q16,q20,q22⟩ λr e'⟨q0,q1,q7,q10,q11,q16,q20,q22⟩=>?_;have e6:¬p.length<p.length:=by omega
  rw[ak];simp only[go_sem,zU,q16,q22,↓sa,ha9,na,e6];exact h1 heq _ q0 q1 q7 q10 q11
 .exact z d kx fuel e x (by omega) ⟨q0,q1,q7,q10,q11,q16,q20,q22⟩ λe' q4=>h2 hne e' q4
end
theorem Row.nil{H:Heap}{O:Nat->Prop}{sz:Nat}:Row H O .aC sz 0 []:=⟨by simp,λx hx=>(by cases hx),YH ⟨YH rfl,rfl⟩⟩
theorem oR:∀{l}{i}{g},l[i]?=some g->((hU l).drop (i*2)).take 2=aY g|[],i,g,h=>by simp_all|a::l,0,g,h=>by simp at h;subst h;rfl|a::l,i+1,g,h=>by have:=oR (by simpa using h);rw[show(i+1)*2=i*2+2by omega];exact this
structure OM(H0 H:Heap)(dp vp a n:Nat)(A:AD)(O:Nat->Prop)(m:MT)(vl vs vi:V)(p:Nat)(c:CH)(v:V):Prop where
 st:Step H0 (bz O vp) H (bz O vp)vp:VP H dp vp a n A O m vl vs vi
 ch:iZ H p c v
section
variable{H0 H G:Heap}{dp vp a n p:Nat}{A:AD}{O:Nat->Prop}{m:MT}{vl vs vi v:V}{c:CH}
theorem OM.fresh(h:OM H0 H dp vp a n A O m vl vs vi p c v)(f:ah H G):OM H0 G dp vp a n A O m vl vs vi p c v:=⟨h.st.trans f.step,h.vp.fresh f,h.ch.fresh f⟩
theorem OM.step(h:OM H0 H dp vp a n A O m vl vs vi p c v)(hd:∀b,CQ p v b->¬bz O vp b)(s:Step H (bz O vp) G (bz O vp))(S:VP G dp vp a n A O m vl vs vi):OM H0 G dp vp a n A O m vl vs vi p c v:=⟨h.st.trans s,S,(h.ch.cm s hd).1⟩
end
section
variable{cp:RC->au}{t:Nat->Option dr}{fuel:Nat}{H:Heap}
set_option maxRecDepth 4000in theorem UG(T:aB t)(hc:aP t){dp vp a n p:Nat}{A:AD}{O:Nat->Prop}{m:MT}{vl vs vi v:V}{c:CH}(S:VP H dp vp a n A O m vl vs vi)(C:iZ H p c v)(hd:∀b,CQ p v b->¬bz O vp b)(h8:m.live.length=8)(hs:c.size=8)(hll:∀q∈m.live,q<A.len)(hlp:∀s∈m.ae,∀q∈s.bP,q<A.len)(hil:∀s∈m.ae,s.bP.length=m.live.length)(hfu:1000<fuel):∃H' b,(∀(d:Nat)(k:K),aj (aT cp t fuel (d+6)) (.func 24 []) [.ptr vp 0,.ptr p 0] H k=k (.bool b) H')/\OM H H' dp vp a n A O m vl vs vi p c v/\(fU A m c->b=true):=by
 have hn0:=S.ok.num;have hcn:=C.ok.n;have hc8:∀l:List Tx,l.length=8->l.take c.size=l:=λl hl=>by rw[hs,Yi (by omega)]
 obtain⟨G1,x1,z1o,s1,S1,o1⟩:=Nq (cp:=cp) T hc S hll hfu;have z1:=λ{d:Nat}{k:K}=>z1o d k;clear z1o;have V1:OM H G1 dp vp a n A O m vl vs vi p c v:=(OM.mk (Step.refl S.cO.wf) S C).step hd s1 S1;obtain⟨G2,y2,z2o,f2,o2⟩:=Ib (cp:=cp) (fuel:=fuel) T V1.ch;have z2:=λ{d:Nat}{k:K}=>z2o (d+2) k;clear z2o;have V2:=V1.fresh f2;rw[hc8 _ C.ok.l8]at o2;have hX1:zP G2 (bz O vp) x1 (m.live.map (cw A)):=by have:=(o1.toRow (O:=bz O vp) S.lt).fresh f2;unfold zP;rw[Yj,List.map_map];exact this
 have hY2:zP G2 (bz O vp) y2 c.live:=by have:=o2.toRow (O:=bz O vp) S1.lt;unfold zP;rw[C.ok.l8];rw[hs]at this;exact this
 have z3:=λ{d:Nat}{k:K}=>yw (cp:=cp) (fuel:=fuel) T V2.vp.cO.wf hX1 hY2 (by rw[Yj];omega) (by rw[C.ok.l8];omega) hfu d k;have z3:=λ{d:Nat}{k:K}=>z3 (d:=d+4) (k:=k);have nl:=n_ m.ae.length;have n9:=l_ m.ae.length;have c9:=l_ c.ae.length;by_cases hlv:m.live.map (cw A)=c.live;rotate_left;.rw[decide_eq_false hlv]at z3;refine⟨G2,false,λd k=>?_,V2,λh=>absurd h.live hlv⟩;rw[aI T.k12 rfl rfl];simp only[go_sem,c12,DA,DB,↓z1,↓z2,↓z3]
 rw[decide_eq_true hlv]at z3;obtain⟨G3,vL,z4o,f3,o3⟩:=rB (cp:=cp) (fuel:=fuel) T V2.vp hfu;have z4:=λ{d:Nat}{k:K}=>z4o (d+4) k;clear z4o;have V3:=V2.fresh f3;obtain⟨G4,vM,z5o,f4,o4⟩:=DY (cp:=cp) (fuel:=fuel) T V3.ch hfu;have z5:=λ{d:Nat}{k:K}=>z5o (d+3) k;clear z5o;have V4:=V3.fresh f4;have hL4:Row G4 (bz O vp) vL 2 m.ae.length (hU (m.ae.map (·.g))):=(o3.toRow (O:=bz O vp) V2.vp.lt).fresh f4;have hM4:Row G4 (bz O vp) vM 2 c.ae.length (hU (c.ae.map (·.g))):=o4.toRow (O:=bz O vp) V3.vp.lt;have sL:=λ{id:Nat}{f:Nat->R}=>hL4.sn (id:=id) (f:=f);have sM:=λ{id:Nat}{f:Nat->R}=>hM4.sn (id:=id) (f:=f);by_cases hlen:m.ae.length=c.ae.length;rotate_left;.refine⟨G4,false,λd k=>?_,V4,λh=>absurd h.len hlen⟩;rw[aI T.k12 rfl rfl];simp only[go_sem,c12,DA,DB,↓z1,↓z2,↓z3];simp only[go_sem,Ke,Kf,↓z4,↓z5,↓sL,↓sM,n9,c9,hlen,not_false_eq_true]
 have run:=jT (c:=rT) (fuel:=fuel) (ph:=λd=>aT cp t fuel (d+5)) (σ:=Unit) (τ:=Unit) (n:=m.ae.length) (I:=λi _ G=>OM H G dp vp a n A O m vl vs vi p c v/\Row G (bz O vp) vL 2 m.ae.length (hU (m.ae.map (·.g)))/\Row G (bz O vp) vM 2 c.ae.length (hU (c.ae.map (·.g)))) (S:=λi _ e=>af s000 e=.ptr vp 0/\af s001 e=.ptr p 0/\af s007 e=vL/\af s010 e=vM/\af s011 e=.int 3 i) (J:=λ_ G=>OM H G dp vp a n A O m vl vs vi p c v/\¬fU A m c) (Q:=λ_ e=>af s004 e=.bool false) (j:=λ_=>0) (λi _ G hlt⟨Vc,hL,hM⟩=>by
   have hlt':i<c.ae.length:=by omega
   have hsi:m.ae[i]?=some m.ae[i]:=YA hlt;have hci:c.ae[i]?=some c.ae[i]:=YA hlt';have hgi:(m.ae.map (·.g))[i]?=some m.ae[i].g:=by rw[Yq,hsi];rfl
   have hgi':(c.ae.map (·.g))[i]?=some c.ae[i].g:=by rw[Yq,hci];rfl
   have hdis:fU A m c->m.ae[i].g=c.ae[i].g/\m.ae[i].bP.map (cw A)=c.ae[i].iC:=λh=>⟨(h.sn i _ _ hsi hci).1,(h.sn i _ _ hsi hci).2.2⟩;have hmi:=hil _ (YP hlt);have hcv:=C.ok.v8 _ (YP hlt');have a1:=n_ i;have a2:=l_ i;have a3:=m_ (i+1);obtain⟨bL,oL,cL,zL,hvL,hbL,hnL,hrL⟩:=hL.open hlt;obtain⟨bM,oM,cM,zM,hvM,hbM,hnM,hrM⟩:=hM.open hlt';rw[oR hgi]at hrL;rw[oR hgi']at hrM;have hrL0:=λ{id:Nat}{k:List V->R}=>(hrL (G:=G) rfl).1 (id:=id) (k:=k);obtain⟨H1,x,y1o,t1,U1,hx0,hx1⟩:=J0 (cp:=cp) (fuel:=fuel) (g:=m.ae[i].g) T hc Vc.vp hlp hfu;have y1:=λ{d:Nat}{k:K}=>y1o d k;clear y1o;have W1:=Vc.step hd t1 U1;have hX1:zP H1 (bz O vp) x (W7 A m m.ae[i].g):=by
    unfold W7;by_cases h0:(cT m m.ae[i].g).2=0;.obtain⟨j,hj,hr,-⟩:=kE h0;have hjj:m.ae[j]?=some m.ae[j]:=YA hj;have:=(hx1 j _ hr hjj).toRow (O:=bz O vp) Vc.vp.lt;rw[if_pos h0,hr];simp only[YD,hjj,YU];unfold zP;rw[Yj,List.map_map];exact this
    .rw[if_neg h0,hx0 h0];exact Row.nil
   have hrM1:=λ{id:Nat}{k:List V->R}=>(hrM (t1.same _ hbM hnM).1).1 (id:=id) (k:=k);obtain⟨H2,y,y2o,t2,hy0,hy1⟩:=Ig (cp:=cp) (fuel:=fuel) (g:=c.ae[i].g) T W1.ch hfu;have y2':=λ{d:Nat}{k:K}=>y2o (d+1) k;clear y2o;have W2:=W1.fresh t2;have hY2':zP H2 (bz O vp) y (W6 c c.ae[i].g):=by
    unfold W6;by_cases h0:(oG c c.ae[i].g).2=0;.obtain⟨j,hj,hr,-⟩:=wG h0;have hjj:c.ae[j]?=some c.ae[j]:=YA hj;have:=(hy1 j _ hr hjj).toRow (O:=bz O vp) W1.vp.lt;have hj8:=C.ok.v8 _ (YP hj);rw[hc8 _ hj8]at this;rw[if_pos h0,hr];simp only[YD,hjj,YU];unfold zP;rw[hj8,<-hs];exact this
    .rw[if_neg h0,hy0 h0];exact Row.nil
   obtain⟨H3,x3,y3o,t3,U3,-,hx3⟩:=zN (cp:=cp) (fuel:=fuel) (i:=i) T hc W2.vp a1 hlp hil hfu;have y3:=λ{d:Nat}{k:K}=>y3o d k;clear y3o;have W3:=W2.step hd t3 U3;obtain⟨H4,x4,y4o,t4,-,hx4⟩:=yR (cp:=cp) (fuel:=fuel) (i:=i) T W3.ch a1 hfu;have y4:=λ{d:Nat}{k:K}=>y4o (d+3) k;clear y4o;have W4:=W3.fresh t4;rw[if_pos hlt]at y3;rw[if_pos hlt']at y4;have t23:Step H2 (bz O vp) H4 (bz O vp):=t3.trans t4.step;have t14:Step H1 (bz O vp) H4 (bz O vp):=t2.step.trans t23;have t04:Step G (bz O vp) H4 (bz O vp):=t1.trans t14;have hXr:zP H4 (bz O vp) x (W7 A m m.ae[i].g):=hX1.cm t14;have hYr:zP H4 (bz O vp) y (W6 c c.ae[i].g):=hY2'.cm t23;have hP:Row H4 (bz O vp) x3 2 _ _:=((hx3 _ hsi).toRow (O:=bz O vp) W2.vp.lt).fresh t4;have hQ:Row H4 (bz O vp) x4 2 _ _:=(hx4 _ hci).toRow (O:=bz O vp) W3.vp.lt;have hrL4:=λ{id:Nat}{k:List V->R}=>(hrL (t04.same _ hbL hnL).1).1 (id:=id) (k:=k);have hrM4:=λ{id:Nat}{k:List V->R}=>(hrM (t04.same _ hbM hnM).1).1 (id:=id) (k:=k);have sP:=λ{id:Nat}{f:Nat->R}=>hP.sn (id:=id) (f:=f);have sQ:=λ{id:Nat}{f:Nat->R}=>hQ.sn (id:=id) (f:=f);have hagP:fU A m c->Dc ((mB m i).map (cw A)) (m.ae[i].bP.map (cw A))=Dc (jr c i) c.ae[i].iC:=λh=>by rw[h.prev h8 hs hlt,(hdis h).2]
   have hlP:=mb ((mB m i).map (cw A)) (m.ae[i].bP.map (cw A)) (m.ae[i].bP.map (cw A)).length;have hlQ:=mb (jr c i) c.ae[i].iC c.ae[i].iC.length;rw[Yj]at hlP;have hlP':(Dc ((mB m i).map (cw A)) (m.ae[i].bP.map (cw A))).length<=m.ae[i].bP.length:=by unfold Dc;rw[Yj];exact hlP
   have hlQ':(Dc (jr c i) c.ae[i].iC).length<=c.ae[i].iC.length:=hlQ;generalize Dc ((mB m i).map (cw A)) (m.ae[i].bP.map (cw A))=P at hP sP hagP hlP';generalize Dc (jr c i) c.ae[i].iC=Q at hQ sQ hagP hlQ';have hrdl:(W7 A m m.ae[i].g).length<1000:=by
    unfold W7;split;.rename_i h0;obtain⟨j,hj,hr,-⟩:=kE h0;rw[hr];simp only[YD,YA hj,YU];rw[Yj,hil _ (YP hj)];omega
    .simp
   have hrdl':(W6 c c.ae[i].g).length<1000:=by
    unfold W6;split;.rename_i h0;obtain⟨j,hj,hr,-⟩:=wG h0;rw[hr];simp only[YD,YA hj,YU];rw[C.ok.v8 _ (YP hj)];omega
    .simp
   have y5:=λ{d:Nat}{k:K}=>yw (cp:=cp) (fuel:=fuel) T W4.vp.cO.wf hXr hYr hrdl hrdl' hfu (d+4) k;have hfind:fU A m c->(cT m m.ae[i].g).2=(oG c c.ae[i].g).2:=λh=>by rw[h.find,(hdis h).1]
   have hread:fU A m c->W7 A m m.ae[i].g=W6 c c.ae[i].g:=λh=>by rw[h.read,(hdis h).1]
   have hPl:=l_ P.length;have hQl:=l_ Q.length;have hgg:=λh=>(hdis h).1;have fa:=(Ex (g:=m.ae[i].g) hn0).2;have fb:=(aaI (g:=c.ae[i].g) hcn).2;generalize(cT m m.ae[i].g).2=ea at y1 hfind fa;generalize(oG c c.ae[i].g).2=eb at y2' hfind fb;generalize W7 A m m.ae[i].g=ta at y5 hread;generalize W6 c c.ae[i].g=tb at y5 hread;generalize m.ae[i].g=ga at hrL0 hrL4 y1 hgg;generalize c.ae[i].g=gb at hrM1 hrM4 y2' hgg;simp only[aY]at hrL0 hrL4 y1 hrM1 hrM4 y2';by_cases d1:ga=gb;rotate_left;.have e1:∀{id:Nat}{f:Bool->R},gu id [1,1] [.int 7 ga.1,.int 7 ga.2] [.int 7 gb.1,.int 7 gb.2] f=f false:=λ{id f}=>Va d1;refine YE ⟨(),H4,⟨W4,λh=>d1 (hgg h)⟩,λd kx r e w⟨q0,q1,q7,q10,q11⟩hk=>?_⟩;rw[hvL]at q7;rw[hvM]at q10;rw[ak];simp only[go_sem,rT,q0,q1,q7,q10,q11,n9,nl,a1,a2,hlt,hlt',↓hrL0,↓y1,↓hrM1,↓y2',↓y3,↓y4,↓hrL4,↓hrM4,↓bB,↓e1,YT];refine hk _ ?_;show af _ _=_;simp only[go_sem,↓reduceIte]
   have e1:∀{id:Nat}{f:Bool->R},gu id [1,1] [.int 7 ga.1,.int 7 ga.2] [.int 7 gb.1,.int 7 gb.2] f=f true:=λ{id f}=>MS d1;by_cases d2:ea=eb;rotate_left;.refine YE ⟨(),H4,⟨W4,λh=>d2 (hfind h)⟩,λd kx r e w⟨q0,q1,q7,q10,q11⟩hk=>?_⟩;rw[hvL]at q7;rw[hvM]at q10;rw[ak];simp only[go_sem,rT,q0,q1,q7,q10,q11,n9,nl,a1,a2,hlt,hlt',↓hrL0,↓y1,↓hrM1,↓y2',↓y3,↓y4,↓hrL4,↓hrM4,↓bB,↓e1,WX,d2,not_false_eq_true];refine hk _ ?_;show af _ _=_;simp only[go_sem,↓reduceIte]
   subst d2;by_cases d3:ta=tb;rotate_left;.rw[decide_eq_false d3]at y5;refine YE ⟨(),H4,⟨W4,λh=>d3 (hread h)⟩,λd kx r e w⟨q0,q1,q7,q10,q11⟩hk=>?_⟩;rw[hvL]at q7;rw[hvM]at q10;rw[ak];simp only[go_sem,rT,q0,q1,q7,q10,q11,n9,nl,a1,a2,hlt,hlt',↓hrL0,↓y1,↓hrM1,↓y2',↓y3,↓y4,↓hrL4,↓hrM4,↓bB,↓e1,WX,↓y5];refine hk _ ?_;show af _ _=_;simp only[go_sem,↓reduceIte]
   rw[decide_eq_true d3]at y5;by_cases d4:P.length=Q.length;rotate_left;.refine YE ⟨(),H4,⟨W4,λh=>d4 (by rw[hagP h])⟩,λd kx r e w⟨q0,q1,q7,q10,q11⟩hk=>?_⟩;rw[hvL]at q7;rw[hvM]at q10;rw[ak];simp only[go_sem,rT,q0,q1,q7,q10,q11,n9,nl,a1,a2,hlt,hlt',↓hrL0,↓y1,↓hrM1,↓y2',↓y3,↓y4,↓hrL4,↓hrM4,↓bB,↓e1,WX,↓y5,↓sP,↓sQ,hPl,hQl,d4,not_false_eq_true];refine hk _ ?_;show af _ _=_;simp only[go_sem,↓reduceIte]
   by_cases d5:P=Q
   .refine YH ⟨(),H4,⟨W4,hL.cm t04,hM.cm t04⟩,λd kx r e w⟨q0,q1,q7,q10,q11⟩hk=>?_⟩;rw[hvL]at q7;rw[hvM]at q10;rw[ak];simp only[go_sem,rT,q0,q1,q7,q10,q11,n9,nl,a1,a2,hlt,hlt',↓hrL0,↓y1,↓hrM1,↓y2',↓y3,↓y4,↓hrL4,↓hrM4,↓bB,↓e1,WX,↓y5,↓sP,↓sQ,hQl,d4];refine Dv (va:=x3) (vb:=x4) (v0:=.ptr vp 0) (v1:=.ptr p 0) (v7:=vL) (v10:=vM) (v11:=.int 3 i) T hP hQ d4 (by omega) hfu (d+5) _ _ _ ?_ ?_ ?_ ?_ ?_ ?_ ?_ ?_ (λ_ e' q0 q1 q7 q10 q11=>?_) (λh=>absurd d5 h);.exact q0
    .exact q1
    .simp only[go_sem,q7,hvL]
    .simp only[go_sem,q10,hvM]
    .exact q11
    .rfl
    .rfl
    .rfl
    simp only[go_sem,q11,a3];exact hk _ (by simp only[go_sem,q0,q1,q7,q10,and_self])
   .refine YE ⟨(),H4,⟨W4,λh=>d5 (hagP h)⟩,λd kx r e w⟨q0,q1,q7,q10,q11⟩hk=>?_⟩;rw[hvL]at q7;rw[hvM]at q10;rw[ak];simp only[go_sem,rT,q0,q1,q7,q10,q11,n9,nl,a1,a2,hlt,hlt',↓hrL0,↓y1,↓hrM1,↓y2',↓y3,↓y4,↓hrL4,↓hrM4,↓bB,↓e1,WX,↓y5,↓sP,↓sQ,hQl,d4];refine Dv (va:=x3) (vb:=x4) (v0:=.ptr vp 0) (v1:=.ptr p 0) (v7:=vL) (v10:=vM) (v11:=.int 3 i) T hP hQ d4 (by omega) hfu (d+5) _ _ _ ?_ ?_ ?_ ?_ ?_ ?_ ?_ ?_ (λh=>absurd h d5) (λ_ e' q4=>?_);.exact q0
    .exact q1
    .simp only[go_sem,q7,hvL]
    .simp only[go_sem,q10,hvM]
    .exact q11
    .rfl
    .rfl
    .rfl
    simp only[go_sem];exact hk _ q4) m.ae.length 0 () G4 (by omega) ⟨V4,hL4,hM4⟩;rcases run with⟨_,G',⟨V',-,-⟩,z⟩|⟨_,G',⟨V',hna⟩,z⟩
 .refine⟨G',true,λd k=>?_,V',λ_=>rfl⟩;rw[aI T.k12 rfl rfl];simp only[go_sem,c12,DA,DB,↓z1,↓z2,↓z3];simp only[go_sem,Ke,Kf,↓z4,↓z5,↓sL,↓sM,c9,hlen];simp only[go_sem,PA];refine z d _ fuel _ _ (by omega) ⟨?_,?_,?_,?_,?_⟩ λr e'⟨q0,q1,q7,q10,q11⟩=>?_;.rfl
  .rfl
  .rfl
  .rfl
  .rfl
  have e6:¬m.ae.length<m.ae.length:=by omega
  rw[ak];simp only[go_sem,rT,q7,q11,↓sL,n9,nl,e6,XV,XW]
 .refine⟨G',false,λd k=>?_,V',λh=>absurd h hna⟩;rw[aI T.k12 rfl rfl];simp only[go_sem,c12,DA,DB,↓z1,↓z2,↓z3];simp only[go_sem,Ke,Kf,↓z4,↓z5,↓sL,↓sM,c9,hlen];simp only[go_sem,PA];refine z d _ fuel _ _ (by omega) ⟨?_,?_,?_,?_,?_⟩ λe' q4=>?_;.rfl
  .rfl
  .rfl
  .rfl
  .rfl
  simp only[go_sem,q4]
end
theorem EH(cs):(cI cs).Nodup:=List.Pairwise.filter _ YJ3
theorem M9{cs}{i}(h:i∈cI cs):193<=i/\i<cs.length/\cs[i]?=some 0:=by unfold cI at h;rw[Wp,QD,decide_eq_true_eq]at h;exact⟨h.2.1,h.1,h.2.2⟩
theorem xp{m}{n i}{cs}(h:i∈fZ m n cs):193<=i/\i<n/\∀l∈cU m,i∉l:=by obtain⟨h1,h2,h3⟩:=M9 (WI h);unfold eK at h2 h3;rw[dB]at h2;rw[oH h2,Option.some.injEq,YD0]at h3;refine⟨h1,h2,λl hl hi=>h3 ?_⟩;unfold nz;rw[Wp,List.mem_flatten];exact⟨⟨l,hl,hi⟩,by simp;omega⟩
theorem xq{m}{n}{cs}:(fZ m n cs).Nodup:=(EH _).sublist (YQ1 _ _)
theorem EE{m}{n}{cs}(h:¬(cI (eK m n)).length<fv cs cs.length):(fZ m n cs).length=fv cs cs.length:=by unfold fZ;simp_all
theorem Cq{cs}{fr}:∀{i j},j<i->(xY cs fr i)[j]?=some (if(cs.getD j (0,(32,0))).2=(32,0)then 0 else fr.getD (fv cs j) 0)
 |0,j,h=>by omega|i+1,j,h=>by
  simp only[xY];by_cases hj:j<i;.rw[Yp (by rw[nh];omega)];exact Cq hj
  .obtain rfl:j=i:=by omega
   rw[Yl (by rw[nh];omega),nh,QG];rfl
theorem K9{cs}{fr}{w}:∀{i},w∈Dd cs fr i->∃j,j<i/\(cs.getD j (0,(32,0))).2≠(32,0)/\w=(fr.getD (fv cs j) 0,(cs.getD j (0,(32,0))).2)
 |0,h=>by cases h|i+1,h=>by
  rcases Yo.1 h with h|h;.obtain⟨j,h1,h2⟩:=K9 h;exact⟨j,by omega,h2⟩
  .split at h;.cases h
   .rename_i hne;exact⟨i,by omega,hne,YM.1 h⟩
theorem Th{cs:List Wr}{fr}:∀{i j},j<i->(cs.getD j (0,(32,0))).2≠(32,0)->((fr.getD (fv cs j) 0,(cs.getD j (0,(32,0))).2):Wr)∈Dd cs fr i
 |0,j,h,_=>by omega|i+1,j,h,hne=>by
  simp only[Dd];by_cases hj:j<i;.exact QK _ (Th hj hne)
  .obtain rfl:j=i:=by omega
   simp_all
theorem I9{cs:List Wr}{i j}(h:j<i)(hne:(cs.getD j (0,(32,0))).2≠(32,0)):fv cs j<fv cs i:=by
 have h1:fv cs (j+1)=fv cs j+1:=by simp only[fv,if_neg hne]
 have h2:=xS (cs:=cs) (i:=j+1) h;omega
theorem FK{cs}{fr}:∀{i},fv cs i<=fr.length->(Dd cs fr i).map (·.1)=fr.take (fv cs i)
 |0,_=>rfl|i+1,h=>by
  simp only[Dd,fv]at h⊢;rw[Yz,FK (by omega)];by_cases hz:(cs.getD i (0,(32,0))).2=(32,0);.simp_all
  .rw[if_neg hz]at h;rw[if_neg hz,if_neg hz,Qj,YD,YA (show fv cs i<fr.length by omega)];rfl
structure eP(m:MT)(n:Nat)(cs:List Wr):Prop where
 room:¬(cI (eK m n)).length<fv cs cs.length
 ok:∀c∈cs,c.2.1=32/\sO c.2
theorem eP.fr{m:MT}{n:Nat}{cs:List Wr}(h:eP m n cs){j:Nat}(hj:j<cs.length)(hne:(cs.getD j (0,(32,0))).2≠(32,0)):∃q,(fZ m n cs)[fv cs j]?=some q/\(fZ m n cs).getD (fv cs j) 0=q/\q∈fZ m n cs:=by
 have h1:=EE h.room;have h2:=I9 hj hne;have h3:fv cs j<(fZ m n cs).length:=by omega
 exact⟨(fZ m n cs)[fv cs j],YA h3,by rw[YD,YA h3];rfl,YP h3⟩
def pW(m:MT)(n:Nat)(cs:List Wr):List Wr:=Dd cs (fZ m n cs) cs.length
def pA(m:MT)(n:Nat)(cs:List Wr):List Nat:=xY cs (fZ m n cs) cs.length
theorem eP.w{m:MT}{n:Nat}{cs:List Wr}(h:eP m n cs){w:Wr}(hw:w∈pW m n cs):193<=w.1/\w.1<n/\w.2.1=32/\sO w.2/\∀l∈cU m,w.1∉l:=by
 obtain⟨j,hj,hne,rfl⟩:=K9 hw;obtain⟨q,h1,h2,h3⟩:=h.fr hj hne;obtain⟨g1,g2,g3⟩:=xp h3;have hc:cs.getD j (0,(32,0))∈cs:=by rw[YD,YA hj];exact YP hj
 obtain⟨k1,k2⟩:=h.ok _ hc;rw[h2];exact⟨g1,g2,k1,k2,g3⟩
theorem eP.nodup{m:MT}{n:Nat}{cs:List Wr}(h:eP m n cs):((pW m n cs).map (·.1)).Nodup:=by unfold pW;rw[FK (by rw[EE h.room];exact YC _)];exact xq.sublist (YQ1 _ _)
theorem eP.len{m:MT}{n:Nat}{cs:List Wr}:(pW m n cs).length<=cs.length:=by unfold pW;rw[vR];exact kM _ _
theorem eP.read{m:MT}{n:Nat}{cs:List Wr}(h:eP m n cs){A':AD}(hA:∀w∈pW m n cs,A'.read w.1=w.2){j:Nat}(hj:j<cs.length):∃q,(pA m n cs)[j]?=some q/\cw A' q=(cs.getD j (0,(32,0))).2/\(q=0\/193<=q/\q<n/\(q∈fZ m n cs)/\(fZ m n cs)[fv cs j]?=some q/\(cs.getD j (0,(32,0))).2≠(32,0)):=by
 unfold pA;rw[Cq hj];by_cases hz:(cs.getD j (0,(32,0))).2=(32,0);.rw[if_pos hz];exact⟨0,rfl,by rw[hz];rfl,YH rfl⟩
 .rw[if_neg hz];obtain⟨q,h1,h2,h3⟩:=h.fr hj hz;obtain⟨g1,g2,g3⟩:=xp h3;have hin:=hA _ (Th (fr:=fZ m n cs) hj hz);rw[h2]at hin⊢;refine⟨q,rfl,?_,YE ⟨g1,g2,h3,h1,hz⟩⟩;unfold cw;rw[if_neg (by omega)];exact hin
theorem qt.pl{t:Tk}{last:Gd}{b n:Nat}(h:qt t last b n):∀q∈t.bP,q=0\/193<=q/\q<n:=by
 unfold qt at h;split at h;.rw[h.2.2.2];exactλq hq=>by cases hq
 .exact h.2.2.2.2.2.pl
theorem fX.pl{m:MT}{b n:Nat}(h:fX m b n):∀l∈cU m,∀q∈l,q=0\/193<=q/\q<n:=by
 intro l hl q hq;unfold cU at hl;rcases YS.1 hl with rfl|hl;.exact h.live.pl q hq
 rcases YS.1 hl with rfl|hl;.exact h.tok.pl q hq
 .obtain⟨s,hs,rfl⟩:=Ye.1 hl;exact(h.ae.mem hs).pl q hq
structure jB where
 e0:Nat
 m1:MT
 bw:List Wr
structure fW(A:AD)(m:MT)(o:jB)(c':CH):Prop where
 ok:fX o.m1 8 A.len
 yG:jH o.m1
 l8:o.m1.live.length=8bw:∀w∈o.bw,193<=w.1/\w.1<A.len/\w.2.1=32/\sO w.2/\∀l∈cU m,w.1∉l
 nd:(o.bw.map (·.1)).Nodup
 len:o.bw.length<=12s8:c'.size=8ag:∀A':AD,(∀w∈o.bw,A'.read w.1=w.2)->(∀l∈cU m,∀q∈l,cw A' q=cw A q)->fU A' o.m1 c'
structure VI(pk:List UInt8->List (List UInt8))(A:AD)(a n:Nat)(us:List Wr)(m:MT)(c:CH):Prop where
 jd:JD pk A a n us
 lo:193<=A.len
 hi:A.len<=1024room:A.len<=A.room
 l8:m.live.length=8ok:fX m 8 A.len
 yG:jH m
 rH:Lt A (pk (bq (mW m)))s8:c.size=8ag:fU A m c
structure Chg(pk:List UInt8->List (List UInt8))(A:AD)(m':MT)(bw:List Wr)(g:Nat->Option Tx):Prop where rH:∀i(h:i<(pk (bq (mW m'))).length),(g (145+i)).getD (32,0)=tx (pk (bq (mW m')))[i]wr:∀w∈bw,(g w.1).getD (32,0)=w.2other:∀q,193<=q->q∉bw.map (·.1)->(g q).getD (32,0)=A.read q
variable{pk:List UInt8->List (List UInt8)}{unpk:List (List UInt8)->Option (List UInt8)}
theorem Ah(F:bC pk unpk){nb}{A}{m'}{bw}(hlo:193<=A.len)(hi:A.len<=1024)(Y:fX m' nb A.len)(h8:m'.live.length=nb)(hbw:∀w∈bw,193<=w.1/\w.1<A.len/\w.2.1=32/\sO w.2)(hnd:(bw.map (·.1)).Nodup)(hbl:bw.length<=12):(po m').2=0/\(Rq pk A m' bw).length<=60/\iu A.len [] (Rq pk A m' bw)=true/\(∀w∈Rq pk A m' bw,sO w.2)/\Chg pk A m' bw (find (laid A.es (Rq pk A m' bw))):=by
 have hY:=Y.mono hi;have henc:=by
  have:fX m' m'.live.length 1024:=by rw[h8];omega
  exact this.enc
 have htl:=Y.text hi;have hsz:=F.size (bq (mW m')) (by omega);have h32:=F.len (bq (mW m')) (by omega);unfold Rq;rw[henc];generalize hss:pk (bq (mW m'))=ss at hsz h32;have hl:=rX A ss ss.length;have hd:∀w∈iI A ss ss.length,145<=w.1/\w.1<193/\w.2.1=32/\sO w.2:=λw hw=>by obtain⟨j,hj,rfl⟩:=oK hw;have:(ss.getD j []).length=32:=h32 _ (by rw[YD,YA hj];exact YP _);exact⟨by omega,by omega,this,iM _⟩
 have hnd':((iI A ss ss.length++bw).map (·.1)).Nodup:=by rw[Yz];refine QW.2 ⟨qS _,hnd,λx hx y hy=>?_⟩;obtain⟨w,hw,rfl⟩:=Ye.1 hx;obtain⟨v,hv,rfl⟩:=Ye.1 hy;have:=(hd w hw).2.1;have:=(hbw v hv).1;omega
 refine⟨rfl,by simp only[YB];omega,Ca (λw hw=>⟨?_,λh=>(by cases h)⟩) hnd',λw hw=>(Yo.1 hw).elim (λh=>(hd w h).2.2.2) λh=>(hbw w h).2.2.2,⟨λi h=>?_,λw hw=>?_,λq h1 h2=>?_⟩⟩
 .rcases Yo.1 hw with h|h;.obtain⟨a1,a2,a3,-⟩:=hd w h;exact⟨a1,by omega,a3⟩
  .obtain⟨a1,a2,a3,-⟩:=hbw w h;exact⟨by omega,a2,a3⟩
 .subst hss;rw[jo,dz (λhk=>by obtain⟨v,hv,e⟩:=Ye.1 hk;have:=(hbw v hv).1;omega)];have:=MH (B:={A with es:=laid A.es (iI A (pk (bq (mW m'))) (pk (bq (mW m'))).length)}) (λk _=>rfl) h;rw[YD,YA h,YU]at this;exact this
 .rw[jo,fj hnd hw];rfl
 .rw[jo,dz h2,dz (λhk=>by obtain⟨v,hv,e⟩:=Ye.1 hk;have:=(hd v hv).2.1;omega)];rfl
theorem Chg.congr{A:AD}{m':MT}{bw:List Wr}{g g':Nat->Option Tx}(h:Chg pk A m' bw g)(e:∀k,145<=k->g' k=g k)(hb:∀w∈bw,193<=w.1):Chg pk A m' bw g':=⟨λi hi=>by rw[e _ (by omega)];exact h.rH i hi,λw hw=>by rw[e _ (by have:=hb w hw;omega)];exact h.wr w hw,λq h1 h2=>by rw[e _ (by omega)];exact h.other q h1 h2⟩
theorem fW.holds{A B:AD}{m:MT}{o:jB}{c c':CH}{a n a' n':Nat}{us us':List Wr}(I:VI pk A a n us m c)(G:fW A m o c')(J:JD pk B a' n' us')(hl:B.len=A.len)(hr:B.room=A.room)(h:Chg pk A o.m1 o.bw (find B.es)):VI pk B a' n' us' o.m1 c':=by
 refine⟨J,by rw[hl];exact I.lo,by rw[hl];exact I.hi,by rw[hl,hr];exact I.room,G.l8,by rw[hl];exact G.ok,G.yG,⟨λi hi=>h.rH i hi⟩,G.s8,G.ag B (λw hw=>h.wr w hw) λl hlm q hq=>?_⟩;unfold cw;rcases I.ok.pl l hlm q hq with rfl|⟨h1,h2⟩;.rw[if_pos rfl,if_pos rfl]
 .rw[if_neg (by omega),if_neg (by omega)];exact h.other q h1 λhk=>by obtain⟨w,hw,rfl⟩:=Ye.1 hk;exact(G.bw w hw).2.2.2.2 l hlm hq
theorem fW.done(F:bC pk unpk){A:AD}{m:MT}{o:jB}{c c':CH}{a n:Nat}{us:List Wr}(I:VI pk A a n us m c)(hf:A.aX=0)(G:fW A m o c'):(j8 pk A a o.m1 o.bw).2=0/\(j8 pk A a o.m1 o.bw).1.aX=0/\(j8 pk A a o.m1 o.bw).1.len=A.len/\(j8 pk A a o.m1 o.bw).1.room=A.room/\∃a' n' us',VI pk (j8 pk A a o.m1 o.bw).1 a' n' us' o.m1 c':=by
 obtain⟨h1,h2,h3,h4,h5⟩:=Ah F I.lo I.hi G.ok G.l8 (λw hw=>let⟨a1,a2,a3,a4,_⟩:=G.bw w hw;⟨a1,a2,a3,a4⟩) G.nd G.len;have hR:j8 pk A a o.m1 o.bw=A.ep pk a (Rq pk A o.m1 o.bw):=by unfold j8;rw[if_pos h1]
 rw[hR];have hcode:=I.jd.code F hf I.room h4;have hdid:=I.jd.ep F hf h4;have h0:(A.ep pk a (Rq pk A o.m1 o.bw)).2=0:=by
  rw[hcode];unfold Ev.code;split;.rfl
  .rw[if_neg (by omega),if_neg (by rw[h3];simp)]
 obtain⟨a',n',us',J'⟩:=hdid.jd;exact⟨h0,hdid.aX,hdid.len,hdid.room,a',n',us',G.holds I J' hdid.len hdid.room (h5.congr (λk hk=>(hdid.yes h0).1 k hk) λw hw=>(G.bw w hw).1)⟩
end Go.Ev
end
section
namespace Go.Ev
theorem SS{l}{x}:x∈nz l↔x∈l/\x≠0:=by unfold nz;simp
theorem jX:∀{l:List Nat},(nz l).Nodup↔∀(i j x:Nat),i<j->l[i]?=some x->l[j]?=some x->x=0
 |[]=>by simp[nz]|p::l=>by
  rw[K2];by_cases p0:p=0
  .rw[if_pos p0,jX];constructor;.intro h i j x hij hi hj;cases i with|zero=>simp_all|succ i=>cases j with|zero=>omega|succ j=>exact h i j x (by omega) (by simp_all) (by simpa using hj)
   .intro h i j x hij hi hj;exact h (i+1) (j+1) x (by omega) (by simp_all) (by simp_all)
  .rw[if_neg p0,List.nodup_cons,jX,SS];constructor;.rintro⟨h0,h⟩i j x hij hi hj;cases j with|zero=>omega|succ j=>cases i with|zero=>simp at hi hj;exact absurd ⟨Yk (by rw[hi];exact hj),p0⟩ h0|succ i=>exact h i j x (by omega) (by simp_all) (by simp_all)
   .intro h;refine⟨λhm=>?_,λi j x hij hi hj=>h (i+1) (j+1) x (by omega) (by simp_all) (by simpa using hj)⟩;obtain⟨j,hj⟩:=QH hm.1;exact p0 (h 0 (j+1) p (by omega) rfl (by simp_all))
theorem iq.snoc{b n:Nat}{s:Sn}:∀{ss:List Sn}{last:Gd},iq b n last ss->IK s.g (uw last ss)->gV s.bP b n->iq b n last (ss++[s])|[],last,_,h1,h2=>⟨h1,h2,trivial⟩|a::ss,last,h,h1,h2=>⟨h.1,h.2.1,iq.snoc h.2.2 h1 h2⟩
theorem iq.take{b n:Nat}:∀{ss:List Sn}{last:Gd}(k:Nat),iq b n last ss->iq b n last (ss.take k)|ss,last,0,_=>by rw[List.take_zero];trivial|[],last,k+1,_=>by rw[List.take_nil];trivial|a::ss,last,k+1,h=>⟨h.1,h.2.1,iq.take k h.2.2⟩
theorem iq.hid{b n:Nat}{s:Sn}:∀{ss:List Sn}{last:Gd}{i:Nat},iq b n last ss->ss[i]?=some s->iq b n last (ss.set i {s with hid:=true})|[],last,i,h,hi=>by simp at hi|a::ss,last,0,h,hi=>by simp at hi;subst hi;exact⟨h.1,h.2.1,h.2.2⟩|a::ss,last,i+1,h,hi=>⟨h.1,h.2.1,iq.hid h.2.2 (by simpa using hi)⟩
theorem xF{s}:∀{ss}{last},uw last (ss++[s])=s.g|[],last=>rfl|a::ss,last=>xF (last:=a.g)
theorem ly(m):(cz m).g=uw (0,0) m.ae:=by
 rcases hn:m.ae.length with _|q;.rw[ee hn,YX hn];rfl
 .have hs:m.ae[q]?=some m.ae[q]:=YA (by omega);rw[dG hs hn];have:m.ae=m.ae.take q++[m.ae[q]]:=by have h1:=Qj (l:=m.ae) (i:=q);rw[Yi (by omega),hs]at h1;exact h1
  generalize m.ae[q]=s at this;rw[this,xF]
theorem lz{m}{n}(h:fX m 8 n)(h8:m.live.length=8):gV (cz m).bP 8 n:=by
 rcases hn:m.ae.length with _|q;.rw[ee hn];rw[h8];exact(SE (b:=8) (by omega) (by omega)).live
 .have hs:m.ae[q]?=some m.ae[q]:=YA (by omega);rw[dG hs hn];exact h.ae.mem (YP _)
theorem sI(last)(b n):qt nY last b n:=by exact⟨rfl,rfl,rfl,rfl⟩
theorem gJ{m}(h:Go.Ev.jH m):∀s∈m.ae,jN s.g:=λs hs=>(h.ae s hs).1
section
variable{pk:List UInt8->List (List UInt8)}{A:AD}{a n:Nat}{us:List Wr}{m:MT}{c:CH}
theorem VI.last(I:VI pk A a n us m c):(cz m).g=(eX c).g/\(cz m).bP.map (cw A)=(eX c).iC:=by
 have hl:=I.ag.len;rcases hn:m.ae.length with _|q;.rw[ee hn,qb (by omega)];refine⟨rfl,?_⟩;show(YZ m.live.length 0).map (cw A)=zT c.size;rw[I.l8,I.s8,zT8,Wc];rfl
 .have hs:m.ae[q]?=some m.ae[q]:=YA (by omega);have hc:c.ae[q]?=some c.ae[q]:=YA (by omega);rw[dG hs hn,qa hc (by omega)];obtain⟨h1,-,h2⟩:=I.ag.sn q _ _ hs hc;exact⟨h1,h2⟩
theorem VI.agree{A':AD}(I:VI pk A a n us m c)(h:∀l∈cU m,∀q∈l,cw A' q=cw A q):fU A' m c:=by have hm:∀l∈cU m,l.map (cw A')=l.map (cw A):=λl hl=>Wy λq hq=>h l hl q hq;refine⟨(hm _ (YL ..)).trans I.ag.live,I.ag.len,λi s s' h1 h2=>?_⟩;obtain⟨g1,g2,g3⟩:=I.ag.sn i s s' h1 h2;exact⟨g1,g2,(hm s.bP (YI _ (YI _ (Ye.2 ⟨s,Yk h1,rfl⟩)))).trans g3⟩
theorem fU.snoc{A':AD}(h:fU A' m c){s:Sn}{s':Cn}{tk:Tk}{lv:List Nat}{lc:List Tx}(h1:s.g=s'.g)(h2:s.hid=s'.hid)(h3:s.bP.map (cw A')=s'.iC)(h4:lv.map (cw A')=lc):fU A' ⟨lv,m.ae++[s],tk⟩ {c with ae:=c.ae++[s'],live:=lc}:=by
 refine⟨h4,by show(m.ae++[s]).length=(c.ae++[s']).length;rw[YB,YB,h.len];rfl,λi t t' q1 q2=>?_⟩;have q1:(m.ae++[s])[i]?=some t:=q1;have q2:(c.ae++[s'])[i]?=some t':=q2;by_cases hi:i<m.ae.length;.rw[Yp hi]at q1;rw[Yp (by rw[<-h.len];exact hi)]at q2;exact h.sn i t t' q1 q2
 .rw[Yl (by omega)]at q1;rw[Yl (by rw[<-h.len];omega)]at q2;rw[h.len]at q1;rcases hk:i-c.ae.length with _|k;.rw[hk]at q1 q2;simp at q1 q2;subst q1 q2;exact⟨h1,h2,h3⟩
  .rw[hk]at q1;simp at q1
theorem N9(I:VI pk A a n us m c){g}(hg:jN g)(ha:dJ g (cz m).g=true)(h20:m.ae.length<20):fW A m ⟨0,Ut m g,[]⟩ (zJ c g):=by
 have ok1:fX (Ut m g) 8 A.len:=⟨I.ok.live,by show(m.ae++[_]).length<=20;rw[YB];show m.ae.length+1<=20;omega,I.ok.ae.snoc (by rw[<-ly];exact pZ.2 ha) I.ok.live,sI _ _ _⟩;have hn:dH c g=0:=by unfold dH;rw[<-I.last.1,ha,if_neg (by simp),if_neg (by rw[<-I.ag.len];omega)]
 refine⟨ok1,ok1.jH I.hi (λs hs=>(Yo.1 hs).elim (gJ I.yG s) λh=>by simp_all) jK.1 jK.2.1,I.l8,λw hw=>(by cases hw),QP,Ya _,?_,λA' _ hf=>?_⟩;.unfold zJ;rw[if_pos hn];exact I.s8
 .have hA:=I.agree hf;unfold zJ;rw[if_pos hn];exact hA.snoc rfl rfl hA.live hA.live
theorem zF(I:VI pk A a n us m c){q}(hq:q<=m.ae.length):fW A m ⟨0,OA {m with tok:=nY} q,[]⟩ (Ur c q):=by
 have hs:=I.ok.ae.take q;have hm2:fX ({m with ae:=m.ae.take q,tok:=nY}:MT) 8 A.len:=⟨I.ok.live,by rw[Yv];have:=I.ok.num;omega,hs,sI _ _ _⟩;have hli:=lz hm2 I.l8;have ok1:fX (OA {m with tok:=nY} q) 8 A.len:=⟨hli,hm2.num,hs,sI _ _ _⟩;have hrb:Ur c q={c with ae:=c.ae.take q,live:=(eX {c with ae:=c.ae.take q}).iC}:=by unfold Ur;rw[if_neg (by rw[<-I.ag.len];omega)]
 refine⟨ok1,ok1.jH I.hi (λs hs=>gJ I.yG s (WI hs)) jK.1 jK.2.1,hli.len,λw hw=>(by cases hw),QP,Ya _,by rw[hrb];exact I.s8,λA' _ hf=>?_⟩;have hA:=I.agree hf;rw[hrb];have hlen:(m.ae.take q).length=(c.ae.take q).length:=by rw[Yv,Yv,hA.len]
 have hsn:∀(i)(s:Sn)(s':Cn),(m.ae.take q)[i]?=some s->(c.ae.take q)[i]?=some s'->s.g=s'.g/\s.hid=s'.hid/\s.bP.map (cw A')=s'.iC:=λi s s' h1 h2=>by
  have hi:i<q:=by have:=(YW.1 h1).1;rw[Yv]at this;omega
  rw[Yy,if_pos hi]at h1 h2;exact hA.sn i s s' h1 h2
 refine⟨?_,hlen,hsn⟩;show(cz {m with ae:=m.ae.take q,tok:=nY}).bP.map (cw A')=(eX {c with ae:=c.ae.take q}).iC;rcases hn:(m.ae.take q).length with _|r;.rw[ee hn,qb (by show(c.ae.take q).length=0;omega)];rw[I.l8,I.s8,zT8,Wc];rfl
 .have h1:(m.ae.take q)[r]?=some (m.ae.take q)[r]:=YA (by omega);have h2:(c.ae.take q)[r]?=some (c.ae.take q)[r]:=YA (by omega);rw[dG h1 hn,qa h2 (by show(c.ae.take q).length=r+1;omega)];exact(hsn r _ _ h1 h2).2.2
theorem Nb(I:VI pk A a n us m c){g}(h:(cT m g).2=0):fW A m ⟨0,ES m (cT m g).1,[]⟩ (Uq c g):=by
 have hfc:=I.ag.find g;obtain⟨i,hi,hr,hgi,hhi,-⟩:=kE h;have hs:=YA hi;have hi':i<c.ae.length:=by rw[<-I.ag.len];omega
 have hc:=YA hi';have hm:ES m i={m with ae:=m.ae.set i {m.ae[i]with hid:=true}}:=by unfold ES;rw[YD,hs,YU]
 have hhc:Uq c g={c with ae:=c.ae.set i {c.ae[i]with hid:=true}}:=by unfold Uq;rw[<-hfc,hr];simp only[if_true,YD,hc,YU]
 rw[hr];rw[hm,hhc];have hso:=I.ok.ae.hid hs;have hlast:uw (0,0) (m.ae.set i {m.ae[i]with hid:=true})=uw (0,0) m.ae:=by
  rw[<-ly m,<-ly {m with ae:=m.ae.set i {m.ae[i]with hid:=true}}];obtain⟨q,hq⟩:∃q,m.ae.length=q+1:=⟨m.ae.length-1,by omega⟩;have h1:m.ae[q]?=some m.ae[q]:=YA (by omega);have h2:(m.ae.set i {m.ae[i]with hid:=true})[q]?=some (if i=q then{m.ae[i]with hid:=true}else m.ae[q]):=by
   rw[YE2];split;.first|rfl|omega
   omega
  rw[dG h1 hq,dG h2 (by rw[Wg];omega)];split;.rename_i e;subst e;rfl
  .rfl
 have ok1:fX ({m with ae:=m.ae.set i {m.ae[i]with hid:=true}}:MT) 8 A.len:=⟨I.ok.live,by rw[Wg];exact I.ok.num,hso,by rw[hlast];exact I.ok.tok⟩;refine⟨ok1,ok1.jH I.hi (λs hs=>?_) I.yG.tok.1 I.yG.tok.2.1,I.l8,λw hw=>(by cases hw),QP,Ya _,I.s8,λA' _ hf=>?_⟩
 .rcases Wl hs with hs|rfl;.exact gJ I.yG s hs
  .exact(show jN m.ae[i].g from gJ I.yG _ (YP hi))
 .have hA:=I.agree hf;refine⟨hA.live,by rw[Wg,Wg];exact hA.len,λj s s' q1 q2=>?_⟩;have q1:=q1;have q2:=q2;rw[YE2]at q1 q2;by_cases hij:i=j;.subst hij;rw[if_pos rfl,if_pos hi]at q1;rw[if_pos rfl,if_pos hi']at q2;cases q1;cases q2;obtain⟨g1,-,g3⟩:=hA.sn i _ _ hs hc;exact⟨g1,rfl,g3⟩
  .rw[if_neg hij]at q1 q2;exact hA.sn j s s' q1 q2
end
theorem qp.get{cs:List Wr}{b:Nat}(h:qp cs b){j:Nat}(hj:j<cs.length):(cs.getD j (0,(0,0))).1<b/\(cs.getD j (0,(32,0)))=cs.getD j (0,(0,0)):=by rw[YD,YD,YA hj];exact⟨(h.lt _ (YP hj)).1,rfl⟩
theorem mF{cs}{b}{l at_}(h:qp cs b)(hl:l.length=b):∀{i},i<=cs.length->∀{k x},(eN l cs at_ i)[k]?=some x->(∃j,j<i/\(cs.getD j (0,(0,0))).1=k/\x=at_.getD j 0)\/(l[k]?=some x/\∀j,j<i->(cs.getD j (0,(0,0))).1≠k)
 |0,_,k,x,hx=>YE ⟨hx,λj hj=>by omega⟩|i+1,hi,k,x,hx=>by
  simp only[eN]at hx;rw[YE2]at hx;by_cases hk:(cs.getD i (0,(0,0))).1=k;.rw[if_pos hk,if_pos (by simp_all)]at hx;cases hx;exact YH ⟨i,by omega,hk,rfl⟩
  .rw[if_neg hk]at hx;rcases mF h hl (by omega) hx with⟨j,h1,h2,h3⟩|⟨h1,h2⟩;.exact YH ⟨j,by omega,h2,h3⟩
   .refine YE ⟨h1,λj hj=>?_⟩;by_cases hji:j<i;.simp_all
    .obtain rfl:j=i:=by omega
     omega
theorem eP.at_{m:MT}{n:Nat}{cs:List Wr}(P:eP m n cs){j:Nat}(hj:j<cs.length):(pA m n cs).getD j 0=0\/((cs.getD j (0,(32,0))).2≠(32,0)/\(fZ m n cs)[fv cs j]?=some ((pA m n cs).getD j 0)/\193<=(pA m n cs).getD j 0/\(pA m n cs).getD j 0<n/\∀l∈cU m,(pA m n cs).getD j 0∉l):=by
 have hg:(pA m n cs).getD j 0=if(cs.getD j (0,(32,0))).2=(32,0)then 0 else(fZ m n cs).getD (fv cs j) 0:=by unfold pA;rw[YD,Cq hj];rfl
 rw[hg];by_cases hz:(cs.getD j (0,(32,0))).2=(32,0);.rw[if_pos hz];exact YH rfl
 .rw[if_neg hz];obtain⟨q,h1,h2,h3⟩:=P.fr hj hz;obtain⟨g1,g2,g3⟩:=xp h3;rw[h2];exact YE ⟨hz,h1,g1,g2,g3⟩
theorem Nx{l:List Nat}(h:l.Nodup){i j x:Nat}(hi:l[i]?=some x)(hj:l[j]?=some x):i=j:=by obtain⟨h1,e1⟩:=YW.1 hi;obtain⟨h2,e2⟩:=YW.1 hj;exact(List.getElem_inj h).1 (e1.trans e2.symm)
theorem BZ{nb:Nat}{m:MT}{n:Nat}{cs:List Wr}{l:List Nat}(hl:gV l nb n)(hlm:l∈cU m\/∀q∈l,q=0)(P:eP m n cs)(ch:qp cs nb):gV (eN l cs (pA m n cs) cs.length) nb n:=by
 refine⟨hl.lo,hl.hi,by rw[mH];exact hl.len,λq hq=>?_,jX.2 λi j x hij hi hj=>?_⟩
 .obtain⟨k,hk⟩:=QH hq;rcases mF ch hl.len (YC _) hk with⟨j,h1,-,h3⟩|⟨h1,-⟩
  .rcases P.at_ h1 with h|⟨-,-,h4,h5,-⟩;.exact YH (h3.trans h)
   omega
  .exact hl.pl q (Yk h1)
 .have hno:∀{q k},l[k]?=some q->(∀l∈cU m,q∉l)->q=0:=λ{q k}h1 h2=>by
   rcases hlm with h|h;.exact absurd (Yk h1) (h2 l h)
   .exact h q (Yk h1)
  rcases mF ch hl.len (YC _) hi with⟨a,a1,a2,a3⟩|⟨a1,a2⟩
  .rcases mF ch hl.len (YC _) hj with⟨b,b1,b2,b3⟩|⟨b1,b2⟩
   .rcases P.at_ a1 with h|⟨h2,h3,-⟩;.exact a3.trans h
    .rcases P.at_ b1 with h'|⟨h2',h3',-⟩;.exact b3.trans h'
     .rw[<-a3]at h3;rw[<-b3]at h3';have hab:=Nx xq h3 h3';exfalso;rcases Nat.lt_trichotomy a b with hh|hh|hh;.have:=I9 hh h2;omega
      .subst hh;omega
      .have:=I9 hh h2';omega
   .rcases P.at_ a1 with h|⟨-,-,-,-,h5⟩;.exact a3.trans h
    .rw[<-a3]at h5;exact hno b1 h5
  .rcases mF ch hl.len (YC _) hj with⟨b,b1,b2,b3⟩|⟨b1,b2⟩
   .rcases P.at_ b1 with h|⟨-,-,-,-,h5⟩;.exact b3.trans h
    .rw[<-b3]at h5;exact hno a1 h5
   .exact jX.1 hl.nd i j x hij a1 b1
theorem vN{m}{n}{cs}{l}{A'}(P:eP m n cs)(ch:qp cs 8)(hA:∀w∈pW m n cs,A'.read w.1=w.2):∀{i},i<=cs.length->(eN l cs (pA m n cs) i).map (cw A')=dU (l.map (cw A')) cs i|0,_=>rfl|i+1,hi=>by simp only[eN,dU];rw[YE1,vN P ch hA (by omega)];obtain⟨q,h1,h2,-⟩:=P.read hA (j:=i) (by omega);rw[YD (l:=pA m n cs),h1,YU,h2,(ch.get (by omega)).2]
theorem Ff{m}:(cz m).bP∈cU m\/∀q∈(cz m).bP,q=0:=by
 rcases hn:m.ae.length with _|q;.rw[ee hn];simp
 .have hs:m.ae[q]?=some m.ae[q]:=YA (by omega);rw[dG hs hn];exact YH (YI _ (YI _ (Ye.2 ⟨_,YP _,rfl⟩)))
theorem qp.one{nb b:Nat}{d:Tx}(hb:b<nb)(hd:d.1=32)(hk:sO d):qp [(b,d)] nb:=⟨λc hc=>by rw[YM.1 hc];exact⟨hb,hd,hk⟩,λi hi=>by simp at hi⟩
section
variable{pk:List UInt8->List (List UInt8)}{A:AD}{a n:Nat}{us:List Wr}{m:MT}{c:CH}
theorem J5(I:VI pk A a n us m c){b}{d}(hb:b<8)(hd:d.1=32)(hk:sO d)(hr:¬iU m A.len b d):fW A m ⟨0,OB m A.len b d,OC m A.len b d⟩ (J3 c b d):=by
 have P:eP m A.len [(b,d)]:=⟨hr,λc hc=>by simp_all⟩;have ch:=qp.one hb hd hk;have hi:=BZ I.ok.live (YH (YL ..)) P ch;have hm:OB m A.len b d={m with live:=eN m.live [(b,d)] (pA m A.len [(b,d)]) [(b,d)].length}:=rfl;have hw:OC m A.len b d=pW m A.len [(b,d)]:=rfl;have hc:J3 c b d={c with live:=c.live.set b d}:=by unfold J3;rw[if_pos ⟨by rw[I.s8];omega,hd⟩]
 rw[hm,hw,hc];have ok1:fX ({m with live:=eN m.live [(b,d)] (pA m A.len [(b,d)]) [(b,d)].length}:MT) 8 A.len:=⟨hi,I.ok.num,I.ok.ae,I.ok.tok⟩;refine⟨ok1,ok1.jH I.hi (λs hs=>gJ I.yG s hs) I.yG.tok.1 I.yG.tok.2.1,hi.len,λw hw=>P.w hw,P.nodup,Ys eP.len (by simp),I.s8,λA' hA hf=>?_⟩;have hAg:=I.agree hf;refine⟨?_,hAg.len,hAg.sn⟩;rw[vN P ch hA (YC _),hAg.live];rfl
theorem yp(I:VI pk A a n us m c){tk}{cs}{bv}(Z:Hq m tk cs)(hfin:¬tk.next<tk.all)(h20:m.ae.length<20)(hr:¬iQ m A.len cs)(hl:gV (mI m tk) 8 A.len)(hlm:mI m tk∈cU m\/∀q∈mI m tk,q=0)(hcl:cs.length<=12)(hbv:dU ((mI m tk).map (cw A)) cs cs.length=bv):fW A m ⟨0,A8 m A.len tk cs,N5 m A.len cs⟩ {c with ae:=c.ae++[⟨bv,tk.t,false⟩],live:=bv}:=by
 have ch:=by have:=Z.ch;rwa[I.l8]at this
 have P:eP m A.len cs:=⟨hr,λc hc=>⟨(ch.lt c hc).2.1,(ch.lt c hc).2.2⟩⟩;have hi:=BZ hl hlm P ch;have hw:N5 m A.len cs=pW m A.len cs:=rfl;have hm:A8 m A.len tk cs=⟨eN (mI m tk) cs (pA m A.len cs) cs.length,m.ae++[⟨tk.t,eN (mI m tk) cs (pA m A.len cs) cs.length,false⟩],nY⟩:=by unfold A8 stM;rw[if_neg hfin];rfl
 rw[hm,hw];generalize hL:eN (mI m tk) cs (pA m A.len cs) cs.length=L at hi;have ok1:fX (⟨L,m.ae++[⟨tk.t,L,false⟩],nY⟩:MT) 8 A.len:=⟨hi,by rw[YB];show m.ae.length+1<=20;omega,I.ok.ae.snoc (by rw[<-ly];exact pZ.2 Z.t) hi,sI _ _ _⟩;refine⟨ok1,ok1.jH I.hi (λs hs=>(Yo.1 hs).elim (gJ I.yG s) λh=>by rw[YM.1 h];exact Z.gt) jK.1 jK.2.1,hi.len,λw hw=>P.w hw,P.nodup,Ys eP.len hcl,I.s8,λA' hA hf=>?_⟩;have hAg:=I.agree hf;have hst:(mI m tk).map (cw A')=(mI m tk).map (cw A):=by
  rcases hlm with h|h;.exact Wy λq hq=>hf _ h q hq
  .exact Wy λq hq=>by rw[h q hq];rfl
 have hv:L.map (cw A')=bv:=by rw[<-hL,vN P ch hA (YC _),hst,hbv]
 exact hAg.snoc rfl rfl hv hv
theorem JL(I:VI pk A a n us m c){tk}{cs}(Z:Hq m tk cs)(hb:jN tk.b)(hfin:tk.next<tk.all)(h1:1<=tk.next)(hr:¬iQ m A.len cs)(hl:gV (mI m tk) 8 A.len)(hlm:mI m tk∈cU m\/∀q∈mI m tk,q=0)(hcl:cs.length<=12):fW A m ⟨0,A8 m A.len tk cs,N5 m A.len cs⟩ c/\(A8 m A.len tk cs).tok={tk with bP:=eN (mI m tk) cs (pA m A.len cs) cs.length}/\∀A':AD,(∀w∈N5 m A.len cs,A'.read w.1=w.2)->(∀l∈cU m,∀q∈l,cw A' q=cw A q)->(eN (mI m tk) cs (pA m A.len cs) cs.length).map (cw A')=dU ((mI m tk).map (cw A)) cs cs.length:=by
 have ch:=by have:=Z.ch;rwa[I.l8]at this
 have P:eP m A.len cs:=⟨hr,λc hc=>⟨(ch.lt c hc).2.1,(ch.lt c hc).2.2⟩⟩;have hi:=BZ hl hlm P ch;have hw:N5 m A.len cs=pW m A.len cs:=rfl;have hm:A8 m A.len tk cs=⟨m.live,m.ae,{tk with bP:=eN (mI m tk) cs (pA m A.len cs) cs.length}⟩:=by unfold A8 stM;rw[if_pos hfin];rfl
 have hgt:=pZ.2 Z.t;have htne:tk.t≠(0,0):=λh=>by rw[h]at hgt;unfold IK at hgt;omega
 have hall:=Z.all;rw[I.l8]at hall;rw[hm,hw];have hst:∀A',(∀l∈cU m,∀q∈l,cw A' q=cw A q)->(mI m tk).map (cw A')=(mI m tk).map (cw A):=λA' hf=>by
  rcases hlm with h|h;.exact Wy λq hq=>hf _ h q hq
  .exact Wy λq hq=>by rw[h q hq];rfl
 have ok1:fX (⟨m.live,m.ae,{tk with bP:=eN (mI m tk) cs (pA m A.len cs) cs.length}⟩:MT) 8 A.len:=⟨I.ok.live,I.ok.num,I.ok.ae,by unfold qt;rw[if_neg htne];exact⟨by rw[<-ly];exact Z.b,by rw[<-ly];exact hgt,h1,hfin,hall,hi⟩⟩;refine⟨⟨ok1,ok1.jH I.hi (λs hs=>gJ I.yG s hs) hb Z.gt,I.l8,λw hw=>P.w hw,P.nodup,Ys eP.len hcl,I.s8,λA' hA hf=>?_⟩,rfl,λA' hA hf=>?_⟩;.have hAg:=I.agree hf;exact⟨hAg.live,hAg.len,hAg.sn⟩
 .rw[vN P ch hA (YC _),hst A' hf]
end
variable{cp:RC->au}{t:Nat->Option dr}{fuel:Nat}{H:Heap}{pk:List UInt8->List (List UInt8)}{unpk:List (List UInt8)->Option (List UInt8)}
theorem tR{A B}(h:∀k,find A.es k=find B.es k)(q):cw A q=cw B q:=by unfold cw AD.read;rw[h]
theorem FX(T:aB t)(hc:aP t)(F:bC pk unpk)(hu:t 85=some (.nat (eh unpk))){dp a n}{A}{O}{us}{m}{c}(hD:cN H dp A O)(I:VI pk A a n us m c)(hf:A.aX=0)(hfu:1000000<fuel):∃H' O' A' vp vl vs vi,(∀(d)(k),aj (aT cp t fuel (d+9)) (.func 22 []) [.ptr dp 0] H k=k (.cG [.ptr vp 0,.int 3 0]) H')/\Step H O H' O'/\VP H' dp vp a n A' O' m vl vs vi/\H.n<=vp/\VI pk A' a n us m c/\A'.aX=0/\A'.len=A.len/\A'.room=A.room/\∀X:Nat->Prop,(∀b,X b->b<H.n)->jO H' (λb=>X b\/bz O' vp b) m vl vs vi:=by obtain⟨r1,r2,r3,r4,r5,r6⟩:=I.jd.recovered hf;have hT:Lt (A.recover n us).1 (pk (bq (mW m))):=⟨λi h=>by rw[AD.read,r6];exact I.rH.at_ i h⟩;obtain⟨H',O',vp,vl,vs,vi,z,s,D,g,hn,ho,hv,hM,hX⟩:=yE T hc F hu hD I.jd.FU r1 r2.off (by rw[r4];exact I.lo) (by rw[r4];exact I.hi) (by rw[r4,I.l8];exact I.ok) I.yG hT hfu;refine⟨H',O',_,vp,vl,vs,vi,z,s,⟨D,r2.off,r2.FU.can,by rw[r4];exact I.lo,by rw[r4];exact I.hi,g,hn,ho,hM,I.yG⟩,hv,⟨r2,by rw[r4];exact I.lo,by rw[r4];exact I.hi,by rw[r4,r5];exact I.room,I.l8,by rw[r4];exact I.ok,I.yG,hT,I.s8,I.agree λl _ q _=>tR r6 q⟩,r3,r4,r5,hX⟩
def c0:CH:=⟨zT 8,8,[]⟩
theorem SD(A):fU A (mz 8) c0:=⟨by rfl,rfl,λi s s' h=>by cases i<;>cases h⟩
theorem EK(T:aB t)(hc:aP t)(F:bC pk unpk)(hp:t 110=some (.nat (dC pk)))(hu:t 85=some (.nat (eh unpk))){H0}{dp n r}{O}(h1:193<=n)(h2:n<=1024)(hr:n<=r)(fr:ah H0 H)(hD:cN H dp ⟨n,r,0,false,[],[]⟩ O)(own:∀b,O b->H0.n<=b)(hfu:1000000<fuel):∃G H' A a k us vp O' vl vs vi,(∀(d)(k),aj (aT cp t fuel (d+8)) (.func 40 []) [.ptr dp 0,.int 3 8] H k=k (.int 3 0) G)/\(∀(d)(k),aj (aT cp t fuel (d+9)) (.func 22 []) [.ptr dp 0] G k=k (.cG [.ptr vp 0,.int 3 0]) H')/\ah H0 H'/\VP H' dp vp a k A O' (mz 8) vl vs vi/\VI pk A a k us (mz 8) c0/\A.aX=0/\A.len=n/\A.room=r/\(∀b,bz O' vp b->H0.n<=b):=by obtain⟨G,A1,O1,z1,f1,D1,own1,⟨a,k,us,J⟩,q1,q2,q3,hT⟩:=CW T hc F hp h1 h2 hr (by omega) (YC 8) fr hD own hfu;have I1:VI pk A1 a k us (mz 8) c0:=⟨J,by omega,by omega,by omega,xO 8,SE (by omega) (by omega),SF (by omega),hT,rfl,SD _⟩;obtain⟨H',O',A',vp,vl,vs,vi,z2,s2,S,hv,I2,g1,g2,g3,-⟩:=FX T hc F hu D1 I1 q1 hfu;obtain⟨f2,own2⟩:=f1.own s2 own1;exact⟨G,H',A',a,k,us,vp,O',vl,vs,vi,z1,z2,f2,S,I2,g1,g2.trans q2,g3.trans q3,λb hb=>hb.elim (own2 b) λe=>by rw[e];exact Ys f1.n hv⟩
theorem Fm(T:aB t)(hc:aP t)(F:bC pk unpk)(hp:t 110=some (.nat (dC pk)))(hu:t 85=some (.nat (eh unpk)))(hw:H.wf)(hfu:1000000<fuel):∃H' A a k us dp vp O' vl vs vi,(∀(d)(k),aj (aT cp t fuel (d+10)) (.func 16 []) [.int 3 8] H k=k (.cG [.ptr dp 0,.ptr vp 0]) H')/\ah H H'/\VP H' dp vp a k A O' (mz 8) vl vs vi/\VI pk A a k us (mz 8) c0/\A.aX=0/\A.len=400/\A.room=400/\(∀b,bz O' vp b->H.n<=b):=by obtain⟨G1,dp,O1,z1,D1,f1,o1⟩:=Vz (cp:=cp) (fuel:=fuel) (n:=400) (r:=400) (T.jl hc) hw (by omega) (by omega) (by unfold nn;omega);obtain⟨G2,H',A,a,k,us,vp,O',vl,vs,vi,z2,z3,f3,S,I,g1,g2,g3,own⟩:=EK (cp:=cp) T hc F hp hu (by omega) (by omega) (YC 400) f1 D1 o1 hfu;have z1:=λ{d}{k}=>z1 d k;have z2:=λ{d}{k}=>z2 d k;have z3:=λ{d}{k}=>z3 d k;refine⟨H',A,a,k,us,dp,vp,O',vl,vs,vi,λd k=>?_,f3,S,I,g1,g2,g3,own⟩;rw[aI T.k8 rfl rfl];simp only[go_sem,c8,ady,adz,↓z1,↓z2];simp only[go_sem,adA,adB,adD,adE,↓z3]
end Go.Ev
end
section
namespace Go.Ev
open Go.Proofs
theorem Ez{k}:∀{L:List (List Nat)},(∀l∈L,l.length<=k)->L.flatten.length<=L.length*k|[],_=>Ya _|l::L,h=>by have h1:=h l (YL ..);have h2:=Ez λx hx=>h x (YI _ hx);rw[WO,YB,YG,We];omega
theorem KR{m}(h:jH m):(cU m).flatten.length<1000000:=by
 have h1:∀l∈cU m,l.length<=100:=λl hl=>by
  rcases YS.1 hl with rfl|hl;.exact Qb h.live.1
  rcases YS.1 hl with rfl|hl;.exact Qb h.tok.2.2.2.2.1
  .obtain⟨s,hs,rfl⟩:=Ye.1 hl;exact Qb (h.ae s hs).2.1
 have h2:=Ez h1;have h3:(cU m).length=m.ae.length+2:=by unfold cU;simp
 have:=h.num;omega
theorem K3{l}{i x}(h:Cj l)(hx:x<1024):Cj (l.set i x):=⟨by rw[Wg];exact h.1,λp hp=>by
 rcases Wl hp with hp|rfl;.exact h.2 p hp
 .unfold nn;omega⟩
theorem AP{l at_}{cs}(h:Cj l)(ha:∀p∈at_,p<1024):∀i,Cj (eN l cs at_ i)
 |0=>h|i+1=>by
  refine K3 (AP h ha i) ?_;rw[YD];rcases hx:at_[i]?with _|x;.simp
  .exact ha x (Yk hx)
theorem SV{m}(h:jH m):Cj (cz m).bP:=by
 rcases hn:m.ae.length with _|q;.rw[ee hn];exact⟨by rw[WT];exact h.live.1,λp hp=>by rw[(YD3.1 hp).2];unfold nn;omega⟩
 .have hs:m.ae[q]?=some m.ae[q]:=YA (by omega);rw[dG hs hn];exact(h.ae _ (YP _)).2
theorem abt{m}{n b}{d}(h:jH m)(hn:n<=1024):jH (OB m n b d):=by
 refine⟨K3 h.live ?_,h.num,h.ae,h.tok⟩;rw[YD];rcases hx:(xY [(b,d)] (fZ m n [(b,d)]) 1)[0]?with _|x;.simp
 .exact Cr (xm hn) 1 x (Yk hx)
theorem abr{m}{g}(h:jH m)(hg:jN g)(hl:m.ae.length<900):jH (Ut m g):=⟨h.live,by show(m.ae++[_]).length<1000;rw[YB];show m.ae.length+1<1000;omega,λs hs=>(Yo.1 hs).elim (h.ae s) λe=>by rw[YM.1 e];exact⟨hg,h.live⟩,jK⟩
theorem abp{m}{q}(h:jH m):jH (OA {m with tok:=nY} q):=by have h2:jH ({m with ae:=m.ae.take q,tok:=nY}:MT):=⟨h.live,by rw[Yv];have:=h.num;omega,λs hs=>h.ae s (WI hs),jK⟩;exact⟨SV h2,h2.num,h2.ae,jK⟩
theorem abo{m}{i}(h:jH m)(hi:i<m.ae.length):jH (ES m i):=by
 have hs:=YA hi;have hm:ES m i={m with ae:=m.ae.set i {m.ae[i]with hid:=true}}:=by unfold ES;simp_all
 rw[hm];refine⟨h.live,by rw[Wg];exact h.num,λs hs=>?_,h.tok⟩;rcases Wl hs with hs|rfl;.exact h.ae s hs
 .exact(show jN m.ae[i].g/\Cj m.ae[i].bP from h.ae _ (YP hi))
theorem abq{m}{n}{tk}{cs}(h:jH m)(hn:n<=1024)(hl:Cj (mI m tk))(hb:jN tk.b)(ht:jN tk.t)(h1:nn tk.next)(h2:nn tk.all)(hlen:m.ae.length<900):jH (A8 m n tk cs):=by
 have hi:=AP (cs:=cs) hl (Cr (cs:=cs) (xm (m:=m) (cs:=cs) hn) cs.length) cs.length;unfold A8 stM;split;.exact⟨h.live,h.num,h.ae,hb,ht,h1,h2,hi⟩
 .exact⟨hi,by rw[YB];show m.ae.length+1<1000;omega,λs hs=>(Yo.1 hs).elim (h.ae s) λe=>by simp_all,jK⟩
section
variable(pk:List UInt8->List (List UInt8))(A:AD)(a:Nat)(m:MT)(o:jB)
def jB.E:Nat:=if o.e0≠0then o.e0 else(j8 pk A a o.m1 o.bw).2
def jB.A1:AD:=if o.e0≠0then A else(j8 pk A a o.m1 o.bw).1
def jB.M:MT:=if o.e0≠0then m else HX pk A a m o.m1 o.bw
def jB.L:Bool:=if o.e0≠0then false else Rp pk A a o.m1 o.bw
end
def Uv(m:MT)(n b:Nat)(d:Tx):jB:=⟨if¬b<8then 2 else if iU m n b d then 7 else 0,OB m n b d,OC m n b d⟩
def ZW(m:MT)(g:Gd):jB:=⟨if dJ g (cz m).g=false then 2 else if 20<=m.ae.length then 3 else 0,Ut m g,[]⟩
def ZR(m:MT)(q:Nat):jB:=⟨if m.ae.length<q then 2 else 0,OA {m with tok:=nY} q,[]⟩
def hiO(m:MT)(g:Gd):jB:=⟨(cT m g).2,ES m (cT m g).1,[]⟩
def vW(m:MT)(n:Nat)(tk:Tk)(cs:List Wr):jB:=⟨if uK m tk≠0then uK m tk else if iQ m n cs then 7 else 0,A8 m n tk cs,N5 m n cs⟩
instance ab8(m:MT)(n b:Nat)(d:Tx):Decidable (iU m n b d):=inferInstanceAs(Decidable (_<_))
section
variable{t:Nat->Option dr}{fuel:Nat}{H:Heap}{pk:List UInt8->List (List UInt8)}{unpk:List (List UInt8)->Option (List UInt8)}
variable{dp vp a n:Nat}{A:AD}{O:Nat->Prop}{m:MT}{vl vs vi:V}{c:CH}{us:List Wr}
def pO(pk:List UInt8->List (List UInt8))(t:Nat->Option dr)(fuel dd:Nat)(H:Heap)(dp vp a:Nat)(A:AD)(O:Nat->Prop)(m:MT)(vl vs vi:V)(o:jB)(f:V)(args:List V):Prop:=∃H' O',(∀(d:Nat)(k:K),aj (aT (aN Tryz.prog) t fuel (d+dd)) f args H k=k (.int 3 (o.E pk A a)) H')/\nD H H' dp vp O O' m vl vs vi (o.A1 pk A a) (o.M pk A a m) (o.L pk A a)
theorem adJ(c):tx (eD c 32)=dT c:=by rfl
theorem Uj(T:aB t)(hc:aP t)(F:bC pk unpk)(hp:t 110=some (.nat (dC pk)))(S:VP H dp vp a n A O m vl vs vi)(I:fX m 8 A.len)(h8:m.live.length=8){b l}(hb:b<1000000)(hfu:1000000<fuel):pO pk t fuel 9 H dp vp a A O m vl vs vi (Uv m A.len b (dT l)) (.func 48 []) [.ptr vp 0,.int 3 b,.str 32 (enc (eD l 32))]:=by
 obtain⟨H',O',z,hd⟩:=GV (block:=b) (data:=eD l 32) T hc F hp S (by omega) (by rw[fN];omega) (λl hl a ha h0=>(I.pl l hl a ha).resolve_left h0) (KR S.ok) (λ_=>abt S.ok S.hi) hfu;have hmay:su m b (eD l 32)=decide (b<8):=by unfold su;rw[fN,h8];simp
 rw[adJ]at z hd;simp only[tv,fN]at z;refine⟨H',O',λd k=>?_,?_⟩
 .unfold jB.E Uv;by_cases h1:b<8
  .by_cases h2:iU m A.len b (dT l);.simp_all
   simp_all
  simp_all
 .unfold jB.A1 jB.M jB.L Uv;by_cases h1:b<8;.simp_all
  simp_all
theorem Xp(T:aB t)(hc:aP t)(F:bC pk unpk)(hp:t 110=some (.nat (dC pk)))(S:VP H dp vp a n A O m vl vs vi){g}(hg:jN g)(hl:m.ae.length<900)(hfu:1000000<fuel):pO pk t fuel 9 H dp vp a A O m vl vs vi (ZW m g) (.func 60 []) [.ptr vp 0,.agg (aY g)]:=by
 obtain⟨H',O',z,hd⟩:=N7 T hc F hp S hg (abr S.ok hg hl) hfu;refine⟨H',O',λd k=>?_,?_⟩
 .rw[z];unfold jB.E ZW;rcases h1:dJ g (cz m).g with _|_;.simp
  simp_all
 .unfold jB.A1 jB.M jB.L ZW;rcases h1:dJ g (cz m).g with _|_;.simp_all
  simp_all
theorem FY(T:aB t)(hc:aP t)(F:bC pk unpk)(hp:t 110=some (.nat (dC pk)))(S:VP H dp vp a n A O m vl vs vi)(I:fX m 8 A.len)(h8:m.live.length=8){q}(hq:nn q)(hfu:1000000<fuel):pO pk t fuel 9 H dp vp a A O m vl vs vi (ZR m q) (.func 66 []) [.ptr vp 0,.int 3 q]:=by
 obtain⟨H',O',z,hd⟩:=zE T hc F hp S hq (λs hs=>by rw[(I.ae.mem hs).len,h8]) (by omega) (abp S.ok) hfu;refine⟨H',O',λd k=>?_,?_⟩;.rw[z];unfold jB.E ZR;simp_all
 .unfold jB.A1 jB.M jB.L ZR;simp_all
theorem Vl(T:aB t)(hc:aP t)(F:bC pk unpk)(hp:t 110=some (.nat (dC pk)))(S:VP H dp vp a n A O m vl vs vi){g}(hfu:1000000<fuel):pO pk t fuel 9 H dp vp a A O m vl vs vi (hiO m g) (.func 76 []) [.ptr vp 0,.agg (aY g)]:=by obtain⟨H',O',z,hd⟩:=Na T hc F hp S (λh=>by obtain⟨i,hi,hr,-⟩:=kE h;rw[hr];exact abo S.ok hi) hfu;exact⟨H',O',z,hd⟩
theorem GC(T:aB t)(hc:aP t)(F:bC pk unpk)(hp:t 110=some (.nat (dC pk)))(S:VP H dp vp a n A O m vl vs vi)(I:fX m 8 A.len)(h8:m.live.length=8){tk}{cs}{y vx}(Z:Hq m tk cs)(hb:jN tk.b)(hy:y.one=true)(hX:Row H (bz O vp) vx 2 cs.length (bK cs))(hn:cs.length<1000)(hl:gV (mI m tk) 8 A.len)(hlen:m.ae.length<900)(hfu:1000000<fuel):pO pk t fuel 9 H dp vp a A O m vl vs vi (vW m A.len tk cs) (.func 32 []) [.ptr vp 0,.agg (bu tk y),vx]:=by
 have h1:=Z.next;have h2:=Z.all;have hi:Cj (mI m tk):=⟨by rw[hl.len];omega,λp hp=>by have:=hl.pl p hp;have:=S.hi;unfold nn;omega⟩;obtain⟨H',O',z,hd⟩:=JJ T hc F hp S Z hb hy hX hn (λl hl a ha h0=>(I.pl l hl a ha).resolve_left h0) (KR S.ok) (by rw[hl.len,h8]) (abq S.ok S.hi hi hb Z.gt (by unfold nn;omega) (by unfold nn;omega) hlen) hfu;refine⟨H',O',λd k=>?_,?_⟩
 .rw[z];unfold jB.E vW sgE;by_cases h1:uK m tk=0;.simp_all
  simp_all
 .unfold jB.A1 jB.M jB.L vW;unfold Gz at hd;by_cases h1:uK m tk=0;.simp_all
  simp_all
end
theorem Step.congr{H H':Heap}{P P' Q Q':Nat->Prop}(s:Step H P H' P')(h:∀b,P b↔Q b)(h':∀b,P' b↔Q' b):Step H Q H' Q':=by obtain rfl:P=Q:=funext λb=>propext (h b);obtain rfl:P'=Q':=funext λb=>propext (h' b);exact s
theorem iF{id half a b}{f}(ha:a<half)(hb:b<half)(h0:b≠0):gv id (.rem half) a b f=f (a%b):=by show aH (Nat.blt a half) (aH (Nat.blt b half) (aH (YR b 0) (no 0) (av (Nat.mod a b) f)) (no 0)) (no 0)=_;rw[bI,if_pos (by simp_all),bI,if_pos (by simp_all),bI,if_neg (by simp_all),ax];rfl
def PQ(vp p:Nat)(O:Nat->Prop)(v:V):Nat->Prop:=λb=>CQ p v b\/bz O vp b
structure PD(H:Heap)(X:Nat->Prop)(dp vp p:Nat)(A:AD)(O:Nat->Prop)(m:MT)(vl vs vi:V)(lost:Bool)(c:CH)(v:V):Prop where
 cO:cN H dp A O
 get:H.get vp=.cells (vc m vl vs vi dp lost)vn:vp<H.n
 vo:¬O vp
 lO:jO H (λb=>(X b\/CQ p v b)\/bz O vp b) m vl vs vi
 ch:iZ H p c v
 U2:∀b,CQ p v b->¬bz O vp b
 xn:∀b,X b->b<H.n
 xc:∀b,X b->¬CQ p v b
 xo:∀b,X b->¬bz O vp b
section
variable{H H':Heap}{X:Nat->Prop}{dp vp p a n:Nat}{A A':AD}{O O':Nat->Prop}{m m':MT}{vl vs vi:V}{lost:Bool}{c c':CH}{v v':V}{us:List Wr}{pk:List UInt8->List (List UInt8)}
theorem PD.Uf(P:PD H X dp vp p A O m vl vs vi false c v)(I:VI pk A a n us m c'):VP H dp vp a n A O m vl vs vi:=⟨P.cO,I.jd.off,I.jd.FU.can,I.lo,I.hi,P.get,P.vn,P.vo,P.lO.mK λb _ h=>YE h,I.yG⟩
theorem PD.wlt(P:PD H X dp vp p A O m vl vs vi lost c v):∀b,bz O vp b->b<H.n:=λb h=>h.elim (P.cO.lt b) λh=>by rw[h];exact P.vn
theorem PD.lt(P:PD H X dp vp p A O m vl vs vi lost c v):∀b,PQ vp p O v b->b<H.n:=λb h=>h.elim (P.ch.lt b) (P.wlt b)
theorem PD.cm{Q Q':Nat->Prop}(P:PD H X dp vp p A O m vl vs vi lost c v)(s:Step H Q H' Q')(hq:∀b,Q b->¬PQ vp p O v b)(hm:jO H' (λb=>(X b\/CQ p v b)\/bz O vp b) m vl vs vi):PD H' X dp vp p A O m vl vs vi lost c v:=⟨(P.cO.cm s λb hb h=>hq b h (YE (YH hb))).1,(s.same vp P.vn λh=>hq vp h (YE (YE rfl))).1.trans P.get,YF P.vn s.n,P.vo,hm,(P.ch.cm s λb hb h=>hq b h (YH hb)).1,P.U2,λb hb=>YF (P.xn b hb) s.n,P.xc,P.xo⟩
theorem PD.fresh(P:PD H X dp vp p A O m vl vs vi lost c v)(f:ah H H'):PD H' X dp vp p A O m vl vs vi lost c v:=P.cm (f.step (O:=λ_=>False)) (λb h=>h.elim) (P.lO.fresh f)
theorem PD.vop(P:PD H X dp vp p A O m vl vs vi false c v)(h:nD H H' dp vp O O' m vl vs vi A' m' lost):∃vl' vs' vi',PD H' X dp vp p A' O' m' vl' vs' vi' lost c v/\Step H (PQ vp p O v) H' (PQ vp p O' v):=by obtain⟨s,D,ho,hn,vl',vs',vi',hg,-,hX⟩:=h;have hd':=(P.ch.cm s P.U2).2;exact⟨vl',vs',vi',⟨D,hg,hn,ho,hX (λb=>X b\/CQ p v b) (λb hb=>hb.elim (P.xn b) (P.ch.lt b)) P.lO,(P.ch.cm s P.U2).1,hd',λb hb=>YF (P.xn b hb) s.n,P.xc,λb hb=>(s.same b (P.xn b hb) (P.xo b hb)).2⟩,s.or⟩
theorem PD.cop(P:PD H X dp vp p A O m vl vs vi lost c v)(s:Step H (CQ p v) H' (CQ p v'))(C:iZ H' p c' v'):PD H' X dp vp p A O m vl vs vi lost c' v'/\Step H (PQ vp p O v) H' (PQ vp p O v'):=by
 have hd:∀b,bz O vp b->¬CQ p v b:=λb h h'=>P.U2 b h' h;have hd':∀b,CQ p v' b->¬bz O vp b:=λb hb h=>(s.same b (P.wlt b h) (hd b h)).2 hb;refine⟨⟨(P.cO.cm s λb hb h=>P.U2 b h (YH hb)).1,(s.same vp P.vn (hd vp (YE rfl))).1.trans P.get,YF P.vn s.n,P.vo,?_,C,hd',λb hb=>YF (P.xn b hb) s.n,λb hb=>(s.same b (P.xn b hb) (P.xc b hb)).2,P.xo⟩,(s.or (O:=bz O vp)).congr (λb=>Or.comm) λb=>Or.comm⟩;have h1:jO H (λb=>(X b\/bz O vp b)\/CQ p v b) m vl vs vi:=P.lO.mK λb _ h=>by
  rcases h with(h|h)|h;.exact YH (YH h)
  .exact YE h
  .exact YH (YE h)
 exact(h1.cm (s.or (O:=λb=>X b\/bz O vp b))).mK λb _ h=>by
  rcases h with(h|h)|h;.exact YH (YH h)
  .exact YE h
  .exact YH (YE h)
end
section
variable{t:Nat->Option dr}{fuel:Nat}{H:Heap}{pk:List UInt8->List (List UInt8)}{unpk:List (List UInt8)->Option (List UInt8)}
variable{X:Nat->Prop}{dp vp p a n:Nat}{A:AD}{O:Nat->Prop}{m:MT}{vl vs vi v:V}{c:CH}{us:List Wr}{c0:CH}
def lV(pk:List UInt8->List (List UInt8))(t:Nat->Option dr)(fuel:Nat)(H:Heap)(X:Nat->Prop)(dp vp p a:Nat)(A:AD)(O:Nat->Prop)(m:MT)(v:V)(kd nb lt next:Nat)(o:jB)(r:CH×Nat):Prop:=∃H' O' vl' vs' vi' v',(∀(d:Nat)(k:K),aj (aT (aN Tryz.prog) t fuel (d+10)) (.func 20 []) [.ptr vp 0,.ptr p 0,.agg [.int 4 kd,.int 4 nb,.int 4 lt],.int 7 next] H k=k (.cG [.int 3 (o.E pk A a),.int 3 r.2]) H')/\PD H' X dp vp p (o.A1 pk A a) O' (o.M pk A a m) vl' vs' vi' (o.L pk A a) r.1 v'/\Step H (PQ vp p O v) H' (PQ vp p O' v')
theorem Xv(T:aB t)(hc:aP t)(F:bC pk unpk)(hp:t 110=some (.nat (dC pk)))(P:PD H X dp vp p A O m vl vs vi false c v)(I:VI pk A a n us m c0)(hl:m.ae.length<900){kd nb lt next}(hk:kd%6=2)(hkd:kd<256)(hnb:nb<256)(hnx:next<1000)(hfu:1000000<fuel):lV pk t fuel H X dp vp p a A O m v kd nb lt next (ZW m (1,next)) (zJ c (1,next),dH c (1,next)):=by obtain⟨G0,hG0,f0,p0,n0⟩:=Heap.aR P.cO.wf (.cells [.int 4 kd,.int 4 nb,.int 4 lt]);have P0:=P.fresh f0;have w:=P.cO.wf;have w0:=f0.wf;obtain⟨G1,z1o,f1⟩:=fO (cp:=aN Tryz.prog) (fuel:=fuel) (a:=1) (b:=next) T w0;have z1:=λ{d}{k}=>z1o (d+8) k;have P1:=P0.fresh f1;have hg:jN (1,next):=⟨by simp,by omega⟩;obtain⟨G2,O',z2o,hd⟩:=Xp T hc F hp (P1.Uf I) hg hl hfu;have z2:=λ{d}{k}=>z2o d k;obtain⟨vl',vs',vi',P2,s2⟩:=P1.vop hd;obtain⟨G3,z3o,f3⟩:=fO (cp:=aN Tryz.prog) (fuel:=fuel) (a:=1) (b:=next) T P2.cO.wf;have z3:=λ{d}{k}=>z3o (d+8) k;have P3:=P2.fresh f3;obtain⟨G4,v',z4o,s4,C4⟩:=Ih (cp:=aN Tryz.prog) (fuel:=fuel) T P3.ch hg (by omega);have z4:=λ{d}{k}=>z4o (d+5) k;obtain⟨P4,s4'⟩:=P3.cop s4 C4;refine⟨G4,O',vl',vs',vi',v',λd k=>?_,P4,(f0.trans f1).step.trans (s2.trans (f3.step.trans s4'))⟩;rw[aI T.Vq rfl rfl];simp only[aY]at z2 z4;have e1:=m_ nb;have rm:∀{id}{f},gv id (.rem 256) kd 6 f=f (kd%6):=λ{id f}=>iF hkd (by omega) (by omega);simp only[go_sem,XK,ug,uh,w,hG0,p0,↓rm,hk,e1,↓z1,↓z2,↓z3,↓z4]
theorem Xt(T:aB t)(hc:aP t)(F:bC pk unpk)(hp:t 110=some (.nat (dC pk)))(P:PD H X dp vp p A O m vl vs vi false c v)(I:VI pk A a n us m c0){kd nb lt next}(hk:kd%6=3)(hkd:kd<256)(hnb:nb<256)(hfu:1000000<fuel):lV pk t fuel H X dp vp p a A O m v kd nb lt next (ZR m (nb%6)) (Ur c (nb%6),if c.ae.length<nb%6then 2 else 0):=by obtain⟨G0,hG0,f0,p0,n0⟩:=Heap.aR P.cO.wf (.cells [.int 4 kd,.int 4 nb,.int 4 lt]);have P0:=P.fresh f0;have w:=P.cO.wf;have hq:=n_ (nb%6);obtain⟨G2,O',z2o,hd⟩:=FY T hc F hp (P0.Uf I) I.ok I.l8 hq hfu;have z2:=λ{d}{k}=>z2o d k;obtain⟨vl',vs',vi',P2,s2⟩:=P0.vop hd;obtain⟨G4,v',z4o,s4,C4⟩:=wP (cp:=aN Tryz.prog) (fuel:=fuel) T P2.ch hq (by omega);have z4:=λ{d}{k}=>z4o (d+6) k;obtain⟨P4,s4'⟩:=P2.cop s4 C4;refine⟨G4,O',vl',vs',vi',v',λd k=>?_,P4,f0.step.trans (s2.trans s4')⟩;rw[aI T.Vq rfl rfl];have e1:=m_ nb;have rm:∀{id}{f},gv id (.rem 256) kd 6 f=f (kd%6):=λ{id f}=>iF hkd (by omega) (by omega);have rn:∀{id}{f},gv id (.rem 9223372036854775808) nb 6 f=f (nb%6):=λ{id f}=>iF (by omega) (by omega) (by omega);simp only[go_sem,XK,ug,uh,w,hG0,p0,↓rm,↓rn,hk,e1,↓z2,↓z4]
theorem Xs(T:aB t)(hc:aP t)(F:bC pk unpk)(hp:t 110=some (.nat (dC pk)))(P:PD H X dp vp p A O m vl vs vi false c v)(I:VI pk A a n us m c0){kd nb lt next}(hk:kd%6=4)(hkd:kd<256)(hnb:nb<256)(hfu:1000000<fuel):lV pk t fuel H X dp vp p a A O m v kd nb lt next (hiO m (1,nb%8)) (Uq c (1,nb%8),(oG c (1,nb%8)).2):=by
 obtain⟨G0,hG0,f0,p0,n0⟩:=Heap.aR P.cO.wf (.cells [.int 4 kd,.int 4 nb,.int 4 lt]);have P0:=P.fresh f0;have w:=P.cO.wf;have w0:=f0.wf;obtain⟨G1,z1o,f1⟩:=fO (cp:=aN Tryz.prog) (fuel:=fuel) (a:=1) (b:=nb%8) T w0;have z1:=λ{d}{k}=>z1o (d+8) k;have P1:=P0.fresh f1;obtain⟨G2,O',z2o,hd⟩:=Vl T hc F hp (P1.Uf I) hfu;have z2:=λ{d}{k}=>z2o d k;obtain⟨vl',vs',vi',P2,s2⟩:=P1.vop hd;obtain⟨G3,z3o,f3⟩:=fO (cp:=aN Tryz.prog) (fuel:=fuel) (a:=1) (b:=nb%8) T P2.cO.wf;have z3:=λ{d}{k}=>z3o (d+8) k;have P3:=P2.fresh f3;obtain⟨G4,z4o,s4,C4⟩:=HY (cp:=aN Tryz.prog) (fuel:=fuel) T P3.ch (by omega);have z4:=λ{d}{k}=>z4o (d+5) k;obtain⟨P4,s4'⟩:=P3.cop s4 C4;refine⟨G4,O',vl',vs',vi',v,λd k=>?_,P4,(f0.trans f1).step.trans (s2.trans (f3.step.trans s4'))⟩;rw[aI T.Vq rfl rfl];simp only[aY]at z2 z4;have e1:=m_ nb;have e2:nb%8%18446744073709551616=nb%8:=by omega
 have rm:∀{id}{f},gv id (.rem 256) kd 6 f=f (kd%6):=λ{id f}=>iF hkd (by omega) (by omega);have rn:∀{id}{f},gv id (.rem 9223372036854775808) nb 8 f=f (nb%8):=λ{id f}=>iF (by omega) (by omega) (by omega);simp only[go_sem,XK,ug,uh,w,hG0,p0,↓rm,↓rn,hk,e1,e2,↓z1,↓z2,↓z3,↓z4]
theorem Xw(T:aB t)(hc:aP t)(F:bC pk unpk)(hp:t 110=some (.nat (dC pk)))(P:PD H X dp vp p A O m vl vs vi false c v)(I:VI pk A a n us m c0){kd nb lt next:Nat}(hk:kd%6=0\/kd%6=1)(hkd:kd<256)(hnb:nb<256)(hlt:lt<256)(hfu:1000000<fuel):lV pk t fuel H X dp vp p a A O m v kd nb lt next (Uv m A.len (nb%9) (dT (lt%200))) (J3 c (nb%9) (dT (lt%200)),if nb%9<c.size/\(32:Nat)=32then 0 else 2):=by
 obtain⟨G0,hG0,f0,p0,n0⟩:=Heap.aR P.cO.wf (.cells [.int 4 kd,.int 4 nb,.int 4 lt]);have P0:=P.fresh f0;have w:=P.cO.wf;have w0:=f0.wf;obtain⟨G1,z1o,f1⟩:=pT (cp:=aN Tryz.prog) (fuel:=fuel) (c:=lt%200) T w0 (by omega) (by omega);have z1:=λ{d}{k}=>z1o (d+8) k;clear z1o;have P1:=P0.fresh f1;obtain⟨G2,O',z2o,hd⟩:=Uj T hc F hp (P1.Uf I) I.ok I.l8 (b:=nb%9) (by omega) hfu;have z2:=λ{d}{k}=>z2o d k;clear z2o;obtain⟨vl',vs',vi',P2,s2⟩:=P1.vop hd;obtain⟨G3,z3o,f3⟩:=pT (cp:=aN Tryz.prog) (fuel:=fuel) (c:=lt%200) T P2.cO.wf (by omega) (by omega);have z3:=λ{d}{k}=>z3o (d+8) k;clear z3o;have P3:=P2.fresh f3;have hq:=n_ (nb%9);obtain⟨G4,z4o,s4,C4⟩:=Ec (cp:=aN Tryz.prog) (fuel:=fuel) (l:=32) T P3.ch hq (by omega);have z4:=λ{d}{k}=>z4o (d+7) k;clear z4o;obtain⟨P4,s4'⟩:=P3.cop s4 C4;have hx:H.n<G0.n:=by omega
 have hX:=λh=>Qc _ (P.lt _ h);have m1:=f1.n;have m2:=s2.n;have m3:=f3.n;have q1:=f1.same _ hx;have t2:=s2.same H.n (by omega) hX;have q2:=t2.1;have q3:G3.get H.n=G2.get H.n:=f3.same _ (by omega);have q4:=(s4'.same _ (by omega) t2.2).1;have p1:=q1.trans p0;have p2:=q2.trans p1;have p3:=q3.trans p2;have hN:∀{G:Heap},G.get H.n=.cells [.int 4 kd,.int 4 nb,.int 4 lt]->Uw (G.get H.n):=λh=>⟨_,h,λv hv=>by rcases YS.1 hv with rfl|hv;exact⟨_,_,rfl⟩;rcases YS.1 hv with rfl|hv;exact⟨_,_,rfl⟩;rw[YM.1 hv];exact⟨_,_,rfl⟩⟩;refine⟨G4,O',vl',vs',vi',v,λd k=>?_,P4,(f0.trans f1).step.trans (s2.trans (f3.step.trans s4'))⟩;have e1:=m_ nb;have rm:∀{id}{f},gv id (.rem 256) kd 6 f=f (kd%6):=λ{id f}=>iF hkd (by omega) (by omega);have rn:∀{id}{f},gv id (.rem 9223372036854775808) nb 9 f=f (nb%9):=λ{id f}=>iF (by omega) (by omega) (by omega);have rl:∀{id}{f},gv id (.rem 256) lt 200 f=f (lt%200):=λ{id f}=>iF (by omega) (by omega) (by omega);rw[aI T.Vq rfl rfl]
 rcases hk with hk|hk;.simp only[go_sem,XK,ug,uh,w,hG0,p0,↓rm,↓rn,hk,e1,Er,fY];refine(sf (o:=2) (v:=.int 4 lt) rfl hx (λk=>by simp only[go_sem,p0]) (λk=>kR (hN p0) λG hG=>by cases hG)).trans ?_;simp only[go_sem,fY,↓rl];refine(jn (v:=.str 32 (enc (eD (lt%200) 32))) (H':=G1) (λk=>by simp only[go_sem,↓z1]) (λk=>eT λb hb=>by rw[YM.1 hb];exact⟨hN p0,q1⟩)).trans ?_;refine(jn (v:=.int 3 ((Uv m A.len (nb%9) (dT (lt%200))).E pk A a)) (H':=G2) (λk=>by simp only[go_sem,↓z2]) (λk=>eT λb hb=>by rw[YM.1 hb];exact⟨hN p1,q2⟩)).trans ?_;simp only[go_sem,fY,↓rn];refine(sf (o:=2) (v:=.int 4 lt) rfl hx (λk=>by simp only[go_sem,p2]) (λk=>kR (hN p2) λG hG=>by
   rcases YS.1 hG with rfl|hG;.exact q2.symm
   .rw[YM.1 hG];exact(q2.trans q1).symm)).trans ?_;simp only[go_sem,fY,↓rl];refine(jn (v:=.str 32 (enc (eD (lt%200) 32))) (H':=G3) (λk=>by simp only[go_sem,↓z3]) (λk=>eT λb hb=>by
   have hb':b=H.n:=by rcases YS.1 hb with rfl|hb;rfl;exact YM.1 hb
   rw[hb'];exact⟨hN p2,q3⟩)).trans ?_;refine(jn (v:=.int 3 (if nb%9<c.size/\(32:Nat)=32then 0 else 2)) (H':=G4) (λk=>by simp only[go_sem,↓z4]) (λk=>eT λb hb=>by
   have hb':b=H.n:=by rcases YS.1 hb with rfl|hb;rfl;exact YM.1 hb
   rw[hb'];exact⟨hN p3,q4⟩)).trans ?_;simp only[go_sem,fY,xi]
 .simp only[go_sem,XK,ug,uh,w,hG0,p0,↓rm,↓rn,hk,e1,Er,fY];refine(sf (o:=2) (v:=.int 4 lt) rfl hx (λk=>by simp only[go_sem,p0]) (λk=>kR (hN p0) λG hG=>by cases hG)).trans ?_;simp only[go_sem,fY,↓rl];refine(jn (v:=.str 32 (enc (eD (lt%200) 32))) (H':=G1) (λk=>by simp only[go_sem,↓z1]) (λk=>eT λb hb=>by rw[YM.1 hb];exact⟨hN p0,q1⟩)).trans ?_;refine(jn (v:=.int 3 ((Uv m A.len (nb%9) (dT (lt%200))).E pk A a)) (H':=G2) (λk=>by simp only[go_sem,↓z2]) (λk=>eT λb hb=>by rw[YM.1 hb];exact⟨hN p1,q2⟩)).trans ?_;simp only[go_sem,fY,↓rn];refine(sf (o:=2) (v:=.int 4 lt) rfl hx (λk=>by simp only[go_sem,p2]) (λk=>kR (hN p2) λG hG=>by
   rcases YS.1 hG with rfl|hG;.exact q2.symm
   .rw[YM.1 hG];exact(q2.trans q1).symm)).trans ?_;simp only[go_sem,fY,↓rl];refine(jn (v:=.str 32 (enc (eD (lt%200) 32))) (H':=G3) (λk=>by simp only[go_sem,↓z3]) (λk=>eT λb hb=>by
   have hb':b=H.n:=by rcases YS.1 hb with rfl|hb;rfl;exact YM.1 hb
   rw[hb'];exact⟨hN p2,q3⟩)).trans ?_;refine(jn (v:=.int 3 (if nb%9<c.size/\(32:Nat)=32then 0 else 2)) (H':=G4) (λk=>by simp only[go_sem,↓z4]) (λk=>eT λb hb=>by
   have hb':b=H.n:=by rcases YS.1 hb with rfl|hb;rfl;exact YM.1 hb
   rw[hb'];exact⟨hN p3,q4⟩)).trans ?_;simp only[go_sem,fY,xi]
structure NI(m:MT)(next:Nat):Prop where
 tok:m.tok=nY
 g:∀s∈m.ae,s.g.1=1/\s.g.2<next
theorem NI.zQ{m:MT}{next:Nat}(h:NI m next)(h1:0<next):dJ (1,next) (cz m).g=true:=by
 rcases hn:m.ae.length with _|q;.rw[ee hn];show dJ (1,next) (0,0)=true;simp[dJ]
 .have hs:m.ae[q]?=some m.ae[q]:=YA (by omega);rw[dG hs hn];obtain⟨g1,g2⟩:=h.g _ (YP (by omega:q<m.ae.length));simp[dJ,g1,g2]
def Bb(m:MT)(next:Nat):Tk:=⟨(cz m).g,(1,next),1,1,[]⟩
theorem TT{next b}{d}(N:NI m next)(h1:0<next)(hn:next<1000)(h8:m.live.length=8)(hb:b<8)(hd:d.1=32)(hk:sO d):Hq m (Bb m next) [(b,d)]:=⟨rfl,N.zQ h1,⟨by show 1<18446744073709551616;omega,by show next<18446744073709551616;omega⟩,by show 1<=_;omega,YC 1,by rfl,by rw[h8];exact qp.one hb hd hk⟩
theorem Lj{next}(N:NI m next):mI m (Bb m next)=(cz m).bP:=by unfold mI;rw[if_neg];intro h;have:=h.2.1;rw[N.tok]at this;exact absurd (congrArg Prod.fst this) (by show¬(0:Nat)=1;omega)
theorem TJ(T:aB t)(hc:aP t)(F:bC pk unpk)(hp:t 110=some (.nat (dC pk)))(P:PD H X dp vp p A O m vl vs vi false c v)(I:VI pk A a n us m c0)(hl:m.ae.length<900)(hs:c.size=8){b lt next}(hb:b<8)(N:NI m next)(h1:0<next)(hnx:next<1000){vx}(hX:Row H (PQ vp p O v) vx 2 1 [.int 3 b,.str 32 (enc (eD lt 32))])(hfu:1000000<fuel):∃G7 G8 G9 O' vl' vs' vi' v',(∀(d)(k),aj (aT (aN Tryz.prog) t fuel (d+9)) (.func 32 []) [.ptr vp 0,.agg (bu (Bb m next) .aC),vx] H k=k (.int 3 ((vW m A.len (Bb m next) [(b,dT lt)]).E pk A a)) G7)/\(∀(d)(k),aj (aT (aN Tryz.prog) t fuel (d+9)) (.func 28 []) [.int 7 1,.int 7 next] G7 k=k (.agg [.int 7 1,.int 7 next]) G8)/\(∀(d)(k),aj (aT (aN Tryz.prog) t fuel (d+9)) (.func 36 []) [.ptr p 0,.agg [.int 7 1,.int 7 next],vx] G8 k=k (.int 3 (dH c (1,next))) G9)/\PD G9 X dp vp p ((vW m A.len (Bb m next) [(b,dT lt)]).A1 pk A a) O' ((vW m A.len (Bb m next) [(b,dT lt)]).M pk A a m) vl' vs' vi' ((vW m A.len (Bb m next) [(b,dT lt)]).L pk A a) (Hc c (1,next) [(b,dT lt)]) v'/\Step H (PQ vp p O v) G9 (PQ vp p O' v'):=by have hg:jN (1,next):=⟨by simp,by omega⟩;have Z:=TT N h1 hnx I.l8 hb rfl (wT lt);obtain⟨G7,O',z7,hd⟩:=GC (y:=.aC) T hc F hp (P.Uf I) I.ok I.l8 Z (xU I.yG) rfl (hX.mK λb _ h=>YE h) (by simp) (by rw[Lj N];exact lz I.ok I.l8) hl hfu;obtain⟨vl',vs',vi',P7,s7⟩:=P.vop hd;obtain⟨G8,z8o,f8⟩:=fO T P7.cO.wf;have P8:=P7.fresh f8;obtain⟨G9,v',z9o,s9,C9⟩:=Af (fuel:=fuel) (cs:=[(b,dT lt)]) T P8.ch hg ((hX.cm s7).fresh f8) (by simp) (by rw[hs];exact qp.one hb rfl (wT lt)) (by omega);obtain⟨P9,s9'⟩:=P8.cop s9 C9;exact⟨G7,G8,G9,O',vl',vs',vi',v',z7,λd k=>z8o (d+8) k,λd k=>z9o (d+5) k,P9,s7.trans (f8.step.trans s9')⟩
theorem Xu(T:aB t)(hc:aP t)(F:bC pk unpk)(hp:t 110=some (.nat (dC pk)))(P:PD H X dp vp p A O m vl vs vi false c v)(I:VI pk A a n us m c0)(hl:m.ae.length<900)(hs:c.size=8){kd nb lt next:Nat}(N:NI m next)(h1:0<next)(hnx:next<1000)(hk:kd%6=5)(hkd:kd<256)(hnb:nb<256)(hlt:lt<256)(hfu:1000000<fuel):lV pk t fuel H X dp vp p a A O m v kd nb lt next (vW m A.len (Bb m next) [(nb%8,dT (lt%200))]) (Hc c (1,next) [(nb%8,dT (lt%200))],dH c (1,next)):=by
 have w:=P.cO.wf;obtain⟨G0,hG0,f0,p0,n0⟩:=Heap.aR w (.cells [.int 4 kd,.int 4 nb,.int 4 lt]);have P0:=P.fresh f0;have w0:=f0.wf;obtain⟨Ga,hGa,fa,pa,na⟩:=Heap.aR w0 (.cells [.int 3 (nb%8),.int 4 (lt%200)]);have Pa:=P0.fresh fa;have hq:=n_ (nb%8);obtain⟨G1,vx,z1o,f1,o1⟩:=yS (cp:=aN Tryz.prog) (fuel:=fuel) (cx:=2) (sx:=0) T fa.wf pa (by omega) hq (by omega) (by omega);have z1:=λ{d:Nat}{k:K}=>z1o (d+7) k;clear z1o;have P1:=Pa.fresh f1;have w1:=f1.wf;have hX1:Row G1 (PQ vp p O v) vx 2 1 [.int 3 (nb%8),.str 32 (enc (eD (lt%200) 32))]:=o1.toRow Pa.lt;obtain⟨G2,z2o,f2⟩:=fO (cp:=aN Tryz.prog) (fuel:=fuel) (a:=1) (b:=next) T w1;have z2:=λ{d:Nat}{k:K}=>z2o (d+8) k;clear z2o;have w2:=f2.wf;obtain⟨G3,hG3,f3,p3,n3⟩:=Heap.aR w2 (.cells [.int 7 0,.int 7 0,.int 7 0,.int 7 0,.int 3 0,.int 3 0,.aC]);have w3:=f3.wf;have b3:G2.n<G3.n:=by omega
 obtain⟨G4,hG4,f4,p4,n4,w4,k4⟩:=Heap.aZ (b:=G2.n) f3 (YC _) b3 (.cells [.int 7 0,.int 7 0,.int 7 1,.int 7 next,.int 3 1,.int 3 1,.aC]);have f24:=f2.trans f4;have P4:=P1.fresh f24;obtain⟨G5,vL,z5o,f5,o5⟩:=rB (cp:=aN Tryz.prog) (fuel:=fuel) T (P4.Uf I) (by omega);have z5:=λ{d:Nat}{k:K}=>z5o (d+8) k;clear z5o;have P5:=P4.fresh f5;have w5:=f5.wf;have p5:G5.get G2.n=.cells [.int 7 0,.int 7 0,.int 7 1,.int 7 next,.int 3 1,.int 3 1,.aC]:=(f5.same _ (by omega)).trans p4;have b5:G2.n<G5.n:=by have:=f5.n;omega
 have jx:=λ{id:Nat}{k:R}=>aM o1.one (id:=id) (k:=k);have sL:=λ{id:Nat}{f:Nat->R}=>o5.sn (id:=id) (f:=f);have c9:=l_ m.ae.length;have e1:=m_ nb;have e3:lt<256:=hlt;have rm:∀{id:Nat}{f:Nat->R},gv id (.rem 256) kd 6 f=f (kd%6):=λ{id f}=>iF hkd (by omega) (by omega);have rn:∀{id:Nat}{f:Nat->R},gv id (.rem 9223372036854775808) nb 8 f=f (nb%8):=λ{id f}=>iF (by omega) (by omega) (by omega);have rl:∀{id:Nat}{f:Nat->R},gv id (.rem 256) lt 200 f=f (lt%200):=λ{id f}=>iF (by omega) (by omega) (by omega);have s04:ah H G1:=f0.trans (fa.trans f1);by_cases h0:m.ae.length=0
 .have hst:Bb m next=⟨(0,0),(1,next),1,1,[]⟩:=by unfold Bb;rw[ee h0]
  obtain⟨G7,G8,G9,O',vl',vs',vi',v',z7,z8,z9,P9,s9⟩:=TJ T hc F hp P5 I hl hs (lt:=lt%200) (by omega:nb%8<8) N h1 hnx ((hX1.fresh f24).fresh f5) hfu;refine⟨G9,O',vl',vs',vi',v',λd k=>?_,P9,(s04.trans (f24.trans f5)).step.trans s9⟩;have z7:=λ{d:Nat}{k:K}=>z7 d k;have z8:=λ{d:Nat}{k:K}=>z8 d k;have z9:=λ{d:Nat}{k:K}=>z9 d k;rw[hst]at z7⊢;simp only[bu]at z7;rw[aI T.Vq rfl rfl];simp only[go_sem,XK,ug,uh,w,hG0,p0,↓rm,hk,e1];simp only[go_sem,Pu,Pv,Pw,p0,w0,hGa,↓rn,↓rl,↓z1,↓z2,w2,hG3,p3,b3,w3,hG4,↓z5];simp only[go_sem,ZE,Px,↓sL,h0,Py,Pz,p5,↓z7,↓z8,↓z9]
 .obtain⟨q,hqn⟩:∃q,m.ae.length=q+1:=⟨m.ae.length-1,by omega⟩;have hqs:m.ae[q]?=some m.ae[q]:=YA (by omega);have hgi:(m.ae.map (·.g))[q]?=some m.ae[q].g:=by rw[Yq,hqs];rfl
  have hlg:(cz m).g=m.ae[q].g:=by rw[dG hqs hqn]
  have hst:Bb m next=⟨m.ae[q].g,(1,next),1,1,[]⟩:=by unfold Bb;rw[hlg]
  have hL:=o5.toRow (O:=λ_=>False) λb h=>h.elim;obtain⟨bL,oL,cL,zL,hvL,hbL,-,hrL⟩:=hL.open (i:=q) (by omega);rw[oR hgi]at hrL;have hrL:=λ{id:Nat}{k:List V->R}=>(hrL (G:=G5) rfl).1 (id:=id) (k:=k);generalize m.ae[q].g=g at hrL hst;simp only[aY]at hrL;subst hvL;obtain⟨G6,hG6,f6,p6,n6,w6,k6⟩:=Heap.aZ (b:=G2.n) (f4.trans f5) (YC _) b5 (.cells [.int 7 g.1,.int 7 g.2,.int 7 1,.int 7 next,.int 3 1,.int 3 1,.aC]);have f26:=f2.trans f6;obtain⟨G7,G8,G9,O',vl',vs',vi',v',z7,z8,z9,P9,s9⟩:=TJ T hc F hp (P1.fresh f26) I hl hs (lt:=lt%200) (by omega:nb%8<8) N h1 hnx (hX1.fresh f26) hfu;refine⟨G9,O',vl',vs',vi',v',λd k=>?_,P9,(s04.trans f26).step.trans s9⟩;have z7:=λ{d:Nat}{k:K}=>z7 d k;have z8:=λ{d:Nat}{k:K}=>z8 d k;have z9:=λ{d:Nat}{k:K}=>z9 d k;rw[hst]at z7⊢;simp only[bu]at z7;have h0':(m.ae.length=0)=False:=eq_false h0;have a1:(m.ae.length+18446744073709551615)%18446744073709551616=q:=by omega
  have a2:=l_ q;have a3:q<m.ae.length:=by omega
  have a4:=n_ q;have a5:0<m.ae.length:=by omega
  rw[aI T.Vq rfl rfl];simp only[go_sem,XK,ug,uh,w,hG0,p0,↓rm,hk,e1];simp only[go_sem,Pu,Pv,Pw,p0,w0,hGa,↓rn,↓rl,↓z1,↓z2,w2,hG3,p3,b3,w3,hG4,↓z5];simp only[go_sem,ZE,Px,↓sL,c9,a1,a2,a3,a5,↓hrL,p5,w5,b5,hG6];simp only[go_sem,Py,Pz,p6,↓z7,↓z8,↓z9]
end
theorem fW.e0{A:AD}{m:MT}{e:Nat}{o:jB}{c:CH}(h:fW A m ⟨e,o.m1,o.bw⟩ c):fW A m o c:=⟨h.ok,h.yG,h.l8,h.bw,h.nd,h.len,h.s8,h.ag⟩
theorem NI.mono{m:MT}{a b:Nat}(h:NI m a)(hab:a<=b):NI m b:=⟨h.tok,λs hs=>⟨(h.g s hs).1,YF (h.g s hs).2 hab⟩⟩
def od(A:AD)(m:MT)(c:CH)(o:jB)(r:CH×Nat)(next:Nat):Prop:=(o.e0≠0/\o.e0≠7/\r=(c,o.e0))\/o.e0=7\/(o.e0=0/\r.2=0/\fW A m o r.1/\NI o.m1 next)
section
variable{pk:List UInt8->List (List UInt8)}{A:AD}{a n:Nat}{us:List Wr}{m:MT}{c:CH}{next:Nat}
theorem XE(I:VI pk A a n us m c)(N:NI m next){b}{d}(hd:d.1=32)(hk:sO d):od A m c (Uv m A.len b d) (J3 c b d,if b<c.size/\(32:Nat)=32then 0 else 2) next:=by
 have hs:=I.s8;unfold od Uv;by_cases hb:b<8
 .by_cases hf:iU m A.len b d;.simp_all
  .right;right;refine⟨by simp_all,by simp_all,(J5 I hb hd hk hf).e0,N.tok,N.g⟩
 .have:J3 c b d=c:=by unfold J3;rw[if_neg (by omega)]
  simp_all
theorem Xo(I:VI pk A a n us m c)(N:NI m next)(h1:0<next)(hn:next<1000):od A m c (ZW m (1,next)) (zJ c (1,next),dH c (1,next)) (next+1):=by
 have hab:=N.zQ h1;have hl:=I.last.1;have hlen:=I.ag.len;unfold od ZW;by_cases h20:20<=m.ae.length
 .have hx:dH c (1,next)=3:=by unfold dH;simp_all
  have:zJ c (1,next)=c:=by unfold zJ;simp_all
  simp_all
 .right;right;have hx:dH c (1,next)=0:=by unfold dH;simp_all
  refine⟨by simp_all,hx,(N9 I ⟨by simp,by omega⟩ hab (by omega)).e0,rfl,λs hs=>?_⟩;rcases Yo.1 (show s∈m.ae++[⟨(1,next),m.live,false⟩]from hs)with hs|hs;.exact⟨(N.g s hs).1,by have:=(N.g s hs).2;omega⟩
  simp_all
theorem W5(I:VI pk A a n us m c)(N:NI m next){q}:od A m c (ZR m q) (Ur c q,if c.ae.length<q then 2 else 0) next:=by
 have hlen:=I.ag.len;unfold od ZR;by_cases hq:m.ae.length<q
 .have:Ur c q=c:=by unfold Ur;simp_all
  simp_all
 .right;right;exact⟨by simp_all,by simp_all,(zF I (by omega)).e0,rfl,λs hs=>N.g s (WI hs)⟩
theorem xk(m)(g):(cT m g).2≠7:=by
 unfold cT;split;.simp
 .split;.simp
  simp
theorem Vk(I:VI pk A a n us m c)(N:NI m next){g}:od A m c (hiO m g) (Uq c g,(oG c g).2) next:=by
 have hf:=I.ag.find g;unfold od hiO;by_cases h0:(cT m g).2=0
 .right;right;refine⟨h0,by simp_all,(Nb I h0).e0,N.tok,λs hs=>?_⟩;obtain⟨i,hi,hr,-⟩:=kE h0;have hs:=hs;rw[hr]at hs;have hsi:=YA hi;have hm:(ES m i).ae=m.ae.set i {m.ae[i]with hid:=true}:=by unfold ES;simp_all
  rw[hm]at hs;rcases Wl hs with hs|rfl;.exact N.g s hs
  .exact N.g m.ae[i] (YP hi)
 .left;have:Uq c g=c:=by unfold Uq;simp_all
  exact⟨h0,xk m g,by simp_all⟩
theorem Xm(I:VI pk A a n us m c)(N:NI m next)(h1:0<next)(hn:next<1000){b}{d}(hb:b<8)(hd:d.1=32)(hk:sO d):od A m c (vW m A.len (Bb m next) [(b,d)]) (Hc c (1,next) [(b,d)],dH c (1,next)) (next+1):=by
 have hab:=N.zQ h1;have hl:=I.last;have hlen:=I.ag.len;have hL:=Lj N;unfold od vW;by_cases h20:20<=m.ae.length
 .have hx:dH c (1,next)=3:=by unfold dH;simp_all
  have:Hc c (1,next) [(b,d)]=c:=by unfold Hc;simp_all
  have hr:uK m (Bb m next)=3:=by unfold uK;rw[if_pos ⟨rfl,h20⟩]
  simp_all
 .have hr:uK m (Bb m next)=0:=by unfold uK;simp_all
  by_cases hf:iQ m A.len [(b,d)];.simp_all
  .right;right;have hx:dH c (1,next)=0:=by unfold dH;simp_all
   have hfin:¬(Bb m next).next<(Bb m next).all:=Qc 1;have G:=yp I (TT N h1 hn I.l8 hb hd hk) hfin (by omega) hf (by rw[hL];exact lz I.ok I.l8) (by rw[hL];exact Ff) (by simp) (bv:=zR c [(b,d)]) (by rw[hL,hl.2];rfl);have hc:Hc c (1,next) [(b,d)]={c with ae:=c.ae++[⟨zR c [(b,d)],(1,next),false⟩],live:=zR c [(b,d)]}:=by unfold Hc;simp_all
   refine⟨by simp_all,hx,by rw[hc];exact fW.e0 G,?_⟩;refine⟨rfl,λs hs=>?_⟩;rcases Yo.1 hs with hs|hs;.exact⟨(N.g s hs).1,by have:=(N.g s hs).2;omega⟩
   .rw[YM.1 hs];exact⟨rfl,Nat.lt_succ_self _⟩
theorem acu.len{tk:Tk}{last:Gd}{k:Nat}(h:qt tk last 8 k):tk.bP.length<=8:=by
 unfold qt at h;split at h;.rw[h.2.2.2];exact Ya _
 .exact YQ2 h.2.2.2.2.2.len
theorem KP{k}:∀{L:List (List Nat)},(∀l∈L,l.length<=k)->L.flatten.length<=L.length*k|[],_=>Ya _|l::L,h=>by have h1:=h l (YL ..);have h2:=KP λx hx=>h x (YI _ hx);rw[WO,YB,YG,We];omega
theorem vT(I:fX m 8 400):20<=(cI (eK m 400)).length:=by
 have h1:((WV 400).filter λi=>decide (193<=i)).length=207:=by rfl
 have hnd:((WV 400).filter λi=>decide (193<=i)).Nodup:=List.Pairwise.filter _ YJ3;have hsub:((WV 400).filter λi=>decide (193<=i))⊆cI (eK m 400)++(cU m).flatten:=λi hi=>by
  rw[Wp,QD,decide_eq_true_eq]at hi;by_cases hc:(nz (cU m).flatten).count i=0;.refine QK _ ?_;unfold cI;rw[Wp,QD,decide_eq_true_eq];unfold eK;rw[dB,oH hi.1,hc];simp_all
  .refine List.mem_append_right _ ?_;have:=Classical.byContradiction λh=>hc (YD0.2 h);exact(SS.1 this).1
 have hle:=List.Nodup.length_le_of_subset hnd hsub;have hfl:(cU m).flatten.length<=(cU m).length*8:=KP λl hl=>by
  unfold cU at hl;rcases YS.1 hl with rfl|hl;.exact YQ2 I.live.len
  rcases YS.1 hl with rfl|hl;.exact acu.len I.tok
  .obtain⟨s,hs,rfl⟩:=Ye.1 hl;exact YQ2 (I.ae.mem hs).len
 have h3:(cU m).length=m.ae.length+2:=by unfold cU;simp
 have:=I.num;rw[YB,h1]at hle;omega
end
def yq(n:Nat)(m:MT)(kd nb lt next:Nat):jB:=if kd%6=0\/kd%6=1then Uv m n (nb%9) (dT (lt%200))else if kd%6=2then ZW m (1,next)else if kd%6=3then ZR m (nb%6)else if kd%6=4then hiO m (1,nb%8)else vW m n (Bb m next) [(nb%8,dT (lt%200))]
def Li(c:CH)(kd nb lt next:Nat):CH×Nat:=if kd%6=0\/kd%6=1then(J3 c (nb%9) (dT (lt%200)),if nb%9<c.size/\(32:Nat)=32then 0 else 2)else if kd%6=2then(zJ c (1,next),dH c (1,next))else if kd%6=3then(Ur c (nb%6),if c.ae.length<nb%6then 2 else 0)else if kd%6=4then(Uq c (1,nb%8),(oG c (1,nb%8)).2)else(Hc c (1,next) [(nb%8,dT (lt%200))],dH c (1,next))
section
variable{t:Nat->Option dr}{fuel:Nat}{H:Heap}{pk:List UInt8->List (List UInt8)}{unpk:List (List UInt8)->Option (List UInt8)}
variable{X:Nat->Prop}{dp vp p a n:Nat}{A:AD}{O:Nat->Prop}{m:MT}{vl vs vi v:V}{c:CH}{us:List Wr}
theorem TP(T:aB t)(hc:aP t)(F:bC pk unpk)(hp:t 110=some (.nat (dC pk)))(P:PD H X dp vp p A O m vl vs vi false c v)(I:VI pk A a n us m c){kd nb lt next}(N:NI m next)(h1:0<next)(hnx:next<1000)(hkd:kd<256)(hnb:nb<256)(hlt:lt<256)(hfu:1000000<fuel):lV pk t fuel H X dp vp p a A O m v kd nb lt next (yq A.len m kd nb lt next) (Li c kd nb lt next)/\od A m c (yq A.len m kd nb lt next) (Li c kd nb lt next) (next+1):=by
 have hl:m.ae.length<900:=by have:=I.ok.num;omega
 have N':=N.mono (Nat.le_succ next);unfold yq Li;by_cases k0:kd%6=0\/kd%6=1;.rw[if_pos k0,if_pos k0];exact⟨Xw T hc F hp P I k0 hkd hnb hlt hfu,XE I N' rfl (wT _)⟩
 rw[if_neg k0,if_neg k0];by_cases k2:kd%6=2;.rw[if_pos k2,if_pos k2];exact⟨Xv T hc F hp P I hl k2 hkd hnb hnx hfu,Xo I N h1 hnx⟩
 rw[if_neg k2,if_neg k2];by_cases k3:kd%6=3;.rw[if_pos k3,if_pos k3];exact⟨Xt T hc F hp P I k3 hkd hnb hfu,W5 I N'⟩
 rw[if_neg k3,if_neg k3];by_cases k4:kd%6=4;.rw[if_pos k4,if_pos k4];exact⟨Xs T hc F hp P I k4 hkd hnb hfu,Vk I N'⟩
 rw[if_neg k4,if_neg k4];exact⟨Xu T hc F hp P I hl I.s8 N h1 hnx (by omega) hkd hnb hlt hfu,Xm I N h1 hnx (by omega) rfl (wT _)⟩
def Ux(pk:List UInt8->List (List UInt8))(t:Nat->Option dr)(fuel:Nat)(H:Heap)(X:Nat->Prop)(dp vp p:Nat)(A:AD)(O:Nat->Prop)(m:MT)(c:CH)(v:V)(kd nb lt next:Nat):Prop:=∃H' A' O' vl' vs' vi' v' m' c' ch1 E F a' n' us',(∀(d:Nat)(k:K),aj (aT (aN Tryz.prog) t fuel (d+10)) (.func 20 []) [.ptr vp 0,.ptr p 0,.agg [.int 4 kd,.int 4 nb,.int 4 lt],.int 7 next] H k=k (.cG [.int 3 E,.int 3 F]) H')/\PD H' X dp vp p A' O' m' vl' vs' vi' false ch1 v'/\Step H (PQ vp p O v) H' (PQ vp p O' v')/\VI pk A' a' n' us' m' c'/\A'.aX=0/\A'.len=A.len/\A'.room=A.room/\NI m' (next+1)/\((E≠7/\E=F/\ch1=c')\/(E=7/\c'=c))/\(A.len=400->E≠7)
theorem VI.vT(I:VI pk A a n us m c)(h:A.len=400):20<=(cI (eK m 400)).length:=Go.Ev.vT (by have:=I.ok;rw[h]at this;exact this)
theorem JO(I:VI pk A a n us m c)(h:A.len=400){kd nb lt next:Nat}:(yq A.len m kd nb lt next).e0≠7:=by
 have hr:=I.vT h;unfold yq;split
 .unfold Uv;have:¬iU m A.len (nb%9) (dT (lt%200)):=λhf=>by unfold iU at hf;rw[h]at hf;have:=kM [(nb%9,dT (lt%200))] 1;omega
  by_cases hb:nb%9<8<;>simp[hb,this]
 split
 .unfold ZW;show(if dJ (1,next) (cz m).g=false then 2 else if 20<=m.ae.length then 3 else 0)≠7;split;.omega
  .split<;>omega
 split;.unfold ZR;show(if m.ae.length<nb%6then 2 else 0)≠7;split<;>omega
 split;.exact xk m _
 .unfold vW;have:¬iQ m A.len [(nb%8,dT (lt%200))]:=λhf=>by unfold iQ at hf;rw[h]at hf;have:=kM [(nb%8,dT (lt%200))] 1;have h2:[(nb%8,dT (lt%200))].length=1:=rfl;rw[h2]at hf;omega
  show(if uK m (Bb m next)≠0then uK m (Bb m next)else if iQ m A.len [(nb%8,dT (lt%200))]then 7 else 0)≠7;rw[if_neg this];unfold uK;split<;>split<;>omega
theorem TQ(T:aB t)(hc:aP t)(F:bC pk unpk)(hp:t 110=some (.nat (dC pk)))(P:PD H X dp vp p A O m vl vs vi false c v)(I:VI pk A a n us m c)(hf:A.aX=0){kd nb lt next:Nat}(N:NI m next)(h1:0<next)(hnx:next<1000)(hkd:kd<256)(hnb:nb<256)(hlt:lt<256)(hfu:1000000<fuel):Ux pk t fuel H X dp vp p A O m c v kd nb lt next:=by
 obtain⟨⟨H',O',vl',vs',vi',v',z,P',s⟩,hR⟩:=TP T hc F hp P I N h1 hnx hkd hnb hlt hfu;have hroom:A.len=400->(yq A.len m kd nb lt next).e0≠7:=λh=>JO I h;have N':=N.mono (Nat.le_succ next);generalize yq A.len m kd nb lt next=o at z P' hR hroom;generalize Li c kd nb lt next=r at z P' hR;rcases hR with⟨h0,h7,hr⟩|h7|⟨h0,hr,G,N1⟩
 .have e1:o.E pk A a=o.e0:=by unfold jB.E;simp_all
  have e2:o.A1 pk A a=A:=by unfold jB.A1;simp_all
  have e3:o.M pk A a m=m:=by unfold jB.M;simp_all
  have e4:o.L pk A a=false:=by unfold jB.L;simp_all
  rw[e1]at z;rw[e2,e3,e4]at P';subst hr;exact⟨H',A,O',vl',vs',vi',v',m,c,c,o.e0,o.e0,a,n,us,z,P',s,I,hf,rfl,rfl,N',YH ⟨h7,rfl,rfl⟩,λ_=>h7⟩
 .have h0:o.e0≠0:=by omega
  have e1:o.E pk A a=7:=by unfold jB.E;simp_all
  have e2:o.A1 pk A a=A:=by unfold jB.A1;simp_all
  have e3:o.M pk A a m=m:=by unfold jB.M;simp_all
  have e4:o.L pk A a=false:=by unfold jB.L;simp_all
  rw[e1]at z;rw[e2,e3,e4]at P';exact⟨H',A,O',vl',vs',vi',v',m,c,r.1,7,r.2,a,n,us,z,P',s,I,hf,rfl,rfl,N',YE ⟨rfl,rfl⟩,λh=>absurd h7 (hroom h)⟩
 .obtain⟨g1,g2,g3,g4,a',n',us',I'⟩:=G.done F I hf;have e1:o.E pk A a=0:=by unfold jB.E;simp_all
  have e2:o.A1 pk A a=(j8 pk A a o.m1 o.bw).1:=by unfold jB.A1;simp_all
  have e3:o.M pk A a m=o.m1:=by unfold jB.M HX;simp_all
  have e4:o.L pk A a=false:=by unfold jB.L Rp;simp_all
  rw[e1,hr]at z;rw[e2,e3,e4]at P';exact⟨H',_,O',vl',vs',vi',v',o.m1,r.1,r.1,0,0,a',n',us',z,P',s,I',g2,g3,g4,N1,YH ⟨by omega,rfl,rfl⟩,λ_=>by omega⟩
end
section
variable{cp:RC->au}{t:Nat->Option dr}{fuel:Nat}{H H':Heap}{pk:List UInt8->List (List UInt8)}{unpk:List (List UInt8)->Option (List UInt8)}
variable{X:Nat->Prop}{dp vp p q a n:Nat}{A:AD}{O:Nat->Prop}{m:MT}{vl vs vi v v0:V}{c c0:CH}{us:List Wr}{lost:Bool}
theorem PD.new(S:VP H dp vp a n A O m vl vs vi)(f:ah H H')(C:iZ H' q c v)(hq:∀b,CQ q v b->H.n<=b):PD H' (λ_=>False) dp vp q A O m vl vs vi false c v:=by have S':=S.fresh f;exact⟨S'.cO,S'.get,S'.vn,S'.vo,(S.lO.mK λb hb h=>h.elim (λh=>h.elim False.elim λh=>by have:=hq b h;omega) id).fresh f,C,λb hb h=>by have:=hq b hb;have:=S.lt b h;omega,λb h=>h.elim,λb h=>h.elim,λb h=>h.elim⟩
theorem ZQ(T:aB t)(hc:aP t)(P:PD H X dp vp p A O m vl vs vi false c v)(I:VI pk A a n us m c0)(hs:c.size=8)(hfu:1000<fuel):∃H' b,(∀(d)(k),aj (aT cp t fuel (d+6)) (.func 24 []) [.ptr vp 0,.ptr p 0] H k=k (.bool b) H')/\PD H' X dp vp p A O m vl vs vi false c v/\Step H (bz O vp) H' (bz O vp)/\(fU A m c->b=true):=by obtain⟨H',b,z,V',hb⟩:=UG T hc (P.Uf I) P.ch P.U2 I.l8 hs (λq hq=>by have:=I.ok.live.pl q hq;have:=I.lo;omega) (λs hs q hq=>by have:=(I.ok.ae.mem hs).pl q hq;have:=I.lo;omega) (λs hs=>by rw[(I.ok.ae.mem hs).len,I.l8]) hfu;exact⟨H',b,z,⟨V'.vp.cO,V'.vp.get,V'.vp.vn,V'.vp.vo,P.lO.cm V'.st.or,V'.ch,P.U2,λb hb=>YF (P.xn b hb) V'.st.n,P.xc,P.xo⟩,V'.st,hb⟩
end
noncomputable def xP(args:List V)(H:Heap)(k:K):R:=match args with|[]=>k (.bool true) H|_=>no 0
abbrev D3:=Nat×Nat×Nat
def RQ(x:D3):List V:=[.int 4 x.1,.int 4 x.2.1,.int 4 x.2.2]
def El(l:List D3):List V:=l.flatMap RQ
theorem wY:∀{l}{i}{x},l[i]?=some x->((El l).drop (i*3)).take 3=RQ x
 |[],i,x,h=>by simp_all|a::l,0,x,h=>by simp at h;subst h;rfl|a::l,i+1,x,h=>by
  have h':=by omega
  rw[show(i+1)*3=3+i*3by omega,<-Qd];exact wY h'
structure ua(H:Heap)(v:V)(ds:List D3):Prop where row:Row H (λ_=>False) v 3 ds.length (El ds)lt:∀x∈ds,x.1<256/\x.2.1<256/\x.2.2<256n:ds.length<9223372036854775808
theorem ua.fresh{H H':Heap}{v:V}{ds:List D3}(h:ua H v ds)(f:ah H H'):ua H' v ds:=⟨h.row.fresh f,h.lt,h.n⟩
section
variable{t:Nat->Option dr}{fuel:Nat}{H:Heap}{pk:List UInt8->List (List UInt8)}{unpk:List (List UInt8)->Option (List UInt8)}
structure LI(pk:List UInt8->List (List UInt8))(H0 G:Heap)(X:Nat->Prop)(dp vp p:Nat)(A:AD)(O:Nat->Prop)(m:MT)(vl vs vi:V)(c:CH)(v:V)(a n:Nat)(us:List Wr)(next:Nat):Prop where
 pd:PD G X dp vp p A O m vl vs vi false c v
 vi:VI pk A a n us m c
 aX:A.aX=0ni:NI m next
 fresh:ah H0 G
 own:∀b,PQ vp p O v b->H0.n<=b
theorem C7(hwk:t 7=some (.nat xP)){cp}(d)(k)(G):aj (aT cp t fuel (d+1)) (.func 14 []) [] G k=k (.bool true) G:=by rw[oE hwk rfl rfl];rfl
theorem afE:(⟨zT 8,8,[]⟩:CH)=c0:=rfl
theorem UZ{q b}:CQ q .aC b↔b=q:=⟨λh=>h.elim id (λ⟨_,_,_,_,h⟩=>(by cases h)),YH⟩
theorem Po(T:aB t)(hc:aP t)(F:bC pk unpk)(hp:t 110=some (.nat (dC pk)))(hu:t 85=some (.nat (eh unpk)))(hw:H.wf)(hfu:1000000<fuel):∃G1 G2 dp vp p,(∀(d)(k),aj (aT (aN Tryz.prog) t fuel (d+10)) (.func 16 []) [.int 3 8] H k=k (.cG [.ptr dp 0,.ptr vp 0]) G1)/\(∀(d)(k),aj (aT (aN Tryz.prog) t fuel (d+2)) (.func 18 []) [.int 3 8] G1 k=k (.ptr p 0) G2)/\∃A O m vl vs vi c v a n us,LI pk H G2 (λ_=>False) dp vp p A O m vl vs vi c v a n us 1/\A.len=400:=by
 obtain⟨G1,A,a,n,us,dp,vp,O,vl,vs,vi,z1,f1,S,I,g1,g2,g3,own⟩:=Fm T hc F hp hu hw hfu;obtain⟨G2,p,z2,f2,C,hv⟩:=L9 (fuel:=fuel) T f1.wf (by omega) (YC 8) (by omega);have hq:∀b,CQ p .aC b->G1.n<=b:=λb hb=>by rw[UZ.1 hb];omega
 exact⟨G1,G2,dp,vp,p,z1,z2,A,O,mz 8,vl,vs,vi,c0,.aC,a,n,us,⟨PD.new S f2 C hq,I,g1,⟨rfl,λs hs=>by cases hs⟩,f1.trans f2,λb hb=>hb.elim (λhb=>Ys f1.n (hq b hb)) (own b)⟩,g2⟩
end
end Go.Ev
end
section
namespace Go.Ev
open Go.Deep Go.ChangeShapes Go.WideShapes Go.RowKit
theorem yx{n:Int}:(n%(2^IntKind.u8.bits:Nat)).toNat<256:=by have h1:(0:Int)<=n%(2^IntKind.u8.bits:Nat):=Int.emod_nonneg _ (by simp[IntKind.bits]);have h2:n%(2^IntKind.u8.bits:Nat)<(2^IntKind.u8.bits:Nat):=Int.emod_lt_of_pos _ (by omega);simp only[IntKind.bits]at h1 h2⊢;omega
theorem IJ{α:Type}{len}{p}{i}{x:α}(hi:((WV len).map p)[i]?=some x):i<len/\x=p i:=by rw[Yq]at hi;obtain⟨q,h3,rfl⟩:=Option.map_eq_some_iff.1 hi;obtain⟨h4,h5⟩:=YW.1 h3;rw[List.getElem_range]at h5;simp_all
theorem tC:∀l:List D3,(El l).length=l.length*3|[]=>rfl|x::l=>by show(RQ x++El l).length=_;rw[YB,tC l,YG,We];show 3+_=_;omega
theorem MM{l}{i j}{x}(h:l[i]?=some x)(hj:j<3):(El l)[i*3+j]?=(RQ x)[j]?:=by rw[<-wY h,Yy,if_pos hj,WG]
section
variable{H:Type}{enc:TypeId×Value->H}{P:Program}{w:World}
theorem Ru{t q:TypeId}{k0 k1 k2:Field}{fuel:Nat}{v:Value}{x:DataW H×List MemPlace}(ht:P.underlying t=some (.slice q))(hq:P.underlying q=some (.struct #[k0,k1,k2]))(hq3:P.cellsOf q=3)(ko0:k0.offset=0)(ko1:k1.offset=1)(ko2:k2.offset=2)(kc0:P.cellsOf k0.type=1)(kc1:P.cellsOf k1.type=1)(kc2:P.cellsOf k2.type=1)(ku0:P.underlying k0.type=some (.int .u8))(ku1:P.underlying k1.type=some (.int .u8))(ku2:P.underlying k2.type=some (.int .u8))(h:DataW.trod enc P w 0 (λ_=>true) true fuel t [v]=some x)(hnf:w.noneFrozen x.2):∃ds,ua (ft w) (yH w.heap.size v) ds:=by
 obtain⟨h1,h2⟩:=JH ht hq3 (by omega) h hnf (λ_ _ _ _ _ hb=>(show False from hb).elim);rcases h2 with h2|⟨b,o,len,c,row,hl0,hl,hv,hb,hbn,hx⟩;.exact⟨[],⟨⟨rfl,λx hx=>(by cases hx),YH ⟨h2,rfl⟩⟩,λx hx=>(by cases hx),by simp⟩⟩
 have each:∀i,i<len->∃p:D3,(row[o+i*3]?=some (.int 4 p.1)/\row[o+i*3+1]?=some (.int 4 p.2.1)/\row[o+i*3+2]?=some (.int 4 p.2.2))/\p.1<256/\p.2.1<256/\p.2.2<256:=λi hi=>by obtain⟨cs,n,y,hlen,hcs,htr,hnf'⟩:=hx i hi;obtain⟨xs,n',_,hy,_,hxl,hf⟩:=DataW.trod_struct hq htr;match cs,hlen,xs,hxl with|[w0,w1,w2],_,[y0,y1,y2],_=>have a0:=hf 0 k0 rfl;have a1:=hf 1 k1 rfl;have a2:=hf 2 k2 rfl;simp[ko0,kc0]at a0;simp[ko1,kc1]at a1;simp[ko2,kc2]at a2;obtain⟨n0,e0,_,x0⟩:=DataW.trod_int ku0 a0;obtain⟨n1,e1,_,x1⟩:=DataW.trod_int ku1 a1;obtain⟨n2,e2,_,x2⟩:=DataW.trod_int ku2 a2;cases e0;cases e1;cases e2;have r0:=hcs 0 _ rfl;have r1:=hcs 1 _ rfl;have r2:=hcs 2 _ rfl;rw[nA x0]at r0;rw[nA x1]at r1;rw[nA x2]at r2;exact⟨(_,_,_),⟨r0,r1,r2⟩,yx,yx,yx⟩
 obtain⟨p,hp⟩:=choose_lt each;have hlen:((WV len).map p).length=len:=by rw[Yj,List.length_range]
 have hget:∀i,i<len->((WV len).map p)[i]?=some (p i):=λi hi=>by rw[Yq,List.getElem?_range hi];rfl
 have hlast:o+len*3<=row.length:=by have:=(YW.1 (hp (len-1) (by omega)).1.2.2).1;omega
 refine⟨(WV len).map p,⟨⟨tC _,λz hz=>?_,YE ⟨b,o,c,0,row,by rw[hv,hlen],YE hb,hbn,λh=>h,by rw[hlen];exact hlast,?_⟩⟩,λz hz=>?_,by omega⟩⟩;.obtain⟨y,-,hz⟩:=List.mem_flatMap.1 hz;rcases YS.1 hz with rfl|hz;rfl;rcases YS.1 hz with rfl|hz;rfl;rw[YM.1 hz];rfl
 .refine QV λk=>?_;rw[hlen,Yy];by_cases hk:k<len*3
  .rw[if_pos hk,WG];obtain⟨i,j,hj,rfl⟩:∃i j,j<3/\k=i*3+j:=⟨k/3,k%3,by omega,by omega⟩;have hi:i<len:=by omega
   rw[MM (hget i hi) hj];obtain⟨⟨r0,r1,r2⟩,-⟩:=hp i hi;match j,hj with|0,_=>exact r0|1,_=>exact r1|2,_=>exact r2
  .rw[if_neg hk,WJ (by rw[tC,hlen];omega)]
 .obtain⟨i,hi⟩:=QH hz;obtain⟨h3,rfl⟩:=IJ hi;exact(hp i h3).2
end
end Go.Ev
end
