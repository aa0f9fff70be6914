/- VC: a part of the evaluator,of its logic,or of the laws' walk in it. -/
import Derived.Test.YtabnemidjklolaaGreatDoorVB
import Derived.Test.YtabnemidjklolaaGreatDoorLC
import Derived.OpenShut
open List renaming getElem?_eq_getElem→YA,length_append→YB,getD_eq_getElem?_getD→YF,length_cons→YG,mem_cons_of_mem→YI,nil_append→YJ,cons_append→YK,mem_singleton→YL,mem_cons_self→YM,map_cons→YO,getElem_mem→YQ,mem_cons→YS,append_nil→YV,eq_nil_of_length_eq_zero→YW,getElem?_eq_some_iff→YX,map_nil→YY,replicate→YZ,take_of_length_le→Yh,length_map→Yi,mem_of_getElem?→Yj,mem_map→Yk,getElem?_append_right→Yl,mem_append→Yo,getElem?_append_left→Yp,getElem?_map→Ys,length_take→Yv,getElem?_take→Yy,append_assoc→WA,map_append→WB,getElem?_drop→WG,mem_of_mem_take→WI,length_drop→WK,getElem?_eq_none→WM,flatten_cons→WO,length_replicate→WT,range→WZ,length_pos_iff→Wa,map_replicate→We,length_set→Wg,take_append_of_le_length→Wk,mem_or_eq_of_mem_set→Wl,mem_filter→Wo,drop_zero→Wv,drop_append_of_le_length→Wz,getElem?_of_mem→QG,mem_append_left→QJ,findIdx?_eq_some_iff_getElem→QL,nodup_nil→QO,map_congr_left→QR,mem_range→QV,nodup_append→QX,drop_drop→Qf,ext_getElem?→Ql,take_add_one→Qn,take_left'→Qw,set_append_right→Qz,take_take→YA2,count_eq_zero→YD2,mem_replicate→YE0,map_set→YE3,getElem?_set→YE4,nodup_range→YJ4,replicate_succ'→YN4,findIdx?_cons→YP4,take_sublist→YQ4
open Nat renaming le_refl→YC,lt_of_lt_of_le→YE,beq→YN,zero_le→Ya,le_trans→Yq,mod_eq_of_lt→WE,zero_add→WH,add_zero→WL,add_sub_cancel→Wc,add_mul→Wf,sub_zero→Ws,zero_mul→QE,sub_self→QF,le_of_lt→Qc,lt_irrefl→YC3,le_of_eq→YR0
open Or renaming inr→YD,inl→YH
open Bool renaming false_eq_true→YT,not_true→WW,not_false→Wu,true_eq_false→Qh,and_true→Qx
open Option renaming getD_some→YU,getD_none→Ww
set_option linter.unusedVariables false
set_option linter.unusedSimpArgs false
set_option linter.unusedSectionVars false
set_option maxHeartbeats 8000000
open Nat renaming reduceAdd→ZA,reduceSub→ZB,reduceMul→ZC,reduceEqDiff→ZD,reduceLT→ZE,reduceDiv→ZF,reduceMod→ZG,reduceLeDiff→ZH
section
namespace Go.Ev
structure OB(A:AD)(ss:List (List UInt8)):Prop where at_:∀i(h:i<ss.length),A.read (145+i)=tx ss[i]
section
variable{cp:RC->au}{t:Nat->Option df}{fuel:Nat}{H:Heap}{O:Nat->Prop}{pk:List UInt8->List (List UInt8)}{unpk:List (List UInt8)->Option (List UInt8)}
theorem JM(T:aB t)(hc:aP t)(hu:t 85=some (.nat (dF unpk))){dp:Nat}{A:AD}{ss:List (List UInt8)}{tt:List UInt8}(hD:cK H dp A O)(ho:A.off=false)(hA:193<=A.len)(hA2:A.len<=1024)(hn:ss.length<=48)(h0:ss≠[])(h32:∀s∈ss,s.length=32)(hT:OB A ss)(hs:∀k,k<ss.length->unpk (ss.take k)=none)(hb:unpk ss=some tt)(hfu:1000<fuel):∃H',(∀(d:Nat)(k:K),aj (aU cp t fuel (d+4)) (.func 82 []) [.ptr dp 0] H k=k (.cG [tv tt,.int 3 0]) H')/\ah H H':=by
 have hl0:=Wa.2 h0;have n48:nn 48:=by unfold nn;omega
 have rd:∀(i)(v)(G),i<ss.length->ah H G->Gr H G v 1 i ((ss.take i).map tv)->∃v' G',ah H G'/\Gr H G' v' 1 (i+1) ((ss.take (i+1)).map tv)/\∀(d)(kx)(kn)(e)(x),af s000 e=.ptr dp 0->af s004 e=v->(unpk (ss.take (i+1))=none->∀e',af s000 e'=.ptr dp 0->af s004 e'=v'->kn e' G'=x)->(unpk (ss.take (i+1))=some tt->∀e',af s002 e'=tv tt->af s003 e'=.int 3 0->kx 0 e' G'=x)->(unpk (ss.take (i+1))=none\/unpk (ss.take (i+1))=some tt)->gO J3 fuel (aU cp t fuel (d+3)) e G kn kx=x:=by
  intro i v G hil f g;have hrd:=hT.at_ i hil;have h32i:=h32 _ (YQ hil);have htk:ss.take (i+1)=ss.take i++[ss[i]]:=by rw[Qn,YA hil];rfl
  obtain⟨G1,z1,f1⟩:=pt (cp:=cp) (fuel:=fuel) (a:=145+i) (T.iv hc) (hD.fresh f) ho (by omega);have z1:=λ{d}{k}=>z1 d k;rw[hrd,Zq]at z1;generalize ss[i]=s at htk z1 h32i;have w1:=f1.wf;obtain⟨G2,hG2,f2,p2,n2⟩:=Heap.aW w1 (.cells [tv s]);obtain⟨v',G3,hap,g3,f3,-,-⟩:=Gr.app (cx:=2) (sx:=0) (f.trans (f1.trans f2)) ((g.fresh f1).fresh f2) p2 rfl (λz hz=>by rw[YL.1 hz];rfl) (by omega);have hrow:(ss.take (i+1)).map tv=(ss.take i).map tv++[tv s]:=by rw[htk,WB];rfl
  rw[<-hrow]at g3;have hsn:=λ{id}{f}=>g.sn (id:=id) (f:=f);refine⟨v',G3,f3,g3,λd kx kn e x q0 q4 hkn hkx hor=>?_⟩;have a1:nn i:=by unfold nn;omega
  have a2:i<9223372036854775808:=by omega
  have a3:i<48:=by omega
  have a4:(145+i)%18446744073709551616=145+i:=by omega
  have i1:=λ{id}{k}=>aN g3.one (id:=id) (k:=k);have w3:=f3.wf;obtain⟨-,-,⟨-,g3'⟩|⟨b,c,sz,rfl,-,-,gb,-,-⟩⟩:=g3;.omega
  have hcl:∀{k},aj (aU cp t fuel (d+3)) (.func 170 []) [.slice b 0 (i+1) c sz] G3 k=k (Of (unpk (ss.take (i+1)))) G3:=λ{k}=>by rw[od hu rfl rfl,YV,uw gb (by rw[Yv];omega) (by omega) (λx hx=>by rw[h32 x (WI hx)];omega)]
  simp only[tv]at z1 hG2;rcases hor with hor|hor
  .rw[hor]at hcl;simp only[go_sem,reduceCtorEq,ZA,ZB,ZC,ZD,ZE,ZF,ZG,ZH,↓reduceIte,↓aE,J3,q0,q4,↓hsn,a1,a2,a3,a4,n48,↓z1,w1,hG2,↓hap,↓hcl];refine hkn hor _ ?_ ?_;.exact q0
   .rfl
  .rw[hor]at hcl;simp only[go_sem,reduceCtorEq,ZA,ZB,ZC,ZD,ZE,ZF,ZG,ZH,↓reduceIte,↓aE,J3,q0,q4,↓hsn,a1,a2,a3,a4,n48,↓z1,w1,hG2,↓hap,↓hcl];refine hkx hor _ ?_ ?_;.simp only[go_sem,↓aa,reduceCtorEq,ZA,ZB,ZC,ZD,ZE,ZF,ZG,ZH,↓reduceIte,tv]
   .rfl
 obtain⟨n,hn'⟩:∃n,ss.length=n+1:=⟨ss.length-1,by omega⟩;obtain⟨v1,G1,⟨f1,g1⟩,z1⟩:=bI (n:=n) (I:=λi v G=>ah H G/\Gr H G v 1 i ((ss.take i).map tv)) (S:=λi v e=>af s000 e=.ptr dp 0/\af s004 e=v) (λi v G hin⟨f,g⟩=>by obtain⟨v',G',f',g',z⟩:=rd i v G (by omega) f g;refine⟨v',G',⟨f',g'⟩,λd kx r e x⟨q0,q4⟩hk=>?_⟩;rw[ak];have hno:=hs (i+1) (by omega);exact z d kx _ e x q0 q4 (λ_ e' q0 q4=>hk e' ⟨q0,q4⟩) (λh=>by rw[hno]at h;cases h) (YH hno)) n 0 .aD H (by omega) ⟨ah.refl hD.wf,Gr.aD⟩;obtain⟨v2,G2,f2,g2,z2⟩:=rd n v1 G1 (by omega) f1 g1;have hfull:unpk (ss.take (n+1))=some tt:=by rw[Yh (by omega)];exact hb
 refine⟨G2,λd k=>?_,f2⟩;rw[aJ T.k41 rfl rfl];simp only[go_sem,↓aa,reduceCtorEq,ZA,ZB,ZC,ZD,ZE,ZF,ZG,ZH,↓reduceIte,c41,X1,X2];refine z1 d _ fuel _ _ (by omega) ⟨?_,?_⟩ λr e'⟨q0,q4⟩=>?_;.rfl
 .rfl
 rw[ak];refine z2 d _ _ e' _ q0 q4 (λh=>by rw[hfull]at h;cases h) (λ_ e'' q2 q3=>?_) (YD hfull);simp only[go_sem,↓aa,reduceCtorEq,ZA,ZB,ZC,ZD,ZE,ZF,ZG,ZH,↓reduceIte,↓aE,q2,q3]
end
end Go.Ev
end
section
namespace Go.Ev
section
variable{cp:RC->au}{t:Nat->Option df}{fuel:Nat}{H:Heap}{O:Nat->Prop}{pk:List UInt8->List (List UInt8)}{unpk:List (List UInt8)->Option (List UInt8)}
set_option maxRecDepth 4000in theorem JJ(T:aB t)(hc:aP t)(F:bH pk unpk)(hu:t 85=some (.nat (dF unpk))){dp a n:Nat}{A:AD}{us:List Wr}{m:MT}(hD:cK H dp A O)(C:qE A pk a n us)(h0:(A.recover n us).2=0)(ho:(A.recover n us).1.off=false)(hA:193<=(A.recover n us).1.len)(hA2:(A.recover n us).1.len<=1024)(Y:fU m m.live.length (A.recover n us).1.len)(Z:jD m)(hT:OB (A.recover n us).1 (pk (bq (nF m))))(hfu:1000000<fuel):∃H' O' vp vl vs vi,(∀(d:Nat)(k:K),aj (aU cp t fuel (d+9)) (.func 22 []) [.ptr dp 0] H k=k (.cG [.ptr vp 0,.int 3 0]) H')/\Step H O H' O'/\cK H' dp (A.recover n us).1 O'/\H'.get vp=.cells (vc m vl vs vi dp false)/\vp<H'.n/\¬O' vp/\H.n<=vp/\jR H' (bz O' vp) m vl vs vi/\∀X:Nat->Prop,(∀b,X b->b<H.n)->jR H' (λb=>X b\/bz O' vp b) m vl vs vi:=by
 obtain⟨G1,O1,z1,s1,D1⟩:=Cg (cp:=cp) (fuel:=fuel) T hc F hu hD C (by omega);rw[h0]at z1;have z1:=λ{d}{k}=>z1 (d+1) k;generalize hB:(A.recover n us).1=B at ho hA hA2 Y hT D1⊢;have htl:=Y.text hA2;have hsz:=F.size (bq (nF m)) (by omega);obtain⟨G2,z2,f2⟩:=JM (cp:=cp) (fuel:=fuel) T hc hu D1 ho hA hA2 (by omega) (F.pos _ (by omega)) (F.len _ (by omega)) hT (λk hk=>F.short _ k (by omega) hk) (F.back _ (by omega)) (by omega);have z2:=λ{d}{k}=>z2 (d+4) k;have D2:=D1.fresh f2;obtain⟨G3,vl,vs,vi,z3,f3,hM⟩:=D9 (cp:=cp) (fuel:=fuel) T f2.wf (Y.mono hA2) Z (by omega);have z3:=λ{d}{k}=>z3 d k;have M3:=hM O1 (λb hb=>D2.lt b hb);have M3a:=hM (λb=>b<G2.n) (λb hb=>hb);have w3:=f3.wf;have D3:=D2.fresh f3;obtain⟨G4,hG4,f4,p4,n4⟩:=Heap.aW w3 (.cells [.aD,.aD,.int 7 0,.int 7 0,.int 7 0,.int 7 0,.int 3 0,.int 3 0,.aD]);have b4:G3.n<G4.n:=by omega
 have w4:=f4.wf;obtain⟨G5,hG5,f5,p5,n5,w5,k5⟩:=Heap.bj f4 (YC _) b4 (.cells (aT m vl vs vi));have D5:=D3.fresh f5;have M5:=M3.fresh f5;have wm5:G5.mark.wf:=by exact w5
 obtain⟨G6x,G6,z6,hu6,hl6,f6⟩:=qj ⟨G5.mark,λd k=>sf (cp:=cp) (fuel:=fuel) (T.iv hc) (D5.fresh (ah.Fe w5)),ah.refl wm5⟩;have z6:=λ{d}{k}=>z6 (d+7) k;have w6:=f6.wf;have M6:=M5.fresh f6;obtain⟨G7,z7,f7⟩:=uv (cp:=cp) (fuel:=fuel) (blocks:=m.live.length) (n:=B.len) T w6 M6 Z (by have:=Z.live.1;unfold nn;omega) (by unfold nn;omega) (by omega);have z7:=λ{d}{k}=>z7 (d+3) k;rw[KL.2 Y]at z7;have w7:=f7.wf;have M7:=M6.fresh f7;have f57:=f6.trans f7;have p7:=(f57.same _ (by omega)).trans p5;obtain⟨G8,hG8,f8,p8,n8⟩:=Heap.aW w7 (.cells (vc m vl vs vi dp false));have D8:=(D5.fresh f57).fresh f8;have hlt:=D1.lt;have f18:=f2.trans (f3.trans (f5.trans (f57.trans f8)));have m2:=f2.n;have m3:=f3.n;have m57:=f57.n;have sl:=λ{id}{f}=>M3.live.sn (id:=id) (f:=f);have ll:m.live.length<9223372036854775808:=by have:=Z.live.1;omega
 have j1:=λ{id}{k}=>aN M3.live.one (id:=id) (k:=k);have j2:=λ{id}{k}=>aN (let⟨_,h,_⟩:=M3.ae;h.one) (id:=id) (k:=k);have j3:=λ{id}{k}=>aN M3.bR.one (id:=id) (k:=k);refine⟨G8,O1,G7.n,vl,vs,vi,λd k=>?_,s1.trans f18.step,D8,p8,by omega,λh=>by have:=hlt _ h;omega,by have:=s1.n;omega,(M7.nv λb hb h=>h.elim id λe=>by omega).fresh f8,λX hX=>(((M3a.fresh f5).fresh f57).nv λb hb h=>by
  have hs1:=s1.n;rcases h with h|h|h;.have:=hX b h;omega
  .exact D2.lt b h
  .omega).fresh f8⟩;simp only[aT,bB,tv]at z2 z3 hG5 p5 p7 z7;simp only[vc,aT,bB,YK,YJ]at hG8;rw[aJ T.k11 rfl rfl];simp only[go_sem,↓aa,reduceCtorEq,ZA,ZB,ZC,ZD,ZE,ZF,ZG,ZH,↓reduceIte,↓aE,c11,Xx,Xy,Xz,XA,↓z1,↓z2];simp only[go_sem,↓aa,reduceCtorEq,ZA,ZB,ZC,ZD,ZE,ZF,ZG,ZH,↓reduceIte,↓aE,XB,↓z3,w3,hG4,p4,b4,w4,↓j1,↓j2,↓j3,hG5];simp only[go_sem,↓aa,reduceCtorEq,ZA,ZB,ZC,ZD,ZE,ZF,ZG,ZH,↓reduceIte,↓aE,XC,p5,↓sl,ll,wm5,↓z6,hu6,hl6,↓z7];simp only[go_sem,↓aa,reduceCtorEq,ZA,ZB,ZC,ZD,ZE,ZF,ZG,ZH,↓reduceIte,↓aE,XD,XE,p7,w7,↓j1,↓j2,↓j3,hG8]
end
end Go.Ev
end
section
namespace Go.Ev
def EJ(ss:List (List UInt8)):Nat->List Wr|0=>[]|i+1=>EJ ss i++[(145+i,tx (ss.getD i []))]
theorem vC(ss):∀i,(EJ ss i).length=i|0=>rfl|i+1=>by simp only[EJ,YB,vC ss i];rfl
theorem BD{ss}:∀{i}{w},w∈EJ ss i->∃j,j<i/\w=(145+j,tx (ss.getD j []))
 |0,w,h=>by cases h|i+1,w,h=>by
  rcases Yo.1 h with h|h;.obtain⟨j,hj,e⟩:=BD h;exact⟨j,by omega,e⟩
  .exact⟨i,by omega,YL.1 h⟩
theorem Se{ss}:∀{i j},j<i->((145+j,tx (ss.getD j [])):Wr)∈EJ ss i
 |0,j,h=>by omega|i+1,j,h=>by
  simp only[EJ];by_cases hj:j=i;.simp_all
  .exact QJ _ (Se (by omega))
theorem tD{ss}:∀i,((EJ ss i).map (·.1)).Nodup|0=>QO|i+1=>by simp only[EJ,WB];refine QX.2 ⟨tD i,by simp,λx hx y hy=>?_⟩;obtain⟨w,hw,rfl⟩:=Yk.1 hx;obtain⟨j,hj,rfl⟩:=BD hw;rw[YL.1 (by simp_all:y∈[145+i])];omega
def mz(b:Nat):MT:=⟨YZ b 0,[],rz⟩
theorem xB(b):(mz b).live.length=b:=WT
theorem Vl(b):nz (YZ b 0)=[]:=by unfold nz;simp
theorem Su{b n}(h1:1<=b)(h2:b<=8):fU (mz b) b n:=⟨⟨h1,h2,xB b,λp hp=>YH (YE0.1 hp).2,by show(nz (YZ b 0)).Nodup;rw[Vl];simp⟩,Ya _,trivial,by exact⟨rfl,rfl,rfl,rfl⟩⟩
theorem Sv{b}(h2:b<=8):jD (mz b):=⟨⟨by rw[xB];omega,λp hp=>by rw[(YE0.1 hp).2];unfold nn;omega⟩,by show 0<1000;omega,λs hs=>(by cases hs),jG⟩
section
variable{cp:RC->au}{t:Nat->Option df}{fuel:Nat}{H:Heap}{O:Nat->Prop}{pk:List UInt8->List (List UInt8)}{unpk:List (List UInt8)->Option (List UInt8)}
theorem M8(T:aB t){vS:V}{dp:Nat}{ss:List (List UInt8)}(hw:H.wf)(hS:Row H O vS 1 ss.length (ss.map tv))(hn:ss.length<1000)(hfu:1000<fuel):∃G' v',ah H G'/\Gr H G' v' 2 ss.length (bS (EJ ss ss.length))/\∀(d:Nat)(kx:Nat->KE)(e:Env)(x:R),af s000 e=.ptr dp 0->af s010 e=.aD->af s051 e=vS->af s052 e=.int 3 ss.length->af s053 e=.int 3 0->(∀e',af s000 e'=.ptr dp 0->af s010 e'=v'->kx 2 e' G'=x)->ko Ds fuel (aU cp t fuel d) kx fuel e H=x:=by
 have nl:nn ss.length:=by unfold nn;omega
 obtain⟨v',G',⟨f',g'⟩,z⟩:=bI (c:=Ds) (I:=λi v G=>ah H G/\Gr H G v 2 i (bS (EJ ss i))) (S:=λi v e=>af s000 e=.ptr dp 0/\af s010 e=v/\af s051 e=vS/\af s052 e=.int 3 ss.length/\af s053 e=.int 3 i) (λi v G hil⟨f,g⟩=>by
   obtain⟨b,o,c,z,rfl,hbn,-,hrd⟩:=Row.open hS hil;have hrd:=λ{id}{k}=>(hrd (f.same _ hbn)).2 (x:=tv ss[i]) (by simp[hil]) (id:=id) (k:=k);rw[Nat.mul_one]at hrd;have hst:EJ ss (i+1)=EJ ss i++[(145+i,tx ss[i])]:=by simp only[EJ,YF,YA hil,YU]
   generalize ss[i]=s at hrd hst;simp only[tv]at hrd;have w0:=f.wf;obtain⟨G1,hG1,f1,p1,n1⟩:=Heap.aW w0 (.cells [.int 3 (145+i),.str s.length (enc s)]);obtain⟨v',G2,hap,g2,f2,-,-⟩:=Gr.app (cx:=2) (sx:=0) (f.trans f1) (g.fresh f1) p1 rfl (λz hz=>by rcases YS.1 hz with rfl|hz;rfl;rw[YL.1 hz];rfl) (by omega);have a1:nn i:=by unfold nn;omega
   have a2:i<9223372036854775808:=by omega
   have a3:(i+1)%18446744073709551616=i+1:=by omega
   have a4:(145+i)%18446744073709551616=145+i:=by omega
   refine⟨v',G2,⟨f2,by rw[hst,dM];exact g2⟩,λd kx r e x⟨q0,q10,q51,q52,q53⟩hk=>?_⟩;rw[ak];simp only[go_sem,reduceCtorEq,ZA,ZB,ZC,ZD,ZE,ZF,ZG,ZH,↓reduceIte,Ds,q0,q10,q51,q52,q53,hil,nl,a1,a2,a3,a4,↓hrd,w0,hG1,↓hap];refine hk _ ?_;simp only[go_sem,↓aa,reduceCtorEq,ZA,ZB,ZC,ZD,ZE,ZF,ZG,ZH,↓reduceIte,q0,q51,q52,and_self]) ss.length 0 .aD H (by omega) ⟨ah.refl hw,Gr.aD⟩;refine⟨G',v',f',g',λd kx e x q0 q10 q51 q52 q53 hk=>z d kx fuel e x (by omega) ⟨q0,q10,q51,q52,q53⟩ λr e'⟨q0,q10,q51,q52,q53⟩=>?_⟩;have e6:¬ss.length<ss.length:=by omega
 rw[ak];simp only[go_sem,↓aa,reduceCtorEq,ZA,ZB,ZC,ZD,ZE,ZF,ZG,ZH,↓reduceIte,Ds,q0,q10,q51,q52,q53,nl,e6];exact hk _ q0 q10
set_option maxRecDepth 4000in theorem CD(T:aB t)(hc:aP t)(F:bH pk unpk)(hp:t 110=some (.nat (dj pk))){H0:Heap}{dp b n r:Nat}(h1:193<=n)(h2:n<=1024)(hr:n<=r)(b1:1<=b)(b2:b<=8)(fr:ah H0 H)(hD:cK H dp ⟨n,r,0,false,[],[]⟩ O)(own:∀b,O b->H0.n<=b)(hfu:1000000<fuel):∃H' A' O',(∀(d:Nat)(k:K),aj (aU cp t fuel (d+8)) (.func 40 []) [.ptr dp 0,.int 3 b] H k=k (.int 3 0) H')/\ah H0 H'/\cK H' dp A' O'/\(∀b,O' b->H0.n<=b)/\(∃a n us,JD pk A' a n us)/\A'.bd=0/\A'.len=n/\A'.room=r/\OB A' (pk (bq (nF (mz b)))):=by
 generalize hF0:(⟨n,r,0,false,[],[]⟩:AD)=F0 at hD;have e0:F0.len=n:=by rw[<-hF0]
 have e1:F0.off=false:=by rw[<-hF0]
 have e2:F0.bd=0:=by rw[<-hF0]
 have e3:F0.es=[]:=by rw[<-hF0]
 have e4:F0.us=[]:=by rw[<-hF0]
 have e5:F0.room=r:=by rw[<-hF0]
 obtain⟨G1,O1,z1,s1,D1⟩:=Eu (cp:=cp) (fuel:=fuel) T hc hD e1 (by omega) (by omega) (by rw[e3];decide) (by rw[e4];decide) (YD (by rw[e3,e5];show 0<r;omega)) (by omega);obtain⟨J,j2,j3,j4⟩:=JD.start (pk:=pk) (by omega) (by omega) e1 (by rw[e3];exact nK.nil) e2;rw[j3]at z1;obtain⟨q1,q2,q3,q4⟩:=j4;generalize(F0.runs [[(0,tx (fQ 0 0))]]).1=B at D1 J j2 q1 q2 q3 q4;have hl:=q1.trans e0;have hrr:=q2.trans e5;obtain⟨fr1,own1⟩:=fr.own s1 own;have w1:=fr1.wf;have z1:=λ{d}{k}=>z1 d k;obtain⟨G2,f2,o2,-,n2,z2⟩:=tH (x:=.int 3 0) (n:=b) rfl w1 rfl (by omega) (YC _) (a:=.s s040);have M2:jR G2 (λ_=>False) (mz b) (.slice G1.n 0 b (b+1) 0) .aD .aD:=⟨by have:=o2.toRow (O:=λ_=>False) (λb h=>h.elim);unfold cE;rw[xB];show Row G2 _ _ 1 b ((YZ b 0).map (V.int 3));rw[We];exact this,⟨[],⟨rfl,λx hx=>(by cases hx),YH ⟨YH rfl,rfl⟩⟩,rfl,λi s h=>(by cases i<;>cases h)⟩,⟨rfl,λx hx=>(by cases hx),YH ⟨YH rfl,rfl⟩⟩⟩;have hYok:fU (mz b) (mz b).live.length 1024:=by rw[xB];exact Su b1 b2
 have henc:=hYok.enc;have htl:=hYok.text (YC _);obtain⟨G3,vS,z3,f3,hv1,hS⟩:=ye (cp:=cp) (fuel:=fuel) T F hp f2.wf M2 (Sv b2) (by omega);rw[henc]at z3 hS;have hS:=hS rfl;simp only at hS;have z3:=λ{d}{k}=>z3 d k;have hsz:=F.size (bq (nF (mz b))) (by omega);have h32:=F.len (bq (nF (mz b))) (by omega);have hpos:=F.pos (bq (nF (mz b))) (by omega);generalize pk (bq (nF (mz b)))=ss at hS hsz h32 hpos⊢;have hss:=by omega
 obtain⟨G4,vw,f4,g4,z4⟩:=M8 (fuel:=fuel) (dp:=dp) T f3.wf (hS.toRow (O:=λ_=>False) (λb h=>h.elim)) (by omega) (by omega);have f24:=f2.trans (f3.trans f4);have hmem:∀w∈EJ ss ss.length,145<=w.1/\w.1<n/\w.2.1=32/\sI w.2:=λw hw=>by obtain⟨j,hj,rfl⟩:=BD hw;have:(ss.getD j []).length=32:=h32 _ (by rw[YF,YA hj];exact YQ _);exact⟨by show 145<=145+j;omega,by show 145+j<n;omega,this,iJ _⟩
 have hwsAt:mJ G4 vw (EJ ss ss.length) O1:=by
  obtain⟨p1,p2,⟨p3,p4⟩|⟨b,c,s,p3,p4,p5,p6,p7,p8⟩⟩:=g4;.exact absurd (YW p4) hpos
  .exact YD ⟨b,c,s,by rw[vC];exact p3,p6,p8,λhb=>by have:=D1.lt b hb;have:=f2.n;have:=f3.n;omega⟩
 have D4:=D1.fresh f24;obtain⟨G5,O5,z5,s5,D5⟩:=ue (cp:=cp) (fuel:=fuel) T hc F hp D4 J.Jc.can hwsAt (λw hw=>⟨by have:=(hmem w hw).2.1;omega,by rw[(hmem w hw).2.2.1];omega,(hmem w hw).2.2.2⟩) (by rw[vC];omega) (by omega);have z5:=λ{d}{k}=>z5 d k;have hok:=λw hw=>(hmem w hw).2.2.2;have hcode:=J.code F j2 (by omega) hok;have hdid:=J.eN F j2 hok;have hmay:iq B.len [] (EJ ss ss.length)=true:=BQ (λw hw=>⟨⟨(hmem w hw).1,by rw[hl];exact(hmem w hw).2.1,(hmem w hw).2.2.1⟩,λh=>(by cases h)⟩) (tD _);have h0:(B.eN pk 0 (EJ ss ss.length)).2=0:=by rw[hcode];unfold Ev.code;rw[vC,hmay];have:=Wa.2 hpos;rw[if_neg (by omega),if_neg (by omega),if_neg (by simp)]
 rw[h0]at z5;obtain⟨fr5,own5⟩:=(fr1.trans f24).own s5 own1;refine⟨G5,_,O5,λd k=>?_,fr5,D5,own5,hdid.jd,hdid.bd,hdid.len.trans hl,hdid.room.trans hrr,⟨λi hi=>?_⟩⟩
 .have hL:∀{d}{k},aj (aU cp t fuel (d+1)) (.func 88 []) [.ptr dp 0] H k=k (.int 3 n) H:=λ{d k}=>by rw[sf (T.iv hc) hD,e0]
  have c1:nn n:=by unfold nn;omega
  have c2:nn b:=by unfold nn;omega
  have c3:nn 193:=by unfold nn;omega
  have c4:nn 1:=by unfold nn;omega
  have c5:nn 8:=by unfold nn;omega
  have c6:¬n<193:=by omega
  have c7:¬b<1:=by omega
  have c8:¬8<b:=by omega
  have ssn:=λ{id}{f}=>hS.sn (id:=id) (f:=f);have c9:ss.length<9223372036854775808:=by omega
  simp only[aT,bB,mz,rz]at z3;rw[aJ T.k20 rfl rfl];simp only[go_sem,↓aa,reduceCtorEq,ZA,ZB,ZC,ZD,ZE,ZF,ZG,ZH,↓reduceIte,↓aE,c20,XS,↓hL,c1,c2,c3,c4,c5,c6,c7,c8];simp only[go_sem,↓aa,reduceCtorEq,ZA,ZB,ZC,ZD,ZE,ZF,ZG,ZH,↓reduceIte,↓aE,XT,XU,↓z1,↓z2,↓z3];simp only[go_sem,↓aa,reduceCtorEq,ZA,ZB,ZC,ZD,ZE,ZF,ZG,ZH,↓reduceIte,↓aE,XV,XW,XX,↓ssn,c9];refine z4 (d+7) _ _ _ ?_ ?_ ?_ ?_ ?_ λe' q0 q10=>?_;.rfl
  .rfl
  .rfl
  .rfl
  .rfl
  simp only[go_sem,↓aa,reduceCtorEq,ZA,ZB,ZC,ZD,ZE,ZF,ZG,ZH,↓reduceIte,↓aE,XY,XZ,q0,q10,↓z5]
 .have hy:=(hdid.yes h0).1 (145+i) (by omega);have hin:=Se (ss:=ss) hi;have:=eY (es:=B.es) (tD ss.length) hin;rw[AD.read,hy,this,YF,YA hi];rfl
end
end Go.Ev
end
section
namespace Go.Ev
structure Cn where
 iW:List Tx
 g:Gd
 hid:Bool
structure CH where
 live:List Tx
 size:Nat
 ae:List Cn
def zT(n:Nat):List Tx:=YZ n (32,0)++YZ (8-n) (0,0)
theorem lO{n}(h:n<=8):(zT n).length=8:=by unfold zT;simp_all
def da(c:Cn):List V:=c.iW.map sv++[.int 7 c.g.1,.int 7 c.g.2,.bool c.hid]
def dL(l:List Cn):List V:=l.flatMap da
structure CR(c:CH):Prop where
 l8:c.live.length=8s1:1<=c.size
 s8:c.size<=8n:c.ae.length<1000v8:∀s∈c.ae,s.iW.length=8g:∀s∈c.ae,jW s.g
theorem fS{α:Type}{l:List α}(h:l.length=8):∃x0 x1 x2 x3 x4 x5 x6 x7,l=[x0,x1,x2,x3,x4,x5,x6,x7]:=by rcases l with _|⟨x0,_|⟨x1,_|⟨x2,_|⟨x3,_|⟨x4,_|⟨x5,_|⟨x6,_|⟨x7,_|⟨x8,l⟩⟩⟩⟩⟩⟩⟩⟩⟩<;>simp at h;simp
theorem iG{c}(h:c.iW.length=8):(da c).length=11:=by unfold da;simp_all
theorem tm:∀{l},(∀s∈l,s.iW.length=8)->(dL l).length=l.length*11|[],_=>rfl|s::l,h=>by show(da s++dL l).length=_;rw[YB,tm λt ht=>h t (YI _ ht),iG (h s (YM ..)),YG];omega
theorem oG:∀{l}{i}{s},(∀s∈l,s.iW.length=8)->l[i]?=some s->((dL l).drop (i*11)).take 11=da s|[],i,s,_,h=>by simp_all|a::l,0,s,h8,h=>by simp at h;subst h;show((da a++dL l).drop (0*11)).take 11=_;rw[QE,Wv,Qw (iG (h8 _ (YM ..)))]|a::l,i+1,s,h8,h=>by have:=oG (λt ht=>h8 t (YI _ ht)) (by simpa using h);show((da a++dL l).drop ((i+1)*11)).take 11=_;rw[show(i+1)*11=(da a).length+i*11by rw[iG (h8 _ (YM ..))];omega,<-Qf,List.drop_left' rfl];omega
theorem MD(a b):dL (a++b)=dL a++dL b:=List.flatMap_append
theorem MC(c):∀y∈da c,y.one=true:=λy hy=>by
 rcases Yo.1 hy with hy|hy;.obtain⟨x,_,rfl⟩:=Yk.1 hy;rfl
 .rcases YS.1 hy with rfl|hy;.rfl
  .rcases YS.1 hy with rfl|hy;.rfl
   .rw[YL.1 hy];rfl
def hZ:Heap:=.mk 0 0 .e
def mF(c:CH)(v:V):List V:=c.live.map sv++[.int 3 c.size,v]
structure ig(H:Heap)(cp:Nat)(c:CH)(v:V):Prop where
 wf:H.wf
 get:H.get cp=.cells (mF c v)cn:cp<H.n
 own:Own hZ H v 11 c.ae.length (dL c.ae)off:ij v cp
 ok:CR c
def CB(v:V)(b:Nat):Prop:=∃o n c s,v=.slice b o n c s
def CQ(cp:Nat)(v:V)(b:Nat):Prop:=b=cp\/CB v b
theorem Own.cb{H G:Heap}{v:V}{sz n b:Nat}{row:List V}(h:Own H G v sz n row)(hb:CB v b):H.n<=b/\b<G.n:=by obtain⟨o,n',c,s,e⟩:=hb;exact h.cV e
theorem ig.lt{H:Heap}{cp:Nat}{c:CH}{v:V}(h:ig H cp c v):∀b,CQ cp v b->b<H.n:=λb hb=>hb.elim (λe=>by rw[e];exact h.cn) λe=>(h.own.cb e).2
theorem ig.cz{H H':Heap}{cp:Nat}{c:CH}{v:V}{P P':Nat->Prop}(h:ig H cp c v)(s:Step H P H' P')(hd:∀b,CQ cp v b->¬P b):ig H' cp c v/\∀b,CQ cp v b->¬P' b:=by
 refine⟨⟨s.wf,(s.same _ h.cn (hd _ (YH rfl))).1.trans h.get,YE h.cn s.n,?_,h.off,h.ok⟩,λb hb=>(s.same _ (h.lt b hb) (hd b hb)).2⟩;obtain⟨h1,h2,h3|⟨b,c,z,r,g1,g2,g3,g4,g5⟩⟩:=h.own;.exact⟨h1,h2,YH h3⟩
 .exact⟨h1,h2,YD ⟨b,c,z,r,g1,(s.same b g5 (hd b (YD ⟨_,_,_,_,g1⟩))).1.trans g2,g3,g4,YE g5 s.n⟩⟩
theorem ig.fresh{H H':Heap}{cp:Nat}{c:CH}{v:V}(h:ig H cp c v)(f:ah H H'):ig H' cp c v:=(h.cz (f.step (O:=λ_=>False)) λ_ _ h=>h).1
theorem ig.row{H:Heap}{cp:Nat}{c:CH}{v:V}(h:ig H cp c v):Row H (λ_=>False) v 11 c.ae.length (dL c.ae):=h.own.toRow λb h=>h.elim
section
variable{cp:RC->au}{t:Nat->Option df}{fuel:Nat}{H:Heap}
theorem JT(T:aB t){n B:Nat}{G0:Heap}{b0:V}(f0:ah H G0)(hn:n<=8)(hB:H.n<=B)(hBn:B<G0.n)(gB:G0.get B=.cells ((zT 0).map sv))(hfu:1000<fuel):∃G',ah H G'/\G'.get B=.cells ((zT n).map sv)/\(∀j,j<G0.n->j≠B->G'.get j=G0.get j)/\G0.n<=G'.n/\∀(d:Nat)(kx:Nat->KE)(e:Env)(x:R),af s002 e=b0->af s003 e=.ptr B 0->af s005 e=.int 3 n->af s006 e=.int 3 0->(∀e',af s002 e'=b0->af s003 e'=.ptr B 0->kx 1 e' G'=x)->ko Dt fuel (aU cp t fuel d) kx fuel e G0=x:=by
 have nl:nn n:=by unfold nn;omega
 obtain⟨_,G',⟨f',g',k',n'⟩,z⟩:=bI (c:=Dt) (fuel:=fuel) (n:=n) (I:=λi _ G=>ah H G/\G.get B=.cells ((zT i).map sv)/\(∀j,j<G0.n->j≠B->G.get j=G0.get j)/\G0.n<=G.n) (S:=λi _ e=>af s002 e=b0/\af s003 e=.ptr B 0/\af s005 e=.int 3 n/\af s006 e=.int 3 i) (λi _ G hil⟨f,g,k,hn'⟩=>by
   have w0:=f.wf;have hset:((zT i).map sv).set i (.str 32 0)=(zT (i+1)).map sv:=by unfold zT;rw[show(8-i)=(8-(i+1))+1by omega];rw[WB,WB,We,We,We,We,Qz _ _ (by simp),WT,QF,List.replicate_succ,List.set_cons_zero,YN4,WA];rfl
   have hlen:((zT i).map sv).length=8:=by rw[Yi,lO (by omega)]
   generalize(zT i).map sv=X at g hset hlen;obtain⟨G1,hG1,f1,p1,n1⟩:=Heap.aW w0 (.bytes 32 0);have w1:=f1.wf;have g1:=(f1.same _ (by omega)).trans g;have b1:B<G1.n:=by omega
   obtain⟨G2,hG2,f2,p2,n2,w2,k2⟩:=Heap.bj (f.trans f1) hB b1 (.cells (X.set i (.str 32 0)));have a1:nn i:=by unfold nn;omega
   have a2:i<9223372036854775808:=by omega
   have a3:(i+1)%18446744073709551616=i+1:=by omega
   have a4:i<X.length:=by omega
   have a5:i<8:=by omega
   refine⟨(),G2,⟨f2,by rw[<-hset];exact p2,λj hj hne=>by rw[k2 _ hne,f1.same _ (by omega)];exact k j hj hne,by omega⟩,λd kx r e x⟨q2,q3,q5,q6⟩hk=>?_⟩;rw[ak];simp only[go_sem,↓aa,reduceCtorEq,ZA,ZB,ZC,ZD,ZE,ZF,ZG,ZH,↓reduceIte,Dt,q2,q3,q5,q6,hil,nl,a1,a2,a3,a4,a5,w0,hG1,p1,g1,w1,b1,hG2];exact hk _ (by simp only[go_sem,↓aa,reduceCtorEq,ZA,ZB,ZC,ZD,ZE,ZF,ZG,ZH,↓reduceIte,q2,q3,q5,and_self])) n 0 () G0 (by omega) ⟨f0,gB,λ_ _ _=>rfl,YC _⟩;refine⟨G',f',g',k',n',λd kx e x q2 q3 q5 q6 hk=>z d kx fuel e x (by omega) ⟨q2,q3,q5,q6⟩ λr e'⟨q2,q3,q5,q6⟩=>?_⟩;have e6:¬n<n:=by omega
 rw[ak];simp only[go_sem,↓aa,reduceCtorEq,ZA,ZB,ZC,ZD,ZE,ZF,ZG,ZH,↓reduceIte,Dt,q2,q3,q5,q6,nl,e6];exact hk _ q2 q3
theorem ry(T:aB t){n}(hw:H.wf)(hn:n<=8)(hfu:1000<fuel):∃H',(∀(d)(k),aj (aU cp t fuel (d+1)) (.func 68 []) [.int 3 n] H k=k (.agg ((zT n).map sv)) H')/\ah H H':=by
 obtain⟨G1,hG1,f1,p1,n1⟩:=Heap.aW hw (.cells [.str 0 0,.str 0 0,.str 0 0,.str 0 0,.str 0 0,.str 0 0,.str 0 0,.str 0 0]);have w1:=f1.wf;obtain⟨G2,hG2,f2,p2,n2⟩:=Heap.aW w1 (.cells [.str 0 0,.str 0 0,.str 0 0,.str 0 0,.str 0 0,.str 0 0,.str 0 0,.str 0 0]);have f12:=f1.trans f2;obtain⟨G3,f3,g3,k3,n3,z3⟩:=JT (b0:=.ptr H.n 0) T f12 hn (by omega) (by omega) p2 hfu;have q3:G3.get H.n=.cells [.str 0 0,.str 0 0,.str 0 0,.str 0 0,.str 0 0,.str 0 0,.str 0 0,.str 0 0]:=by rw[k3 _ (by omega) (by omega),f2.same _ (by omega)];omega
 have hlen:((zT n).map sv).length=8:=by rw[Yi,lO hn]
 have hone:∀y∈(zT n).map sv,y.one=true:=λy hy=>by obtain⟨x,_,rfl⟩:=Yk.1 hy;rfl
 generalize(zT n).map sv=X at g3 hlen hone⊢;have b3:H.n<G3.n:=by omega
 have w3:=f3.wf;obtain⟨G4,hG4,f4,p4,n4,w4,k4⟩:=Heap.bj f3 (YC _) b3 (.cells X);refine⟨G4,λd k=>?_,f4⟩;obtain⟨x0,x1,x2,x3,x4,x5,x6,x7,rfl⟩:=fS hlen;have i0:=λ{id}{k}=>aN (hone x0 (by simp)) (id:=id) (k:=k);have i1:=λ{id}{k}=>aN (hone x1 (by simp)) (id:=id) (k:=k);have i2:=λ{id}{k}=>aN (hone x2 (by simp)) (id:=id) (k:=k);have i3:=λ{id}{k}=>aN (hone x3 (by simp)) (id:=id) (k:=k);have i4:=λ{id}{k}=>aN (hone x4 (by simp)) (id:=id) (k:=k);have i5:=λ{id}{k}=>aN (hone x5 (by simp)) (id:=id) (k:=k);have i6:=λ{id}{k}=>aN (hone x6 (by simp)) (id:=id) (k:=k);have i7:=λ{id}{k}=>aN (hone x7 (by simp)) (id:=id) (k:=k);rw[aJ T.k34 rfl rfl];simp only[go_sem,↓aa,reduceCtorEq,ZA,ZB,ZC,ZD,ZE,ZF,ZG,ZH,↓reduceIte,c34,hw,hG1,w1,hG2];refine z3 d _ _ _ ?_ ?_ ?_ ?_ λe' q2 q3'=>?_;.rfl
 .rfl
 .rfl
 .rfl
 simp only[go_sem,↓aa,reduceCtorEq,ZA,ZB,ZC,ZD,ZE,ZF,ZG,ZH,↓reduceIte,q2,q3',g3,q3,w3,b3,hG4,↓i0,↓i1,↓i2,↓i3,↓i4,↓i5,↓i6,↓i7,↓ei,p4]
theorem fB(T:aB t){c}{v}{p}(C:ig H p c v)(d)(k):aj (aU cp t fuel (d+1)) (.func 130 []) [.ptr p 0] H k=k (.bool false) H:=by
 have g:=C.get;obtain⟨x0,x1,x2,x3,x4,x5,x6,x7,e⟩:=fS C.ok.l8;have h1:¬c.size=0:=by have:=C.ok.s1;omega
 simp only[mF,e,YO,YY,YK,YJ]at g;rw[aJ T.k65 rfl rfl];simp only[go_sem,↓aa,reduceCtorEq,ZA,ZB,ZC,ZD,ZE,ZF,ZG,ZH,↓reduceIte,c65,g,h1]
theorem zS(T:aB t){c}{v}{p b l x}(C:ig H p c v)(hb:nn b)(hl:l<1000000)(d)(k):aj (aU cp t fuel (d+1)) (.func 122 []) [.ptr p 0,.int 3 b,.str l x] H k=k (.bool (decide (b<c.size)&&decide (l=32))) H:=by
 have g:=C.get;obtain⟨x0,x1,x2,x3,x4,x5,x6,x7,e⟩:=fS C.ok.l8;have h1:nn c.size:=by have:=C.ok.s8;unfold nn;omega
 have h2:l<9223372036854775808:=by omega
 simp only[mF,e,YO,YY,YK,YJ]at g;rw[aJ T.k61 rfl rfl];by_cases c1:b<c.size<;>by_cases c2:l=32<;>simp only[go_sem,↓aa,reduceCtorEq,ZA,ZB,ZC,ZD,ZE,ZF,ZG,ZH,↓reduceIte,c61,g,h1,h2,hb,c1,c2,Ya,decide_true,decide_false,Qx,Bool.and_false,Bool.true_and,Bool.false_and]
end
end Go.Ev
end
section
namespace Go.Ev
theorem Own.adO{G:Heap}{v w x:V}{sz n m:Nat}{row new:List V}(hw:G.wf)(h:Own hZ G v sz n row)(hN:∀{id:Nat}{f:Nat->List V->R},cX id sz G x f=f m new)(hl:new.length=m*sz)(hone:∀v∈new,v.one=true)(hb:n+m<1000000):∃v' G',(∀{id:Nat}{ph:dm}{e:Env}{k:K}{a y:Arg},aA a e=v->aA y e=x->aR (.app false sz a y) id ph e G k=k v' G')/\Own hZ G' v' sz (n+m) (row++new)/\G'.wf/\(∀j,j<G.n->ij v j->G'.get j=G.get j)/\G.n<=G'.n/\(∀j,j<G.n->ij v j->ij v' j)/\∀lo,lo<=G.bF->lo<=G.n->(∀b,CB v b->lo<=b)->lo<=G'.bF/\∀b,CB v' b->lo<=b:=by
 by_cases hm:m=0
 .subst hm;have hr:new=[]:=YW (by omega);subst hr;refine⟨v,G,λ{id ph e k a y}ha hx=>?_,by rw[YV];exact h,hw,λj _ _=>rfl,YC _,λj _ h=>h,λ_ h _ h'=>⟨h,h'⟩⟩;rw[aa,ha,hx,hN];obtain⟨_,_,⟨rfl,_⟩|⟨b,c,s,r,rfl,_⟩⟩:=h;.rw[ee,if_pos rfl]
  .rw[cm,if_pos rfl]
 have hne:∀j,j<G.n->∀c s l,ij (.slice G.n 0 l c s) j:=λj hj c s l b o n c' s' he=>by cases he;omega
 have hcb:∀lo,lo<=G.n->∀c s l b,CB (.slice G.n 0 l c s) b->lo<=b:=λlo h c s l b⟨_,_,_,_,e⟩=>by cases e;exact h
 obtain⟨h1,h2,⟨rfl,rfl⟩|⟨b,c,s,rest,rfl,g2,g3,g5,g6⟩⟩:=h
 .have hr:row=[]:=YW (by omega);subst hr;refine⟨.slice G.n 0 m 0 sz,G.new (.cells new),λ{id ph e k a y}ha hx=>?_,⟨by simp[hl],by simpa using hone,YD ⟨G.n,0,sz,[],by rw[WH],?_,YD ⟨rfl,rfl,rfl⟩,Ya _,by rw[Heap.aQ];omega⟩⟩,by rw[Heap.aZ];exact hw,λj hj _=>?_,by rw[Heap.aQ];omega,λj hj _=>hne j hj _ _ _,λlo a a2 _=>⟨by rw[Heap.nx];exact a,hcb lo a2 _ _ _⟩⟩;.rw[aa,ha,hx,hN,ee,if_neg hm,bU hone,if_pos (by omega),cD hw]
  .rw[Heap.aG hw,if_pos rfl,YV];rfl
  .rw[Heap.aG hw,if_neg (by omega)]
 .have hlr:∀{id:Nat}{g:List V->R},eH id G b 0 (n*sz) g=g row:=λ{id g}=>by rw[oT,g2,fK,eT (Ya _),eA (by simp[h1])];rw[Wv,<-h1,Qw rfl]
  have hlen:(row++new).length=(n+m)*sz:=by rw[YB,h1,hl,Wf]
  have hon:∀v∈row++new,v.one=true:=λv hv=>(Yo.1 hv).elim (h2 v) (hone v);rcases g3 with rfl|⟨rfl,rfl,rfl⟩
  .refine⟨.slice G.n 0 (n+m) 0 sz,G.new (.cells (row++new)),λ{id ph e k a y}ha hx=>?_,⟨hlen,hon,YD ⟨G.n,0,sz,[],rfl,?_,YD ⟨rfl,rfl,rfl⟩,Ya _,by rw[Heap.aQ];omega⟩⟩,by rw[Heap.aZ];exact hw,λj hj _=>?_,by rw[Heap.aQ];omega,λj hj _=>hne j hj _ _ _,λlo a a2 _=>⟨by rw[Heap.nx];exact a,hcb lo a2 _ _ _⟩⟩;.rw[aa,ha,hx,hN,cm,if_neg hm,iB (by omega),bU hone,if_pos (by omega),hlr,bU h2,cD hw]
   .rw[Heap.aG hw,if_pos rfl,YV]
   .rw[Heap.aG hw,if_neg (by omega)]
  .rw[YV]at g2;have hw2:(G.put b .dead).wf:=by rw[Heap.bu];exact hw
   refine⟨.slice G.n 0 (n+m) 0 s,(G.put b .dead).new (.cells (row++new)),λ{id ph e k a y}ha hx=>?_,⟨hlen,hon,YD ⟨G.n,0,s,[],rfl,?_,YD ⟨rfl,rfl,rfl⟩,Ya _,by rw[Heap.aQ,Heap.aS];omega⟩⟩,by rw[Heap.aZ];exact hw2,λj hj ho=>?_,by rw[Heap.aQ,Heap.aS];omega,λj hj _=>hne j hj _ _ _,λlo a a2 hcbv=>⟨?_,hcb lo a2 _ _ _⟩⟩;.rw[aa,ha,hx,hN,cm,if_neg hm,lW,bU hone,if_pos (by omega),g2,fK,if_pos h1,eU hw g6,cD hw2,Heap.aS]
   .rw[Heap.aG hw2,if_pos (by rw[Heap.aS]),YV]
   .rw[Heap.aG hw2,if_neg (by rw[Heap.aS];omega),Heap.aH hw g6,if_neg (ho _ _ _ _ _ rfl)]
   .rw[Heap.nx];exact Heap.eP a (hcbv b ⟨_,_,_,_,rfl⟩)
def fD(c:CH):Cn:=c.ae.getLast?.getD ⟨zT c.size,(0,0),false⟩
theorem pS{c}{q}{s}(hs:c.ae[q]?=some s)(hq:c.ae.length=q+1):fD c=s:=by unfold fD;rw[List.getLast?_eq_getElem?,hq,Wc,hs];rfl
theorem pT{c}(h:c.ae.length=0):fD c=⟨zT c.size,(0,0),false⟩:=by unfold fD;simp_all
theorem xp{c}(h:CR c):(fD c).iW.length=8/\jW (fD c).g:=by
 rcases hn:c.ae.length with _|q;.rw[pT hn];exact⟨lO h.s8,by simp,by simp⟩
 .have hs:c.ae[q]?=some c.ae[q]:=YA (by omega);rw[pS hs hn];exact⟨h.v8 _ (YQ _),h.g _ (YQ _)⟩
def dY(c:CH)(g:Gd):Nat:=if eg g (fD c).g=false then 2 else if 20<=c.ae.length then 3 else 0
theorem pR{a b}:Iw a b↔eg a b=true:=by unfold Iw eg;simp
section
variable{cp:RC->au}{t:Nat->Option df}{fuel:Nat}{H:Heap}
theorem ig.el{c:CH}{v:V}{p i:Nat}(C:ig H p c v)(hi:i<c.ae.length):∃b o z s,v=.slice b o c.ae.length z s/\b<H.n/\∀{G:Heap},G.get b=H.get b->∀{id:Nat}{k:List V->R},uV id (G.get b) (o+i*11) 11 k=k (da c.ae[i]):=by obtain⟨b,o,z,s,h1,h2,-,h4⟩:=C.row.open hi;refine⟨b,o,z,s,h1,h2,λ{G}hG{id k}=>?_⟩;rw[(h4 hG).1,oG C.ok.v8 (YA hi)]
set_option maxRecDepth 4000in theorem qI(T:aB t){c}{v}{p}(C:ig H p c v)(hfu:1000<fuel):∃H',(∀(d)(k),aj (aU cp t fuel (d+2)) (.func 120 []) [.ptr p 0] H k=k (.agg (da (fD c))) H')/\ah H H':=by
 have hn:=C.ok.n;obtain⟨x0,x1,x2,x3,x4,x5,x6,x7,e⟩:=fS C.ok.l8;obtain⟨G1,hG1,f1,p1,n1⟩:=Heap.aW C.wf (.cells [.str 0 0,.str 0 0,.str 0 0,.str 0 0,.str 0 0,.str 0 0,.str 0 0,.str 0 0,.int 7 0,.int 7 0,.bool false]);have w:=C.wf;have w1:=f1.wf;have C1:=C.fresh f1;have g:=C1.get;simp only[mF,e,YO,YY,YK,YJ,sv]at g;have sn:=λ{id}{f}=>C.own.sn (id:=id) (f:=f);have a1:=by omega
 have a2:nn c.ae.length:=by unfold nn;omega
 have a3:nn 0:=by unfold nn;omega
 have b1:H.n<G1.n:=by omega
 rcases hq:c.ae.length with _|q
 .rw[pT hq];obtain⟨G2,z2,f2⟩:=ry (cp:=cp) T w1 C.ok.s8 hfu;have z2:=λ{d}{k}=>z2 d k;have p2:=(f2.same _ b1).trans p1;have w2:=f2.wf;have b2:H.n<G2.n:=by have:=f2.n;omega
  obtain⟨y0,y1,y2,y3,y4,y5,y6,y7,ez⟩:=fS (lO C.ok.s8);rw[ez]at z2⊢;simp only[YO,YY,sv]at z2;obtain⟨G3,hG3,f3,p3,n3,w3,k3⟩:=Heap.bj (f1.trans f2) (YC _) b2 (.cells (da ⟨[y0,y1,y2,y3,y4,y5,y6,y7],(0,0),false⟩));simp only[da,YO,YY,YK,YJ,sv]at hG3 p3⊢;have a4:=by omega
  rw[hq]at sn a1 a2;refine⟨G3,λd k=>?_,f3⟩;rw[aJ T.k60 rfl rfl];simp only[go_sem,↓aa,reduceCtorEq,ZA,ZB,ZC,ZD,ZE,ZF,ZG,ZH,↓reduceIte,c60,w,hG1,g,↓sn,a1,a2,a3,a4,↓z2,p2,w2,b2,hG3,↓ei,p3]
 .have hlt:q<c.ae.length:=by omega
  have hs:=YA hlt;obtain⟨b,o,z,s,hv,hbn,hrd⟩:=C.el hlt;have hrd:=λ{id}{k}=>hrd (f1.same _ hbn) (id:=id) (k:=k);rw[pS hs hq];have h8:=C.ok.v8 _ (YQ hlt);generalize c.ae[q]=sn' at hrd h8;obtain⟨y0,y1,y2,y3,y4,y5,y6,y7,ey⟩:=fS h8;obtain⟨G3,hG3,f3,p3,n3,w3,k3⟩:=Heap.bj f1 (YC _) b1 (.cells (da sn'));simp only[da,ey,YO,YY,YK,YJ,sv]at hG3 p3 hrd⊢;have a5:nn q:=by unfold nn;omega
  have a6:q<9223372036854775808:=by omega
  have a7:(q+1+18446744073709551615)%18446744073709551616=q:=by omega
  have a8:q+1<9223372036854775808:=by omega
  have a9:0<q+1:=by omega
  have a10:q<q+1:=by omega
  have a11:nn (q+1):=by unfold nn;omega
  rw[hq]at sn hv;subst hv;refine⟨G3,λd k=>?_,f3⟩;rw[aJ T.k60 rfl rfl];simp only[go_sem,↓aa,reduceCtorEq,ZA,ZB,ZC,ZD,ZE,ZF,ZG,ZH,↓reduceIte,c60,w,hG1,g,↓sn,a3,a5,a6,a7,a8,a9,a10,a11,↓hrd,p1,w1,b1,hG3,↓ei,p3]
theorem wB(T:aB t){c:CH}{v:V}{p:Nat}{g:Gd}(C:ig H p c v)(hg:jW g)(hfu:1000<fuel):∃H',(∀(d:Nat)(k:K),aj (aU cp t fuel (d+3)) (.func 118 []) [.ptr p 0,.agg (aY g)] H k=k (.int 3 (dY c g)) H')/\ah H H':=by
 have hn:=C.ok.n;obtain⟨l8,lg⟩:=xp C.ok;have w:=C.wf;obtain⟨G0,hG0,f0,p0,n0⟩:=Heap.aW w (.cells (aY g));have C0:=C.fresh f0;have z0:=λ{d}{k}=>fB (cp:=cp) (fuel:=fuel) T C0 d k;obtain⟨G1,z1,f1⟩:=qI (cp:=cp) T C0 hfu;have z1:=λ{d}{k}=>z1 d k;have w1:=f1.wf;obtain⟨G2,hG2,f2,p2,n2⟩:=Heap.aW w1 (.cells [.int 7 0,.int 7 0]);have b2:G1.n<G2.n:=by omega
 have w2:=f2.wf;obtain⟨G3,hG3,f3,p3,n3,w3,k3⟩:=Heap.bj f2 (YC _) b2 (.cells (aY (fD c).g));have q3:G3.get H.n=.cells (aY g):=by rw[f3.same _ (by have:=f1.n;omega),f1.same _ (by omega)];exact p0
 have wm3:G3.mark.wf:=by exact w3
 obtain⟨G4x,G4,z4,hu4,hl4,f4⟩:=qj ⟨G3.mark,λd k=>rQ (cp:=cp) (fuel:=fuel) T hg.1 lg.1 d k,ah.refl wm3⟩;have z4:=λ{d}{k}=>z4 d k;have p4:=(f4.same _ (by omega)).trans p3;have q4:=(f4.same _ (by have:=f1.n;omega)).trans q3;have w4:=f4.wf;have z5:=λ{d}{k}=>rQ (cp:=cp) (fuel:=fuel) (H:=G4) T hg.2 lg.2 d k;obtain⟨G5,hG5,f5,p5,n5⟩:=Heap.aW w4 (.cells [.int 3 (nN g.1 (fD c).g.1),.int 3 (nN g.2 (fD c).g.2)]);have z6:=λ{d}{k}=>KU (cp:=cp) (fuel:=fuel) (c:=3) (s:=0) T p5 (by omega) d k;have f05:=f0.trans (f1.trans (f3.trans (f4.trans f5)));have C5:=C.fresh f05;obtain⟨x0,x1,x2,x3,x4,x5,x6,x7,e⟩:=fS C.ok.l8;have g5:=C5.get;simp only[mF,e,YO,YY,YK,YJ,sv]at g5;have sn:=λ{id}{f}=>C.own.sn (id:=id) (f:=f);have e3:=B4 g (fD c).g;unfold VL at e3;have a1:c.ae.length<9223372036854775808:=by omega
 have a2:nn c.ae.length:=by unfold nn;omega
 have a3:nn 20:=by unfold nn;omega
 obtain⟨y0,y1,y2,y3,y4,y5,y6,y7,ey⟩:=fS l8;unfold dY;generalize fD c=lc at*;simp only[da,ey,YO,YY,YK,YJ,sv]at z1;simp only[aY]at hG0 hG3 p3 q3 p4 q4;refine⟨G5,λd k=>?_,f05⟩;rw[aJ T.k59 rfl rfl];rw[pR]at e3;rcases hab:eg g lc.g with _|_
 .rw[hab]at e3;have e4:(dQ (.le 9223372036854775808 18446744073709551616) (if nN g.1 lc.g.1=0then nN g.2 lc.g.2else nN g.1 lc.g.1) 0=true)=True:=by rw[e3];simp
  simp only[go_sem,↓aa,reduceCtorEq,ZA,ZB,ZC,ZD,ZE,ZF,ZG,ZH,↓reduceIte,↓aE,c59,aY,w,hG0,↓z0,↓z1,w1,hG2,p2,b2,w2,hG3,q3,p3,wm3,↓z4,hu4,hl4,p4,q4,↓z5,w4,hG5,↓z6,e4,hab]
 .rw[hab]at e3;have e4:(dQ (.le 9223372036854775808 18446744073709551616) (if nN g.1 lc.g.1=0then nN g.2 lc.g.2else nN g.1 lc.g.1) 0=true)=False:=by rw[e3];simp
  by_cases h20:20<=c.ae.length;.simp only[go_sem,↓aa,reduceCtorEq,ZA,ZB,ZC,ZD,ZE,ZF,ZG,ZH,↓reduceIte,↓aE,c59,aY,w,hG0,↓z0,↓z1,w1,hG2,p2,b2,w2,hG3,q3,p3,wm3,↓z4,hu4,hl4,p4,q4,↓z5,w4,hG5,↓z6,e4,g5,↓sn,a1,a2,a3,h20,hab,Qh]
  .simp only[go_sem,↓aa,reduceCtorEq,ZA,ZB,ZC,ZD,ZE,ZF,ZG,ZH,↓reduceIte,↓aE,c59,aY,w,hG0,↓z0,↓z1,w1,hG2,p2,b2,w2,hG3,q3,p3,wm3,↓z4,hu4,hl4,p4,q4,↓z5,w4,hG5,↓z6,e4,g5,↓sn,a1,a2,a3,h20,hab,Qh]
theorem UL{c}{v}(h:CR c):(mF c v).length=10:=by unfold mF;rw[YB,Yi,h.l8];rfl
def JO(c:CH)(b:Nat)(x:Tx):CH:=if b<c.size/\x.1=32then{c with live:=c.live.set b x}else c
theorem ig.put{c c':CH}{v:V}{p:Nat}{l:List V}(C:ig H p c v)(hc:CR c')(hs:c'.ae=c.ae)(e:l=mF c' v):ig (H.put p (.cells l)) p c' v/\Step H (CQ p v) (H.put p (.cells l)) (CQ p v):=by subst e;refine⟨⟨by rw[Heap.bu];exact C.wf,by rw[Heap.aH C.wf C.cn,if_pos rfl],by rw[Heap.aS];exact C.cn,by rw[hs];exact C.own.pq C.wf C.cn C.off,C.off,hc⟩,Step.iT C.wf C.cn (YH rfl)⟩
theorem abC{c}{b}{x}(h:CR c):CR (JO c b x):=by
 unfold JO;split;.exact⟨by rw[Wg];exact h.l8,h.s1,h.s8,h.n,h.v8,h.g⟩
 omega
theorem DW(T:aB t){c}{v}{p b l x}(C:ig H p c v)(hb:nn b)(hl:l<1000000):∃H',(∀(d)(k),aj (aU cp t fuel (d+2)) (.func 70 []) [.ptr p 0,.int 3 b,.str l x] H k=k (.int 3 (if b<c.size/\l=32then 0 else 2)) H')/\Step H (CQ p v) H' (CQ p v)/\ig H' p (JO c b (l,x)) v:=by
 have z0:=λ{d}{k}=>fB (cp:=cp) (fuel:=fuel) T C d k;have z1:=λ{d}{k}=>zS (cp:=cp) (fuel:=fuel) (x:=x) T C hb hl d k;by_cases h:b<c.size/\l=32
 .obtain⟨h1,h2⟩:=h;subst h2;have hs8:=C.ok.s8;have hw:JO c b (32,x)={c with live:=c.live.set b (32,x)}:=by unfold JO;simp_all
  have hset:(mF c v).set b (.str 32 x)=mF (JO c b (32,x)) v:=by rw[hw];unfold mF;rw[List.set_append_left _ _ (by rw[Yi,C.ok.l8];omega),YE3];rfl
  have hlen:=UL (v:=v) C.ok;have g:=C.get;have hCn:=C.cn;have hCw:=C.wf;obtain⟨C',s'⟩:=C.put (abC C.ok) (by rw[hw]) hset;generalize mF c v=L at g hlen hset C' s';generalize hG:H.put p (.cells (L.set b (.str 32 x)))=G at C' s';have a1:b<L.length:=by omega
  have a2:b<8:=by omega
  have a3:b<9223372036854775808:=by omega
  refine⟨G,λd k=>?_,s',C'⟩;simp only[h1,decide_true,Qx]at z1;rw[aJ T.k35 rfl rfl];simp only[go_sem,↓aa,reduceCtorEq,ZA,ZB,ZC,ZD,ZE,ZF,ZG,ZH,↓reduceIte,c35,↓z0,↓z1,hb,g,a1,a2,a3,hCw,hCn,hG,h1,and_self]
 .have hf:(decide (b<c.size)&&decide (l=32))=false:=by simp_all
  rw[hf]at z1;refine⟨H,λd k=>?_,Step.refl C.wf,by unfold JO;rw[if_neg h];omega⟩;rw[aJ T.k35 rfl rfl];simp only[go_sem,↓aa,reduceCtorEq,ZA,ZB,ZC,ZD,ZE,ZF,ZG,ZH,↓reduceIte,c35,↓z0,↓z1,h]
end
end Go.Ev
end
section
namespace Go.Ev
theorem BY{v}{b}:ij v b↔¬CB v b:=⟨λh⟨o,n,c,s,e⟩=>h b o n c s e rfl,λh b' o n c s e hb=>h ⟨o,n,c,s,by simp_all⟩⟩
theorem ig.Gq{G G':Heap}{p:Nat}{c c':CH}{v v':V}(C:ig G p c v)(w:G'.wf)(n:G.n<=G'.n)(same:∀j,j<G.n->ij v j->G'.get j=G.get j)(off:∀j,j<G.n->ij v j->ij v' j)(lo:∀lo,lo<=G.bF->lo<=G.n->(∀b,CB v b->lo<=b)->lo<=G'.bF/\∀b,CB v' b->lo<=b)(own:Own hZ G' v' 11 c'.ae.length (dL c'.ae))(ok:CR c'):ig (G'.put p (.cells (mF c' v'))) p c' v'/\Step G (CQ p v) (G'.put p (.cells (mF c' v'))) (CQ p v'):=by
 have hp:p<G'.n:=YE C.cn n;have ho:ij v' p:=off p C.cn C.off;refine⟨⟨by rw[Heap.bu];exact w,by rw[Heap.aH w hp,if_pos rfl],by rw[Heap.aS];exact hp,own.pq w hp ho,ho,ok⟩,⟨by rw[Heap.bu];exact w,by rw[Heap.aS];exact n,λb hb hq=>?_,λl h1 h2 h3=>?_⟩⟩
 .have h1:b≠p:=λe=>hq (YH e);have h2:ij v b:=BY.2 λh=>hq (YD h);refine⟨by rw[Heap.aH w hp,if_neg h1];exact same b hb h2,λh=>?_⟩;rcases h with h|h;.exact h1 h
  .exact BY.1 (off b hb h2) h
 .obtain⟨g1,g2⟩:=lo l h1 h2 λb hb=>h3 b (YD hb);exact⟨Heap.eP g1 (h3 p (YH rfl)),λb hb=>hb.elim (λe=>by rw[e];exact h3 p (YH rfl)) (g2 b)⟩
theorem ig.snoc{G:Heap}{p X:Nat}{c:CH}{v:V}{s:Cn}(C:ig G p c v)(hX:G.get X=.cells (da s))(h8:s.iW.length=8)(hg:jW s.g)(hn:c.ae.length<900):∃v' G',(∀{id:Nat}{ph:dm}{e:Env}{k:K}{a y:Arg},aA a e=v->aA y e=.slice X 0 1 2 0->aR (.app false 11 a y) id ph e G k=k v' G')/\G'.wf/\p<G'.n/\G'.get p=.cells (mF c v)/\v'.one=true/\ig (G'.put p (.cells (mF {c with ae:=c.ae++[s]} v'))) p {c with ae:=c.ae++[s]} v'/\Step G (CQ p v) (G'.put p (.cells (mF {c with ae:=c.ae++[s]} v'))) (CQ p v'):=by
 obtain⟨v',G',hop,own,w,same,n,off,lo⟩:=Own.adO (w:=v) (x:=.slice X 0 1 2 0) (m:=1) (new:=da s) C.wf C.own (λ{id f}=>gm hX (iG h8)) (by rw[iG h8]) (MC s) (by omega);have own':Own hZ G' v' 11 (c.ae++[s]).length (dL (c.ae++[s])):=by rw[YB,MD];show Own hZ G' v' 11 (c.ae.length+1) (dL c.ae++(da s++[]));rw[YV];exact own
 obtain⟨C',s'⟩:=C.Gq (c':={c with ae:=c.ae++[s]}) w n same off lo own' ⟨C.ok.l8,C.ok.s1,C.ok.s8,by show(c.ae++[s]).length<1000;rw[YB];show c.ae.length+1<1000;omega,λt ht=>(Yo.1 ht).elim (C.ok.v8 t) λh=>by rw[YL.1 h];exact h8,λt ht=>(Yo.1 ht).elim (C.ok.g t) λh=>by rw[YL.1 h];exact hg⟩;exact⟨v',G',hop,w,YE C.cn n,(same p C.cn C.off).trans C.get,own.one,C',s'⟩
def zu(c:CH)(g:Gd):CH:=if dY c g=0then{c with ae:=c.ae++[⟨c.live,g,false⟩]}else c
theorem SD{c}{g}:dY c g<10:=by unfold dY;split;omega;split<;>omega
theorem Ax{c}{g}(h:dY c g=0):c.ae.length<20:=by
 unfold dY at h;split at h;.omega
 simp_all
section
variable{cp:RC->au}{t:Nat->Option df}{fuel:Nat}{H:Heap}
set_option maxRecDepth 4000in theorem HL(T:aB t){c}{v}{p}{g}(C:ig H p c v)(hg:jW g)(hfu:1000<fuel):∃H' v',(∀(d)(k),aj (aU cp t fuel (d+4)) (.func 72 []) [.ptr p 0,.agg (aY g)] H k=k (.int 3 (dY c g)) H')/\Step H (CQ p v) H' (CQ p v')/\ig H' p (zu c g) v':=by
 have w:=C.wf;obtain⟨G0,hG0,f0,p0,n0⟩:=Heap.aW w (.cells (aY g));have C0:=C.fresh f0;obtain⟨G1,z1,f1⟩:=wB (cp:=cp) T C0 hg hfu;have z1:=λ{d}{k}=>z1 d k;have C1:=C0.fresh f1;have p1:=(f1.same _ (by omega)).trans p0;have f01:=f0.trans f1;unfold zu;by_cases h:dY c g=0
 .rw[h]at z1⊢;have hlen:=Ax h;have w1:=C1.wf;have wm:G1.mark.wf:=by exact w1
  obtain⟨Gn,G2,hGn,hu2,hl2,f2,p2,n2⟩:=Heap.BS w1 (.cells (da ⟨c.live,g,false⟩));have C2:=C1.fresh f2;obtain⟨v',G3,hop,w3,hp3,g3,j3,C',s'⟩:=C2.snoc p2 C.ok.l8 hg (by omega);have j3:=λ{id}{k}=>aN j3 (id:=id) (k:=k);have g1:=C1.get;obtain⟨x0,x1,x2,x3,x4,x5,x6,x7,e⟩:=fS C.ok.l8;have f02:=f01.trans f2;refine⟨_,v',λd k=>?_,f02.step.trans s',C'⟩;have p0':=p0;generalize hG4:G3.put p (.cells (mF {c with ae:=c.ae++[⟨c.live,g,false⟩]} v'))=G4;simp only[aY]at hG0 p0' p1 z1;simp only[mF,da,e,YO,YY,YK,YJ,sv]at g1 g3 hGn hG4;rw[aJ T.k36 rfl rfl];simp only[go_sem,reduceCtorEq,ZA,ZB,ZC,ZD,ZE,ZF,ZG,ZH,↓reduceIte,c36,aY,w,hG0,p0',p1,↓z1,g1,wm,hGn,hu2,hl2,↓hop,↓j3,g3,w3,hp3,hG4]
 .rw[if_neg h];refine⟨G1,v,λd k=>?_,f01.step,C1⟩;have p0':=p0;simp only[aY]at hG0 p0' z1;rw[aJ T.k36 rfl rfl];simp only[go_sem,reduceCtorEq,ZA,ZB,ZC,ZD,ZE,ZF,ZG,ZH,↓reduceIte,c36,aY,w,hG0,p0',↓z1,h]
def Bp(v:V)(n:Nat):V:=match v with|.slice b o _ _ _=>.slice b o n (n+1) 0|v=>v
theorem Rk{G}{v}{sz N n}{row}(h:Own hZ G v sz N row)(hn:n<=N):Own hZ G (Bp v n) sz n (row.take (n*sz)):=by
 obtain⟨h1,h2,⟨rfl,rfl⟩|⟨b,c,s,rest,rfl,g,hc,hb1,hb2⟩⟩:=h
 .obtain rfl:n=0:=by omega
  exact⟨by simp,λx hx=>by simp_all,YH ⟨rfl,rfl⟩⟩
 .refine⟨by simp_all,λx hx=>h2 x (WI hx),YD ⟨b,n+1,0,row.drop (n*sz)++rest,rfl,?_,YH rfl,hb1,hb2⟩⟩;rw[<-WA,List.take_append_drop];omega
theorem Kr{v}{n b}:CB (Bp v n) b↔CB v b:=by
 unfold Bp;split;.exact⟨λ⟨o,_,_,_,e⟩=>by cases e;exact⟨_,_,_,_,rfl⟩,λ⟨o,_,_,_,e⟩=>by cases e;exact⟨_,_,_,_,rfl⟩⟩
 rfl
theorem wN:∀{l}{n},(∀s∈l,s.iW.length=8)->(dL l).take (n*11)=dL (l.take n)|[],n,_=>by simp[dL]|a::l,0,_=>by rfl|a::l,n+1,h=>by have:=wN (n:=n) λt ht=>h t (YI _ ht);show(da a++dL l).take ((n+1)*11)=da a++dL (l.take n);rw[show(n+1)*11=(da a).length+n*11by rw[iG (h a (YM ..))];omega,List.take_length_add_append,this]
def Uf(c:CH)(n:Nat):CH:=if c.ae.length<n then c else{c with ae:=c.ae.take n,live:=(fD {c with ae:=c.ae.take n}).iW}
set_option maxRecDepth 4000in theorem wG(T:aB t){c:CH}{v:V}{p n:Nat}(C:ig H p c v)(hn:nn n)(hfu:1000<fuel):∃H' v',(∀(d:Nat)(k:K),aj (aU cp t fuel (d+3)) (.func 74 []) [.ptr p 0,.int 3 n] H k=k (.int 3 (if c.ae.length<n then 2 else 0)) H')/\Step H (CQ p v) H' (CQ p v')/\ig H' p (Uf c n) v':=by
 have w:=C.wf;have z0:=λ{d}{k}=>fB (cp:=cp) (fuel:=fuel) T C d k;have hcn:=C.ok.n;have sn:=λ{id}{f}=>C.own.sn (id:=id) (f:=f);have a1:c.ae.length<9223372036854775808:=by omega
 have a2:nn c.ae.length:=by unfold nn;omega
 have a3:nn 0:=by unfold nn;omega
 have a4:¬n<0:=by omega
 obtain⟨x0,x1,x2,x3,x4,x5,x6,x7,e⟩:=fS C.ok.l8;have g:=C.get;simp only[mF,e,YO,YY,YK,YJ,sv]at g;unfold Uf;by_cases h:c.ae.length<n;.simp only[if_pos h];refine⟨H,v,λd k=>?_,Step.refl w,C⟩;rw[aJ T.k37 rfl rfl];simp only[go_sem,↓aa,reduceCtorEq,ZA,ZB,ZC,ZD,ZE,ZF,ZG,ZH,↓reduceIte,c37,↓z0,g,↓sn,a1,a2,a3,a4,hn,h]
 .simp only[if_neg h];have hle:n<=c.ae.length:=by omega
  have own1:Own hZ H (Bp v n) 11 (c.ae.take n).length (dL (c.ae.take n)):=by rw[<-wN C.ok.v8,Yv,Nat.min_eq_left hle];exact Rk C.own hle
  have ok1:CR {c with ae:=c.ae.take n}:=⟨C.ok.l8,C.ok.s1,C.ok.s8,by show(c.ae.take n).length<1000;rw[Yv];omega,λs hs=>C.ok.v8 s (WI hs),λs hs=>C.ok.g s (WI hs)⟩;obtain⟨C1,s1⟩:=C.Gq w (YC _) (λ_ _ _=>rfl) (λj _ h=>BY.2 λhc=>BY.1 h (Kr.1 hc)) (λlo h1 _ h3=>⟨h1,λb hb=>h3 b (Kr.1 hb)⟩) own1 ok1;have j1:=λ{id}{k}=>aN own1.one (id:=id) (k:=k);have hcn':=C.cn;generalize hG1:H.put p (.cells (mF {c with ae:=c.ae.take n} (Bp v n)))=G1 at C1 s1;obtain⟨G2,z2o,f2⟩:=qI (cp:=cp) T C1 hfu;have z2:=λ{d}{k}=>z2o d k;clear z2o;obtain⟨l8,lg⟩:=xp ok1;have C2:=C1.fresh f2;have g2:=C2.get;have w2:=C2.wf;have c2n:=C2.cn;obtain⟨C3,s3⟩:=C2.put (c':={c with ae:=c.ae.take n,live:=(fD {c with ae:=c.ae.take n}).iW}) ⟨l8,ok1.s1,ok1.s8,ok1.n,ok1.v8,ok1.g⟩ rfl rfl;generalize hG3:G2.put p (.cells (mF {c with ae:=c.ae.take n,live:=(fD {c with ae:=c.ae.take n}).iW} (Bp v n)))=G3 at C3 s3;generalize fD {c with ae:=c.ae.take n}=lc at z2 l8 lg C3 s3 hG3⊢;obtain⟨y0,y1,y2,y3,y4,y5,y6,y7,ey⟩:=fS l8;simp only[da,ey,YO,YY,YK,YJ,sv]at z2;simp only[mF,e,ey,YO,YY,YK,YJ,sv]at hG1 g2 hG3;refine⟨G3,Bp v n,λd k=>?_,s1.trans (f2.step.trans s3),C3⟩;have hn':n<9223372036854775808:=by omega
  rw[aJ T.k37 rfl rfl];have own:=C.own;obtain⟨_,_,⟨hv,h0⟩|⟨b,cc,s,r,hv,_,hc,_⟩⟩:=own
  .have n0:n=0:=by omega
   subst hv n0;simp only[Bp]at hG1 g2 hG3 j1;simp only[go_sem,↓aa,reduceCtorEq,ZA,ZB,ZC,ZD,ZE,ZF,ZG,ZH,↓reduceIte,c37,↓z0,g,↓sn,a1,a2,a3,a4,hn,h,↓j1,w,hcn',hG1,↓z2,g2,w2,c2n,hG3]
  .subst hv;simp only[Bp]at hG1 g2 hG3 j1;rcases hc with rfl|⟨rfl,rfl,_⟩
   .have q1:=by omega
    by_cases n0:n=0;.subst n0;simp only[go_sem,↓aa,reduceCtorEq,ZA,ZB,ZC,ZD,ZE,ZF,ZG,ZH,↓reduceIte,c37,↓z0,g,↓sn,a1,a2,a3,a4,hn,h,Ya,q1,QF,↓j1,w,hcn',hG1,↓z2,g2,w2,c2n,hG3]
    .simp only[go_sem,↓aa,reduceCtorEq,ZA,ZB,ZC,ZD,ZE,ZF,ZG,ZH,↓reduceIte,c37,↓z0,g,↓sn,a1,a2,a3,a4,hn,h,hn',Ya,q1,YC,Wc,hle,n0,QE,WH,Ws,↓j1,w,hcn',hG1,↓z2,g2,w2,c2n,hG3]
   .by_cases n0:n=0;.subst n0;simp only[go_sem,↓aa,reduceCtorEq,ZA,ZB,ZC,ZD,ZE,ZF,ZG,ZH,↓reduceIte,c37,↓z0,g,↓sn,a1,a2,a3,a4,hn,h,Ya,QF,↓j1,w,hcn',hG1,↓z2,g2,w2,c2n,hG3]
    .simp only[go_sem,↓aa,reduceCtorEq,ZA,ZB,ZC,ZD,ZE,ZF,ZG,ZH,↓reduceIte,c37,↓z0,g,↓sn,a1,a2,a3,a4,hn,h,hn',Ya,YC,hle,n0,QE,WH,Ws,↓j1,w,hcn',hG1,↓z2,g2,w2,c2n,hG3]
end
end Go.Ev
end
section
namespace Go.Ev
def cidx(l:List Cn)(g:Gd):Option Nat:=l.findIdx? λs=>decide (s.g=g)
theorem vq{l}{g}{i}(h:cidx l g=some i):∃hi:i<l.length,l[i].g=g:=by unfold cidx at h;rw[QL]at h;obtain⟨h1,h2,-⟩:=h;simp_all
def og(c:CH)(g:Gd):Nat×Nat:=match cidx c.ae g with|none=>(0,5)|some i=>if(c.ae.getD i ⟨[],(0,0),false⟩).hid=true then(0,14)else(i,0)
theorem wv{c}{g}(h:(og c g).2=0):∃i,∃hi:i<c.ae.length,og c g=(i,0)/\c.ae[i].g=g/\c.ae[i].hid=false/\cidx c.ae g=some i:=by
 unfold og at h⊢;rcases hx:cidx c.ae g with _|i;.simp_all
 .obtain⟨hi,hg⟩:=vq hx;rcases hh:c.ae[i].hid with _|_;.simp_all
  simp_all
theorem aag{c}{g}(h:c.ae.length<1000):(og c g).1<1000/\(og c g).2<1000:=by
 unfold og;rcases hx:cidx c.ae g with _|i;.simp
 .obtain⟨hi,-⟩:=vq hx;simp only;split;.simp
  omega
theorem Own.zero{H G:Heap}{v:V}{sz n b o n' c s:Nat}{row:List V}(h:Own H G v sz n row)(e:v=.slice b o n' c s):o=0/\n'=n:=by obtain⟨_,_,⟨rfl,_⟩|⟨_,_,_,_,rfl,_⟩⟩:=h<;>cases e;exact⟨rfl,rfl⟩
theorem ig.hid{H:Heap}{c:CH}{v:V}{p i:Nat}(C:ig H p c v)(hi:i<c.ae.length):∃b z s,v=.slice b 0 c.ae.length z s/\b<H.n/\∀{G:Heap},G.get b=H.get b->∀{id:Nat}{k:V->R},FB id (G.get b) (i*11+10) k=k (.bool c.ae[i].hid):=by
 obtain⟨b,o,z,s,h1,h2,-,h4⟩:=C.row.cell (by omega);obtain⟨rfl,-⟩:=C.own.zero h1;refine⟨b,z,s,h1,h2,λ{G}hG{id k}=>?_⟩;have e:=oG C.ok.v8 (YA hi);have h8:=C.ok.v8 _ (YQ hi);have e2:(((dL c.ae).drop (i*11)).take 11)[10]?=some (.bool c.ae[i].hid):=by rw[e];unfold da;rw[Yl (by rw[Yi,h8];omega),Yi,h8];rfl
 rw[Yy,if_pos (by omega),WG]at e2;have:=h4 hG e2 (id:=id) (k:=k);rwa[WH]at this
section
variable{cp:RC->au}{t:Nat->Option df}{fuel:Nat}{H:Heap}
theorem Rh(T:aB t){s}{g}{cg}(hw:H.wf)(h8:s.iW.length=8)(gg:H.get cg=.cells (aY g))(hn:cg<H.n):∃H',(∀(d)(k),aj (aU cp t fuel (d+1)) (.func 234 [.ptr cg 0]) [.agg (da s)] H k=k (.bool (decide (s.g=g))) H')/\ah H H':=by
 obtain⟨G1,hG1,f1,p1,n1⟩:=Heap.aW hw (.cells (da s));have g1:=(f1.same _ hn).trans gg;refine⟨G1,λd k=>?_,f1⟩;obtain⟨y0,y1,y2,y3,y4,y5,y6,y7,ey⟩:=fS h8;simp only[da,ey,YO,YY,YK,YJ,sv]at hG1 p1⊢;simp only[aY]at g1;rw[ay T.ad8 rfl rfl];simp only[YK,YJ];by_cases h:s.g=g;.have e1:=λ{id}{f}=>MK h (id:=id) (f:=f);rw[decide_eq_true h];simp only[go_sem,↓aa,reduceCtorEq,ZA,ZB,ZC,ZD,ZE,ZF,ZG,ZH,↓reduceIte,aaa,hw,hG1,p1,g1,↓bC,↓e1]
 .have e1:=λ{id}{f}=>UU h (id:=id) (f:=f);rw[decide_eq_false h];simp only[go_sem,↓aa,reduceCtorEq,ZA,ZB,ZC,ZD,ZE,ZF,ZG,ZH,↓reduceIte,aaa,hw,hG1,p1,g1,↓bC,↓e1,YT]
theorem DQ(T:aB t){c:CH}{v:V}{p:Nat}{g:Gd}{cg:Nat}(C:ig H p c v)(gg:H.get cg=.cells (aY g))(hcn:cg<H.n)(hfu:1000<fuel):∃H',(∀(d:Nat)(k:K),aj (aU cp t fuel (d+2)) (.func 232 []) [v,.func 234 [.ptr cg 0]] H k=k (.int 3 ((cidx c.ae g).getD 18446744073709551615)) H')/\ah H H':=by
 have hn:=C.ok.n;have nl:nn c.ae.length:=by unfold nn;omega
 have sn:=λ{id}{f}=>C.own.sn (id:=id) (f:=f);have a0:c.ae.length<9223372036854775808:=by omega
 have run:=jM (c:=wk) (fuel:=fuel) (ph:=λd=>aU cp t fuel (d+1)) (I:=λi _ G=>ah H G/\∀(j)(s),j<i->c.ae[j]?=some s->s.g≠g) (S:=λi _ e=>af s000 e=v/\af s001 e=.func 234 [.ptr cg 0]/\af s007 e=.int 3 c.ae.length/\af s010 e=.int 3 i) (J:=λq G=>ah H G/\cidx c.ae g=some q) (Q:=λq e=>af s004 e=.int 3 q) (λi _ G hil⟨f,hno⟩=>by
   obtain⟨b,o,z,zz,hv,hbn,hrd⟩:=C.el hil;have hsi:=YA hil;have hrd:=λ{id}{k}=>hrd (f.same _ hbn) (id:=id) (k:=k);have h8:=C.ok.v8 _ (YQ hil);have hidx:c.ae[i].g=g->cidx c.ae g=some i:=λh=>by unfold cidx;rw[QL];refine⟨hil,decide_eq_true h,λj hj=>?_⟩;have:=hno j c.ae[j] hj (YA (by omega));exactλh=>this (of_decide_eq_true h)
   generalize hsd:c.ae[i]=s at hsi hrd hidx h8;obtain⟨G1,z1o,f1⟩:=Rh (cp:=cp) (fuel:=fuel) T f.wf h8 ((f.same _ hcn).trans gg) (YE hcn f.n);have z1:∀{d}{k:K},_=k (.bool (decide (s.g=g))) G1:=λ{d}{k}=>z1o d k;clear z1o;have a1:nn i:=by unfold nn;omega
   have a2:i<9223372036854775808:=by omega
   have a3:(i+1)%18446744073709551616=i+1:=by omega
   by_cases h:s.g=g;.refine YD ⟨i,G1,⟨f.trans f1,hidx h⟩,λd kx r e y⟨q0,q1,q7,q10⟩hk=>?_⟩;simp only[decide_eq_true h]at z1;rw[hv]at q0;rw[ak];simp only[go_sem,↓aa,reduceCtorEq,ZA,ZB,ZC,ZD,ZE,ZF,ZG,ZH,↓reduceIte,wk,q0,q1,q7,q10,hil,nl,a1,a2,a3,↓hrd,↓z1];refine hk _ ?_;simp only[go_sem,reduceCtorEq,↓reduceIte]
   .refine YH ⟨(),G1,⟨f.trans f1,λj s' hj hs'=>?_⟩,λd kx r e y⟨q0,q1,q7,q10⟩hk=>?_⟩
    .by_cases hji:j<i;.exact hno j s' hji hs'
     .obtain rfl:j=i:=by omega
      rw[hsi]at hs';cases hs';exact h
    rw[hv]at q0;rw[ak];simp only[go_sem,↓aa,reduceCtorEq,ZA,ZB,ZC,ZD,ZE,ZF,ZG,ZH,↓reduceIte,wk,q0,q1,q7,q10,hil,nl,a1,a2,a3,↓hrd,↓z1,h,decide_false];exact hk _ (by simp only[go_sem,↓aa,reduceCtorEq,ZA,ZB,ZC,ZD,ZE,ZF,ZG,ZH,↓reduceIte,q0,q1,q7,hv,and_self])) c.ae.length 0 () H (by omega) ⟨ah.refl C.wf,λj s hj=>by omega⟩;rcases run with⟨_,G',⟨f',hno⟩,z⟩|⟨q,G',⟨f',hq⟩,z⟩
 .have Ak:cidx c.ae g=none:=by unfold cidx;rw[List.findIdx?_eq_none_iff];intro s hs;obtain⟨j,hj,rfl⟩:=List.getElem_of_mem hs;have:=hno j _ hj (YA hj);simpa using this
  rw[Ak];refine⟨G',λd k=>?_,f'⟩;rw[aJ T.aaK rfl rfl];simp only[go_sem,↓aa,reduceCtorEq,ZA,ZB,ZC,ZD,ZE,ZF,ZG,ZH,↓reduceIte,Z9,↓sn,a0];refine z d _ fuel _ _ (by omega) ⟨?_,?_,?_,?_⟩ λr e'⟨q0,q1,q7,q10⟩=>?_;.rfl
  .rfl
  .rfl
  .rfl
  have e6:¬c.ae.length<c.ae.length:=by omega
  rw[ak];simp only[go_sem,↓aa,reduceCtorEq,ZA,ZB,ZC,ZD,ZE,ZF,ZG,ZH,↓reduceIte,wk,q0,q1,q7,q10,nl,e6,Ww]
 .rw[hq];refine⟨G',λd k=>?_,f'⟩;rw[aJ T.aaK rfl rfl];simp only[go_sem,↓aa,reduceCtorEq,ZA,ZB,ZC,ZD,ZE,ZF,ZG,ZH,↓reduceIte,Z9,↓sn,a0];refine z d _ fuel _ _ (by omega) ⟨?_,?_,?_,?_⟩ λe' q4=>?_;.rfl
  .rfl
  .rfl
  .rfl
  simp only[go_sem,↓aa,reduceCtorEq,ZA,ZB,ZC,ZD,ZE,ZF,ZG,ZH,↓reduceIte,q4,YU]
theorem wy(T:aB t){c:CH}{v:V}{p:Nat}{g:Gd}(C:ig H p c v)(hfu:1000<fuel):∃H' x,(∀(d:Nat)(k:K),aj (aU cp t fuel (d+3)) (.func 160 []) [.ptr p 0,.agg (aY g)] H k=k (.cG [x,.int 3 (og c g).2]) H')/\ah H H'/\x.one=true/\((og c g).2=0->∃b n cc s,v=.slice b 0 n cc s/\x=.ptr b ((og c g).1*11)):=by
 have hn:=C.ok.n;have w:=C.wf;obtain⟨G0,hG0,f0,p0,n0⟩:=Heap.aW w (.cells (aY g));have C0:=C.fresh f0;have z0:=λ{d}{k}=>fB (cp:=cp) (fuel:=fuel) T C0 d k;obtain⟨G2,z2o,f2⟩:=DQ (cp:=cp) T C0 p0 (by omega) hfu;have z2:=λ{d}{k}=>z2o d k;have C2:=C0.fresh f2;have g0:=C0.get;have g2:=C2.get;obtain⟨x0,x1,x2,x3,x4,x5,x6,x7,e⟩:=fS C.ok.l8;simp only[mF,e,YO,YY,YK,YJ,sv]at g0 g2;simp only[aY]at hG0;have a3:nn 0:=by unfold nn;omega
 rcases hi:cidx c.ae g with _|i
 .have hr:og c g=(0,5):=by unfold og;rw[hi]
  rw[hi]at z2;simp only[Ww]at z2;have a4:dQ (.lt 9223372036854775808 18446744073709551616) 18446744073709551615 0=true:=by decide
  refine⟨G2,.pj,λd k=>?_,f0.trans f2,rfl,λh=>by rw[hr]at h;cases h⟩;rw[hr,aJ T.k80 rfl rfl];simp only[go_sem,↓aa,reduceCtorEq,ZA,ZB,ZC,ZD,ZE,ZF,ZG,ZH,↓reduceIte,↓aE,c80,aY,w,hG0,↓z0,g0,↓z2,a4]
 .rw[hi]at z2;simp only[YU]at z2;obtain⟨hlt,-⟩:=vq hi;obtain⟨b,z,s,hv,hbn,hrd⟩:=C0.hid hlt;have hrd:=λ{id}{k}=>hrd (f2.same _ hbn) (id:=id) (k:=k);have a1:nn i:=by unfold nn;omega
  have a2:i<9223372036854775808:=by omega
  have a4:¬i<0:=by omega
  have hcf:og c g=if c.ae[i].hid=true then(0,14)else(i,0):=by unfold og;rw[hi];simp only[YF,YA hlt,YU]
  rcases hh:c.ae[i].hid with _|_
  .have hr:og c g=(i,0):=by rw[hcf,hh];rfl
   rw[hh]at hrd;refine⟨G2,.ptr b (i*11),λd k=>?_,f0.trans f2,rfl,λ_=>⟨b,_,z,s,hv,by rw[hr]⟩⟩;rw[hv]at g0 g2 z2;rw[hr,aJ T.k80 rfl rfl];simp only[go_sem,↓aa,reduceCtorEq,ZA,ZB,ZC,ZD,ZE,ZF,ZG,ZH,↓reduceIte,↓aE,c80,aY,w,hG0,↓z0,g0,↓z2,a1,a2,a3,a4,hlt,g2,WH,↓hrd]
  .have hr:og c g=(0,14):=by rw[hcf,hh];rfl
   rw[hh]at hrd;refine⟨G2,.pj,λd k=>?_,f0.trans f2,rfl,λh=>by rw[hr]at h;cases h⟩;rw[hv]at g0 g2 z2;rw[hr,aJ T.k80 rfl rfl];simp only[go_sem,↓aa,reduceCtorEq,ZA,ZB,ZC,ZD,ZE,ZF,ZG,ZH,↓reduceIte,↓aE,c80,aY,w,hG0,↓z0,g0,↓z2,a1,a2,a3,a4,hlt,g2,WH,↓hrd]
theorem zW:∀{l}{i}{s},(∀s∈l,s.iW.length=8)->l[i]?=some s->(dL l).set (i*11+10) (.bool true)=dL (l.set i {s with hid:=true})|[],i,s,_,h=>by rfl|a::l,0,s,h8,h=>by simp at h;subst h;obtain⟨y0,y1,y2,y3,y4,y5,y6,y7,ey⟩:=fS (h8 a (YM ..));show(da a++dL l).set 10 (.bool true)=da {a with hid:=true}++dL l;simp only[da,ey,YO,YY,YK,YJ];rfl|a::l,i+1,s,h8,h=>by have:=zW (λt ht=>h8 t (YI _ ht)) (by simpa using h);have hl:=iG (h8 a (YM ..));show(da a++dL l).set ((i+1)*11+10) (.bool true)=da a++dL (l.set i {s with hid:=true});rw[Qz _ _ (by omega),hl,show(i+1)*11+10-11=i*11+10by omega,this]
def Ue(c:CH)(g:Gd):CH:=if(og c g).2=0then{c with ae:=c.ae.set (og c g).1 {c.ae.getD (og c g).1 ⟨[],(0,0),false⟩with hid:=true}}else c
theorem HE(T:aB t){c}{v}{p}{g}(C:ig H p c v)(hfu:1000<fuel):∃H',(∀(d)(k),aj (aU cp t fuel (d+4)) (.func 78 []) [.ptr p 0,.agg (aY g)] H k=k (.int 3 (og c g).2) H')/\Step H (CQ p v) H' (CQ p v)/\ig H' p (Ue c g) v:=by
 have hn:=C.ok.n;have w:=C.wf;obtain⟨G0,hG0,f0,p0,n0⟩:=Heap.aW w (.cells (aY g));have C0:=C.fresh f0;obtain⟨G1,x,z1o,f1,jx,hx⟩:=wy (cp:=cp) T C0 hfu;have z1:=λ{d}{k}=>z1o d k;have C1:=C0.fresh f1;have f01:=f0.trans f1;have p0':=p0;simp only[aY]at hG0 p0' z1;unfold Ue;by_cases h:(og c g).2=0
 .obtain⟨i,hi,hr,hgi,hhi,-⟩:=wv h;obtain⟨b,n,cc,s,hv,hxx⟩:=hx h;have hsi:=YA hi;rw[if_pos h];simp only[hr,YF,hsi,YU]at hxx z1⊢;subst hxx;have hlen:=tm C.ok.v8;obtain⟨b',c',s',l,hv',gb,-,hbn,hll,hput⟩:=C1.own.put C1.wf (by intro e;rw[e]at hlen;simp at hlen;omega);obtain rfl:b=b':=by rw[hv]at hv';cases hv';rfl
  obtain⟨n2,o2,k2⟩:=hput (i*11+10) (.bool true) (by omega) rfl;rw[zW C.ok.v8 hsi]at o2;have hbp:b≠p:=λe=>C.off _ _ _ _ _ hv e.symm;have s2:Step G1 (CQ p v) (G1.put b (.cells (l.set (i*11+10) (.bool true)))) (CQ p v):=Step.iT C1.wf hbn (YD ⟨_,_,_,_,hv⟩);have w1:=C1.wf;generalize hG2:G1.put b (.cells (l.set (i*11+10) (.bool true)))=G2 at n2 o2 k2 s2;have a1:i*11+10<l.length:=by omega
  refine⟨G2,λd k=>?_,f01.step.trans s2,⟨s2.wf,(k2 _ (λe=>hbp e.symm)).trans C1.get,by rw[n2];exact C1.cn,by rw[Wg];omega,C.off,⟨C.ok.l8,C.ok.s1,C.ok.s8,by rw[Wg];omega,λt ht=>?_,λt ht=>?_⟩⟩⟩;.rw[aJ T.k39 rfl rfl];simp only[go_sem,↓aa,reduceCtorEq,ZA,ZB,ZC,ZD,ZE,ZF,ZG,ZH,↓reduceIte,↓aE,c39,aY,w,hG0,p0',↓z1,gb,a1,w1,hbn,hG2]
  .rcases Wl ht with ht|rfl;.exact C.ok.v8 t ht
   .exact(show c.ae[i].iW.length=8from C.ok.v8 _ (YQ hi))
  .rcases Wl ht with ht|rfl;.exact C.ok.g t ht
   .exact(show jW c.ae[i].g from C.ok.g _ (YQ hi))
 .rw[if_neg h];have jx:=λ{id}{k}=>aN jx (id:=id) (k:=k);refine⟨G1,λd k=>?_,f01.step,C1⟩;rw[aJ T.k39 rfl rfl];simp only[go_sem,↓aa,reduceCtorEq,ZA,ZB,ZC,ZD,ZE,ZF,ZG,ZH,↓reduceIte,↓aE,c39,aY,w,hG0,p0',↓z1,h]
end
end Go.Ev
end
section
namespace Go.Ev
section
variable{cp:RC->au}{t:Nat->Option df}{fuel:Nat}{H:Heap}
theorem DU(T:aB t){O}{n}{v}{row}(hw:H.wf)(h:Row H O v 1 n row)(hn:n<1000000):∃H' v',(∀(d)(k),aj (aU cp t fuel (d+1)) (.func 266 []) [v] H k=k v' H')/\ah H H'/\Own H H' v' 1 n row:=pK T.aek hw h hn
theorem DS(T:aB t){O}{n}{v}{row}(hw:H.wf)(h:Row H O v 11 n row)(hn:n<1000000):∃H' v',(∀(d)(k),aj (aU cp t fuel (d+1)) (.func 132 []) [v] H k=k v' H')/\ah H H'/\Own H H' v' 11 n row:=pK T.k66 hw h hn
theorem abq(l:List Tx):∀y∈l.map sv,y.one=true:=λy hy=>by obtain⟨x,_,rfl⟩:=Yk.1 hy;rfl
theorem wA(T:aB t){c}{v}{p}{iW:List Tx}(C:ig H p c v)(h8:iW.length=8):∃H' v',(∀(d)(k),aj (aU cp t fuel (d+2)) (.func 204 []) [.ptr p 0,.agg (iW.map sv)] H k=k v' H')/\ah H H'/\Own H H' v' 1 c.size ((iW.take c.size).map sv):=by
 have w:=C.wf;have s8:=C.ok.s8;obtain⟨G0,hG0,f0,p0,n0⟩:=Heap.aW w (.cells (iW.map sv));have C0:=C.fresh f0;have hR:Row G0 (λ_=>False) (.slice H.n 0 c.size 9 0) 1 c.size ((iW.take c.size).map sv):=⟨by simp_all,abq _,YD ⟨H.n,0,9,0,iW.map sv,rfl,YH p0,by omega,id,by simp_all,by simp⟩⟩;obtain⟨G1,v',z1o,f1,o1⟩:=DU (cp:=cp) (fuel:=fuel) T f0.wf hR (by omega);have z1:=λ{d}{k}=>z1o d k;have g0:=C0.get;obtain⟨x0,x1,x2,x3,x4,x5,x6,x7,e⟩:=fS C.ok.l8;obtain⟨y0,y1,y2,y3,y4,y5,y6,y7,ey⟩:=fS h8;simp only[mF,e,YO,YY,YK,YJ,sv]at g0;simp only[ey,YO,YY,sv]at hG0;have a1:nn c.size:=by unfold nn;omega
 have a2:c.size<9223372036854775808:=by omega
 refine⟨G1,v',λd k=>?_,f0.trans f1,o1.sub (by omega)⟩;rw[aJ T.adX rfl rfl,ey];simp only[YO,YY,sv];simp only[go_sem,↓aa,reduceCtorEq,ZA,ZB,ZC,ZD,ZE,ZF,ZG,ZH,↓reduceIte,acz,w,hG0,g0,a1,a2,s8,Ya,YC,↓z1,Ws]
theorem HG(T:aB t){c}{v}{p}(C:ig H p c v):∃H' v',(∀(d)(k),aj (aU cp t fuel (d+3)) (.func 92 []) [.ptr p 0] H k=k v' H')/\ah H H'/\Own H H' v' 1 c.size ((c.live.take c.size).map sv):=by have z0:=λ{d}{k}=>fB (cp:=cp) (fuel:=fuel) T C d k;obtain⟨G1,v',z1o,f1,o1⟩:=wA (cp:=cp) (fuel:=fuel) T C C.ok.l8;have z1:=λ{d}{k}=>z1o d k;have g:=C.get;obtain⟨x0,x1,x2,x3,x4,x5,x6,x7,e⟩:=fS C.ok.l8;simp only[mF,e,YO,YY,YK,YJ,sv]at g;simp only[e,YO,YY,sv]at z1;refine⟨G1,v',λd k=>?_,f1,o1⟩;rw[aJ T.k46 rfl rfl];simp only[go_sem,↓aa,reduceCtorEq,ZA,ZB,ZC,ZD,ZE,ZF,ZG,ZH,↓reduceIte,c46,↓z0,g,↓z1]
theorem HK(T:aB t){c}{v}{p}{g}(C:ig H p c v)(hfu:1000<fuel):∃H' v',(∀(d:Nat)(k:K),aj (aU cp t fuel (d+4)) (.func 96 []) [.ptr p 0,.agg (aY g)] H k=k (.cG [v',.int 3 (og c g).2]) H')/\ah H H'/\((og c g).2≠0->v'=.aD)/\∀(i:Nat)(s:Cn),og c g=(i,0)->c.ae[i]?=some s->Own H H' v' 1 c.size ((s.iW.take c.size).map sv):=by
 have w:=C.wf;obtain⟨G0,hG0,f0,p0,n0⟩:=Heap.aW w (.cells (aY g));have C0:=C.fresh f0;obtain⟨G1,x,z1o,f1,jx,hx⟩:=wy (cp:=cp) T C0 hfu;have z1:=λ{d}{k}=>z1o d k;have C1:=C0.fresh f1;have f01:=f0.trans f1;have p0':=p0;simp only[aY]at hG0 p0' z1;by_cases h:(og c g).2=0
 .obtain⟨i,hi,hr,hgi,hhi,-⟩:=wv h;obtain⟨b,n,cc,s,hv,hxx⟩:=hx h;have hsi:=YA hi;obtain⟨b',o,z,zz,hv',hbn,hrd⟩:=C1.el hi;have hrd:=λ{id}{k}=>hrd rfl (id:=id) (k:=k);have h8:=C.ok.v8 _ (YQ hi);obtain⟨G2,v',z2o,f2,o2⟩:=wA (cp:=cp) (fuel:=fuel) T C1 h8;have z2:=λ{d}{k}=>z2o d k;simp only[hr]at hxx z1⊢;subst hxx;have hrd8:∀{id}{k},uV id (G1.get b) (i*11) 8 k=k (c.ae[i].iW.map sv):=λ{id k}=>by
   obtain⟨_,_,⟨hn',_⟩|⟨b2,c2,s2,rest,hv2,gb,_,_,_⟩⟩:=C1.own;.omega
   .obtain rfl:b=b2:=by rw[hv]at hv2;cases hv2;rfl
    have hat:=oG C.ok.v8 hsi;have e8:((dL c.ae++rest).drop (i*11)).take 8=c.ae[i].iW.map sv:=by
     rw[Wz (by omega),Wk (by rw[WK];omega)];have:((dL c.ae).drop (i*11)).take 8=(((dL c.ae).drop (i*11)).take 11).take 8:=by rw[YA2];rfl
     rw[this,hat];unfold da;rw[Qw (by rw[Yi,h8])]
    rw[gb,iM,eT (by rw[YB];omega),eA (by rw[WK,YB];omega),e8]
  refine⟨G2,v',λd k=>?_,f01.trans f2,λhne=>absurd rfl hne,λj s' hj hs'=>?_⟩;.rw[aJ T.k48 rfl rfl];simp only[go_sem,↓aa,reduceCtorEq,ZA,ZB,ZC,ZD,ZE,ZF,ZG,ZH,↓reduceIte,↓aE,UK,aY,w,hG0,p0',↓z1,↓hrd8,↓z2]
  .obtain rfl:i=j:=congrArg Prod.fst hj;rw[hsi]at hs';cases hs';exact o2.sub (by have:=f01.n;omega)
 .refine⟨G1,.aD,λd k=>?_,f01,λ_=>rfl,λi s hi=>absurd (by rw[hi]) h⟩;rw[aJ T.k48 rfl rfl];simp only[go_sem,↓aa,reduceCtorEq,ZA,ZB,ZC,ZD,ZE,ZF,ZG,ZH,↓reduceIte,↓aE,UK,aY,w,hG0,p0',↓z1,h,not_false_eq_true,ne_eq]
theorem DM(T:aB t){c:CH}{v:V}{p:Nat}(C:ig H p c v)(hfu:1000<fuel):∃H' v',(∀(d:Nat)(k:K),aj (aU cp t fuel (d+2)) (.func 94 []) [.ptr p 0] H k=k v' H')/\ah H H'/\Own H H' v' 2 c.ae.length (jh (c.ae.map (·.g))):=by
 have hn:=C.ok.n;have nl:nn c.ae.length:=by unfold nn;omega
 have z0:=λ{d}{k}=>fB (cp:=cp) (fuel:=fuel) T C d k;have g:=C.get;obtain⟨x0,x1,x2,x3,x4,x5,x6,x7,e⟩:=fS C.ok.l8;simp only[mF,e,YO,YY,YK,YJ,sv]at g;have sn:=λ{id}{f}=>C.own.sn (id:=id) (f:=f);have a0:c.ae.length<9223372036854775808:=by omega
 obtain⟨v',G',⟨f',o'⟩,z⟩:=bI (c:=J4) (fuel:=fuel) (I:=λi v G=>ah H G/\Own H G v 2 i (jh ((c.ae.take i).map (·.g)))) (S:=λi w e=>af s003 e=w/\af s014 e=v/\af s015 e=.int 3 c.ae.length/\af s016 e=.int 3 i) (λi u G hil⟨f,o⟩=>by
   obtain⟨b,ob,cc,z,hv,hbn,hrd⟩:=C.el hil;have htk:c.ae.take (i+1)=c.ae.take i++[c.ae[i]]:=by rw[Qn,YA hil];rfl
   have hrd:=λ{id}{k}=>hrd (f.same _ hbn) (id:=id) (k:=k);have h8:=C.ok.v8 _ (YQ hil);generalize c.ae[i]=s at htk hrd h8;obtain⟨y0,y1,y2,y3,y4,y5,y6,y7,ey⟩:=fS h8;have w0:=f.wf;obtain⟨G1,hG1,f1,p1,n1⟩:=Heap.aW w0 (.cells [.str 0 0,.str 0 0,.str 0 0,.str 0 0,.str 0 0,.str 0 0,.str 0 0,.str 0 0,.int 7 0,.int 7 0,.bool false]);obtain⟨G2,hG2,f2,p2,n2,w2,k2⟩:=Heap.bj f1 (YC _) (by omega) (.cells (da s));obtain⟨G3,hG3,f3,p3,n3⟩:=Heap.aW w2 (.cells (aY s.g));have f03:=(f.trans f2).trans f3;obtain⟨v',G4,hap,o4,f4,-⟩:=Own.app (w:=u) (x:=.slice G2.n 0 1 2 0) f03 ((o.fresh f2).fresh f3) (λ{id f}=>gm p3 rfl) rfl (Ee _) (by omega);have w1:=f1.wf;have a1:nn i:=by unfold nn;omega
   have a2:i<9223372036854775808:=by omega
   have a3:(i+1)%18446744073709551616=i+1:=by omega
   have a4:G.n<G1.n:=by omega
   refine⟨v',G4,⟨f4,by rw[htk,WB,rW];simpa[jh]using o4⟩,λd kx r e x⟨q3,q14,q15,q16⟩hk=>?_⟩;simp only[da,ey,YO,YY,YK,YJ,sv]at hG2 p2 hrd;simp only[aY]at hG3;rw[hv]at q14;rw[ak];simp only[go_sem,reduceCtorEq,ZA,ZB,ZC,ZD,ZE,ZF,ZG,ZH,↓reduceIte,J4,q3,q14,q15,q16,hil,nl,a1,a2,a3,a4,↓hrd,w0,hG1,p1,w1,hG2,p2,w2,hG3,↓hap];refine hk _ ?_;simp only[go_sem,↓aa,reduceCtorEq,ZA,ZB,ZC,ZD,ZE,ZF,ZG,ZH,↓reduceIte,q14,q15,hv,and_self]) c.ae.length 0 .aD H (by omega) ⟨ah.refl C.wf,Own.nil⟩;rw[List.take_length]at o';refine⟨G',v',λd k=>?_,f',o'⟩;rw[aJ T.k47 rfl rfl];simp only[go_sem,↓aa,reduceCtorEq,ZA,ZB,ZC,ZD,ZE,ZF,ZG,ZH,↓reduceIte,c47,↓z0,g,↓sn,a0];refine z (d+1) _ fuel _ _ (by omega) ⟨?_,?_,?_,?_⟩ λr e'⟨q3,q14,q15,q16⟩=>?_;.rfl
 .rfl
 .rfl
 .rfl
 have e6:¬c.ae.length<c.ae.length:=by omega
 rw[ak];simp only[go_sem,↓aa,reduceCtorEq,ZA,ZB,ZC,ZD,ZE,ZF,ZG,ZH,↓reduceIte,J4,q3,q14,q15,q16,nl,e6]
set_option maxRecDepth 4000in theorem HB(T:aB t){c}{v}{p}(C:ig H p c v):∃H' q v',(∀(d)(k),aj (aU cp t fuel (d+2)) (.func 42 []) [.ptr p 0] H k=k (.ptr q 0) H')/\ah H H'/\ig H' q c v'/\∀b,CQ q v' b->H.n<=b:=by
 have hn:=C.ok.n;have w:=C.wf;have z0:=λ{d}{k}=>fB (cp:=cp) (fuel:=fuel) T C d k;obtain⟨G1,hG1,f1,p1,n1⟩:=Heap.aW w (.cells [.str 0 0,.str 0 0,.str 0 0,.str 0 0,.str 0 0,.str 0 0,.str 0 0,.str 0 0,.int 3 0,.aD]);have w1:=f1.wf;have b1:H.n<G1.n:=by omega
 obtain⟨G2,hG2,f2,p2,n2,w2,k2⟩:=Heap.bj f1 (YC _) b1 (.cells (mF c v));have C2:=C.fresh f2;obtain⟨G3,v',z3o,f3,o3⟩:=DS (cp:=cp) (fuel:=fuel) T w2 C2.row (by omega);have z3:=λ{d}{k}=>z3o d k;have p3:=(f3.same _ (by omega)).trans p2;have w3:=f3.wf;have b3:H.n<G3.n:=by have:=f3.n;omega
 obtain⟨G4,hG4,f4,p4,n4,w4,k4⟩:=Heap.bj (f2.trans f3) (YC _) b3 (.cells (mF c v'));have ho:ij v' H.n:=o3.off (by omega);have g:=C.get;have g2:=C2.get;obtain⟨x0,x1,x2,x3,x4,x5,x6,x7,e⟩:=fS C.ok.l8;have jv:=λ{id}{k}=>aN C.own.one (id:=id) (k:=k);have jv':=λ{id}{k}=>aN o3.one (id:=id) (k:=k);have g1:=(f1.same _ C.cn).trans C.get;refine⟨G4,H.n,v',λd k=>?_,f4,⟨w4,p4,by omega,?_,ho,C.ok⟩,λb hb=>?_⟩;.simp only[mF,e,YO,YY,YK,YJ,sv]at g g1 g2 hG2 p2 p3 hG4;rw[aJ T.k21 rfl rfl];simp only[go_sem,↓aa,reduceCtorEq,ZA,ZB,ZC,ZD,ZE,ZF,ZG,ZH,↓reduceIte,c21,↓z0,g,g1,w,hG1,p1,w1,b1,↓jv,hG2,g2,↓z3,p3,w3,b3,↓jv',hG4]
 .have:=(o3.sub (H:=hZ) (Ya _)).pq (x:=.cells (mF c v')) w3 b3 ho;rwa[hG4]at this
 .rcases hb with rfl|hb;.omega
  .have:=(o3.cb hb).1;omega
theorem zU(T:aB t){n}(hw:H.wf)(h1:1<=n)(h8:n<=8)(hfu:1000<fuel):∃H' q,(∀(d)(k),aj (aU cp t fuel (d+2)) (.func 18 []) [.int 3 n] H k=k (.ptr q 0) H')/\ah H H'/\ig H' q ⟨zT n,n,[]⟩ .aD/\H.n<=q:=by
 obtain⟨G1,z1o,f1⟩:=ry (cp:=cp) T hw h8 hfu;have z1:=λ{d}{k}=>z1o d k;have w1:=f1.wf;obtain⟨G2,hG2,f2,p2,n2⟩:=Heap.aW w1 (.cells (mF ⟨zT n,n,[]⟩ .aD));have a1:nn n:=by unfold nn;omega
 have a2:nn 1:=by unfold nn;omega
 have a3:nn 8:=by unfold nn;omega
 have a4:¬n<1:=by omega
 have a5:¬8<n:=by omega
 refine⟨G2,G1.n,λd k=>?_,f1.trans f2,⟨f2.wf,p2,by omega,Own.nil,(λb o n c s e=>(by cases e)),⟨lO h8,h1,h8,by simp,λs hs=>(by cases hs),λs hs=>(by cases hs)⟩⟩,f1.n⟩;obtain⟨y0,y1,y2,y3,y4,y5,y6,y7,ez⟩:=fS (lO h8);simp only[ez,YO,YY,sv]at z1;simp only[mF,ez,YO,YY,YK,YJ,sv]at hG2;rw[aJ T.k9 rfl rfl];simp only[go_sem,↓aa,reduceCtorEq,ZA,ZB,ZC,ZD,ZE,ZF,ZG,ZH,↓reduceIte,c9,a1,a2,a3,a4,a5,↓z1,w1,hG2]
end
end Go.Ev
end
section
namespace Go.Ev
def gu(l:List Tx)(cs:List Wr):Nat->List Tx|0=>l|i+1=>(gu l cs i).set (cs.getD i (0,(0,0))).1 (cs.getD i (0,(0,0))).2
theorem rk{l}{cs}:∀i,(gu l cs i).length=l.length|0=>rfl|i+1=>by simp only[gu,Wg,rk i]
def GL(c:CH)(cs:List Wr):List Tx:=gu (fD c).iW cs cs.length
def T9(c:CH)(g:Gd)(cs:List Wr):CH:=if dY c g=0then{c with ae:=c.ae++[⟨GL c cs,g,false⟩],live:=GL c cs}else c
section
variable{cp:RC->au}{t:Nat->Option df}{fuel:Nat}{H:Heap}
theorem O0(T:aB t){c:CH}{v vx:V}{p B Bg:Nat}{cs:List Wr}{O:Nat->Prop}{l0:List Tx}{G0:Heap}(C:ig H p c v)(hX:Row H O vx 2 cs.length (bS cs))(hn:cs.length<1000)(hch:rA cs c.size)(h8:l0.length=8)(f0:ah H G0)(hB:H.n<=B)(hBn:B<G0.n)(gB:G0.get B=.cells (l0.map sv))(hfu:1000<fuel):∃G',ah H G'/\G'.get B=.cells ((gu l0 cs cs.length).map sv)/\G0.n<=G'.n/\(∀j,j<G0.n->j≠B->G'.get j=G0.get j)/\∀(d:Nat)(kx:Nat->KE)(e:Env)(x:R),af s000 e=.ptr p 0->af s004 e=.ptr Bg 0->af s010 e=.ptr B 0->af s011 e=.int 3 18446744073709551615->af s025 e=vx->af s026 e=.int 3 cs.length->af s027 e=.int 3 0->(∀e',af s000 e'=.ptr p 0->af s004 e'=.ptr Bg 0->af s010 e'=.ptr B 0->kx 1 e' G'=x)->ko Dr fuel (aU cp t fuel (d+1)) kx fuel e G0=x:=by
 have nl:nn cs.length:=by unfold nn;omega
 have s8:=C.ok.s8;obtain⟨_,G',⟨f',g',n',k'⟩,z⟩:=bI (c:=Dr) (ph:=λd=>aU cp t fuel (d+1)) (I:=λi _ G=>ah H G/\G.get B=.cells ((gu l0 cs i).map sv)/\G0.n<=G.n/\∀j,j<G0.n->j≠B->G.get j=G0.get j) (S:=λi _ e=>af s000 e=.ptr p 0/\af s004 e=.ptr Bg 0/\af s010 e=.ptr B 0/\af s011 e=.int 3 (nG cs i)/\af s025 e=vx/\af s026 e=.int 3 cs.length/\af s027 e=.int 3 i) (λi _ G hil⟨f,g,n,k⟩=>by
   have hsi:cs[i]?=some cs[i]:=YA hil;obtain⟨c1,c2,c3⟩:=hch.lt _ (YQ hil);have hup:(dQ (.le 9223372036854775808 18446744073709551616) cs[i].1 (nG cs i)=true)=False:=by rw[DL];cases i with|zero=>simp only[nG,eq_iff_iff,iff_false];omega|succ j=>have:=hch.up j hil;simp only[YF,hsi,YU]at this;simp only[nG,YF,eq_iff_iff,iff_false];omega
   have hpr:nG cs (i+1)=cs[i].1:=by simp only[nG,YF,hsi,YU]
   have hst:(gu l0 cs (i+1)).map sv=((gu l0 cs i).map sv).set cs[i].1 (sv cs[i].2):=by simp only[gu,YF,hsi,YU];rw[YE3]
   obtain⟨b,o,cc,z,rfl,hbn,-,hrd⟩:=hX.open hil;have hrd1:=λ{id}{k}=>(hrd (f.same _ hbn)).1 (id:=id) (k:=k);rw[lq hsi]at hrd1;generalize hcx:cs[i]=x at c1 c2 c3 hup hpr hrd1 hst;obtain⟨q,u,w⟩:=x;simp only[sv]at c1 c2 hup hpr hrd1 hst;subst c2;have hXl:((gu l0 cs i).map sv).length=8:=by rw[Yi,rk,h8]
   generalize(gu l0 cs i).map sv=X at g hst hXl;obtain⟨G1,hG1,f1,p1,n1⟩:=Heap.aW f.wf (.cells [.int 3 0,.str 0 0]);have b1:G.n<G1.n:=by omega
   obtain⟨G2,hG2,f2,p2,n2,w2,k2⟩:=Heap.bj f1 (YC _) b1 (.cells [.int 3 q,.str 32 w]);have fx:=f.trans f2;have g2:=(f2.same _ (by omega)).trans g;have b2:B<G2.n:=by omega
   obtain⟨G3,hG3,f3,p3,n3,w3,k3⟩:=Heap.bj fx hB b2 (.cells (X.set q (.str 32 w)));have a4:nn q:=by unfold nn;omega
   have hm:=λ{d}{k}=>zS (cp:=cp) (fuel:=fuel) (l:=32) (x:=w) T (C.fresh fx) a4 (by omega) d k;simp only[c1,decide_true,Qx]at hm;have a1:nn i:=by unfold nn;omega
   have a2:i<9223372036854775808:=by omega
   have a3:(i+1)%18446744073709551616=i+1:=by omega
   have a5:q<8:=by omega
   have a6:q<X.length:=by omega
   have a7:q<9223372036854775808:=by omega
   have wf:=f.wf;have w1:=f1.wf;refine⟨(),G3,⟨f3,by rw[hst];exact p3,by omega,λj hj hne=>by rw[k3 _ hne,f2.same _ (by omega)];exact k j hj hne⟩,λd kx r e y⟨q0,q4,q10,q11,q25,q26,q27⟩hk=>?_⟩;rw[ak];simp only[go_sem,↓aa,reduceCtorEq,ZA,ZB,ZC,ZD,ZE,ZF,ZG,ZH,↓reduceIte,Dr,q0,q4,q10,q11,q25,q26,q27,hil,nl,a1,a2,a3,a4,a5,a6,a7,↓hrd1,wf,hG1,p1,w1,b1,hG2,p2,↓hm,hup,g2,w2,b2,hG3];exact hk _ (by simp only[go_sem,↓aa,reduceCtorEq,ZA,ZB,ZC,ZD,ZE,ZF,ZG,ZH,↓reduceIte,q0,q4,q10,q11,q25,q26,hpr,and_self])) cs.length 0 () G0 (by omega) ⟨f0,gB,YC _,λ_ _ _=>rfl⟩;refine⟨G',f',g',n',k',λd kx e x q0 q4 q10 q11 q25 q26 q27 hk=>z d kx fuel e x (by omega) ⟨q0,q4,q10,q11,q25,q26,q27⟩ λr e'⟨q0,q4,q10,q11,q25,q26,q27⟩=>?_⟩;have e6:¬cs.length<cs.length:=by omega
 rw[ak];simp only[go_sem,↓aa,reduceCtorEq,ZA,ZB,ZC,ZD,ZE,ZF,ZG,ZH,↓reduceIte,Dr,q0,q4,q10,q25,q26,q27,nl,e6];exact hk _ q0 q4 q10
set_option maxRecDepth 4000in theorem LX(T:aB t){c:CH}{v vx:V}{p:Nat}{g:Gd}{cs:List Wr}{O:Nat->Prop}(C:ig H p c v)(hg:jW g)(hX:Row H O vx 2 cs.length (bS cs))(hn:cs.length<1000)(hch:rA cs c.size)(hfu:1000<fuel):∃H' v',(∀(d:Nat)(k:K),aj (aU cp t fuel (d+4)) (.func 36 []) [.ptr p 0,.agg (aY g),vx] H k=k (.int 3 (dY c g)) H')/\Step H (CQ p v) H' (CQ p v')/\ig H' p (T9 c g cs) v':=by
 have w:=C.wf;obtain⟨G0,hG0,f0,p0,n0⟩:=Heap.aW w (.cells (aY g));have C0:=C.fresh f0;obtain⟨G1,z1o,f1⟩:=wB (cp:=cp) T C0 hg hfu;have z1:=λ{d}{k}=>z1o d k;clear z1o;have C1:=C0.fresh f1;have f01:=f0.trans f1;have p0':=p0;have hlt:=SD (c:=c) (g:=g);unfold T9;by_cases h:dY c g=0
 .rw[if_pos h];rw[h]at z1⊢;have hlen:=Ax h;have w1:=C1.wf;have p1:=(f1.same _ (by omega)).trans p0;obtain⟨G2,z2o,f2⟩:=qI (cp:=cp) T C1 hfu;have z2:=λ{d}{k}=>z2o d k;clear z2o;obtain⟨l8,lg⟩:=xp C.ok;have w2:=f2.wf;obtain⟨G3,hG3,f3,p3,n3⟩:=Heap.aW w2 (.cells [.str 0 0,.str 0 0,.str 0 0,.str 0 0,.str 0 0,.str 0 0,.str 0 0,.str 0 0]);have w3:=f3.wf;have b3:G2.n<G3.n:=by omega
  obtain⟨G4,hG4,f4,p4,n4,w4,k4⟩:=Heap.bj f3 (YC _) b3 (.cells ((fD c).iW.map sv));have C2:=C1.fresh f2;have f02:=f01.trans f2;obtain⟨G5,f5,g5,n5,k5,z5⟩:=O0 (cp:=cp) (Bg:=H.n) T C2 (hX.fresh f02) hn hch l8 f4 (YC _) (by omega) p4 hfu;have C5:=C2.fresh f5;have w5:=C5.wf;have hv8:(GL c cs).length=8:=by unfold GL;rw[rk,l8]
  have wm:G5.mark.wf:=by exact w5
  have p5:G5.get H.n=.cells (aY g):=by rw[f5.same _ (by have:=f2.n;have:=f1.n;omega),f2.same _ (by have:=f1.n;omega)];exact p1
  have g5':G5.get G2.n=.cells ((GL c cs).map sv):=g5;obtain⟨Gn,G6,hGn,hu6,hl6,f6,p6,n6⟩:=Heap.BS w5 (.cells (da ⟨GL c cs,g,false⟩));have C6:=C5.fresh f6;obtain⟨v',G7,hop,w7,hp7,g7,j7,C8,s8⟩:=C6.snoc p6 hv8 hg (by omega);have j7:=λ{id}{k}=>aN j7 (id:=id) (k:=k);have g5c:=C5.get;have g8:=C8.get;have w8:=C8.wf;have b8:=C8.cn;have hB8:(G7.put p (.cells (mF {c with ae:=c.ae++[⟨GL c cs,g,false⟩]} v'))).get G2.n=.cells ((GL c cs).map sv):=by
   have hnq:¬CQ p v G2.n:=λh=>by have:=C2.lt _ h;omega
   rw[(s8.same _ (by omega) hnq).1,f6.same _ (by omega)];exact g5'
  obtain⟨C9,s9⟩:=C8.put (c':={c with ae:=c.ae++[⟨GL c cs,g,false⟩],live:=GL c cs}) ⟨hv8,C8.ok.s1,C8.ok.s8,C8.ok.n,C8.ok.v8,C8.ok.g⟩ rfl rfl;generalize hG8:G7.put p (.cells (mF {c with ae:=c.ae++[⟨GL c cs,g,false⟩]} v'))=G8 at g8 w8 b8 C9 s9 s8 hB8;generalize hG9:G8.put p (.cells (mF {c with ae:=c.ae++[⟨GL c cs,g,false⟩],live:=GL c cs} v'))=G9 at C9 s9;obtain⟨x0,x1,x2,x3,x4,x5,x6,x7,e⟩:=fS C.ok.l8;obtain⟨u0,u1,u2,u3,u4,u5,u6,u7,eu⟩:=fS hv8;refine⟨G9,v',λd k=>?_,f02.step.trans (f5.step.trans (f6.step.trans (s8.trans s9))),C9⟩;obtain⟨y0,y1,y2,y3,y4,y5,y6,y7,ey⟩:=fS l8;simp only[aY]at hG0 p0' p1 p5 z1;simp only[mF,da,e,eu,ey,YO,YY,YK,YJ,sv]at z2 hG4 p4 g5' g5c g7 hGn hG8 hB8 g8 hG9;have sx:=λ{id}{f}=>hX.sn (id:=id) (f:=f);have a1:cs.length<9223372036854775808:=by omega
  rw[aJ T.k18 rfl rfl];simp only[go_sem,reduceCtorEq,ZA,ZB,ZC,ZD,ZE,ZF,ZG,ZH,↓reduceIte,c18,PC,aY,w,hG0,p0',↓z1];simp only[go_sem,reduceCtorEq,ZA,ZB,ZC,ZD,ZE,ZF,ZG,ZH,↓reduceIte,XM,XN,↓z2,w2,hG3,p3,w3,b3,hG4,↓sx,a1];refine z5 (d+2) _ _ _ ?_ ?_ ?_ ?_ ?_ ?_ ?_ λe' q0 q4 q10=>?_;.rfl
  .rfl
  .rfl
  .rfl
  .rfl
  .rfl
  .rfl
  simp only[go_sem,reduceCtorEq,ZA,ZB,ZC,ZD,ZE,ZF,ZG,ZH,↓reduceIte,XO,q0,q4,q10,g5c,g5',p5,wm,hGn,hu6,hl6,↓hop,↓j7,g7,w7,hp7,hG8];simp only[go_sem,reduceCtorEq,ZA,ZB,ZC,ZD,ZE,ZF,ZG,ZH,↓reduceIte,XP,XQ,XR,q0,q4,q10,hB8,g8,w8,b8,hG9]
 .rw[if_neg h];refine⟨G1,v,λd k=>?_,f01.step,C1⟩;simp only[aY]at hG0 p0' z1;rw[aJ T.k18 rfl rfl];simp only[go_sem,reduceCtorEq,ZA,ZB,ZC,ZD,ZE,ZF,ZG,ZH,↓reduceIte,c18,PC,aY,w,hG0,p0',↓z1,h]
end
end Go.Ev
end
section
namespace Go.Ev
theorem Eh{id l1 a l2 b}{cls}{l m}{f}:gj id (2::cls) (.str l1 a::l) (.str l2 b::m) f=if l1=l2/\a=b then gj id cls l m f else f false:=by
 show aI (YN l1 l2) (aI (YN a b) (gj id cls l m f) (f false)) (aI false (gj id cls l m f) (f false))=_;simp only[bG,oZ,YT,if_false];by_cases h1:l1=l2;.simp_all
 simp_all
theorem eqV{id}{f}:∀{a b:List Tx}{n},a.length=n->b.length=n->gj id (YZ n 2) (a.map sv) (b.map sv) f=f (decide (a=b))
 |[],[],0,_,_=>by rfl|[],_::_,n,h,h'=>by subst h;simp_all|_::_,[],n,h,h'=>by subst h';simp_all|x::a,y::b,0,h,_=>by simp_all|x::a,y::b,n+1,h,h'=>by
  show gj id (2::YZ n 2) (.str x.1 x.2::a.map sv) (.str y.1 y.2::b.map sv) f=_;rw[Eh,eqV (by simp_all) (by simp_all)];by_cases hxy:x=y;.simp_all
  .rw[if_neg (λh=>hxy (Prod.ext h.1 h.2))];simp_all
theorem wz{a}:∀i,je a a i=[]|0=>rfl|i+1=>by simp only[je,wz i,if_true,YV]
theorem ig.iW{H:Heap}{c:CH}{v:V}{p i:Nat}(C:ig H p c v)(hi:i<c.ae.length):∃b z s,v=.slice b 0 c.ae.length z s/\b<H.n/\∀{G:Heap},G.get b=H.get b->∀{id:Nat}{k:List V->R},uV id (G.get b) (i*11) 8 k=k (c.ae[i].iW.map sv):=by
 have hsi:c.ae[i]?=some c.ae[i]:=YA hi;have h8:=C.ok.v8 _ (YQ hi);obtain⟨_,_,⟨hn',h0⟩|⟨b,c2,s2,rest,hv2,gb,_,_,hb⟩⟩:=C.own;.omega
 refine⟨b,c2,s2,hv2,hb,λ{G}hG{id k}=>?_⟩;have hl:=tm C.ok.v8;have hat:=oG C.ok.v8 hsi;have e8:((dL c.ae++rest).drop (i*11)).take 8=c.ae[i].iW.map sv:=by
  rw[Wz (by omega),Wk (by rw[WK];omega)];have:((dL c.ae).drop (i*11)).take 8=(((dL c.ae).drop (i*11)).take 11).take 8:=by rw[YA2];rfl
  rw[this,hat];unfold da;rw[Qw (by rw[Yi,h8])]
 rw[hG,gb,iM,eT (by rw[YB];omega),eA (by rw[WK,YB];omega),e8]
section
variable{cp:RC->au}{t:Nat->Option df}{fuel:Nat}{H:Heap}
theorem LY(T:aB t){A B:Nat}{a b:List Tx}(hw:H.wf)(gA:H.get A=.cells (a.map sv))(hA:A<H.n)(gB:H.get B=.cells (b.map sv))(hB:B<H.n)(ha:a.length=8)(hb:b.length=8)(hfu:1000<fuel):∃G' v',ah H G'/\Own H G' v' 2 (CM a b).length (bS (CM a b))/\∀(d:Nat)(kx:Nat->KE)(e:Env)(x:R),af s006 e=.ptr A 0->af s010 e=.ptr B 0->af s007 e=.aD->af s062 e=.int 3 0->(∀e',af s007 e'=v'->kx 1 e' G'=x)->ko zH fuel (aU cp t fuel d) kx fuel e H=x:=by
 have nl:nn 8:=by unfold nn;omega
 obtain⟨v',G',⟨f',o'⟩,z⟩:=bI (c:=zH) (fuel:=fuel) (n:=8) (I:=λi v G=>ah H G/\Own H G v 2 (je a b i).length (bS (je a b i))) (S:=λi v e=>af s006 e=.ptr A 0/\af s010 e=.ptr B 0/\af s007 e=v/\af s062 e=.int 3 i) (λi v G hil⟨f,o⟩=>by
   have hia:i<a.length:=by omega
   have hib:i<b.length:=by omega
   have hg1:a.getD i t0=a[i]:=by rw[YF,YA hia,YU]
   have hg2:b.getD i t0=b[i]:=by rw[YF,YA hib,YU]
   have hst:je a b (i+1)=je a b i++(if a[i]=b[i]then[]else[(i,b[i])]):=by simp only[je,hg1,hg2]
   have hcl:=l4 a b i;have gA':=(f.same _ hA).trans gA;have gB':=(f.same _ hB).trans gB;have hra:∀{id}{k},FB id (G.get A) i k=k (sv a[i]):=λ{id k}=>Ce (YH gA') (by simp[hia]) rfl;have hrb:∀{id}{k},FB id (G.get B) i k=k (sv b[i]):=λ{id k}=>Ce (YH gB') (by simp[hib]) rfl;generalize a[i]=x at hra hst;generalize b[i]=y at hrb hst;simp only[sv]at hra hrb;have w0:=f.wf;have a1:nn i:=by unfold nn;omega
   have a2:i<9223372036854775808:=by omega
   have a3:(i+1)%18446744073709551616=i+1:=by omega
   by_cases hxy:x=y
   .rw[if_pos hxy,YV]at hst;have e1:(x.1=y.1/\x.2=y.2)=True:=by rw[uF];exact eq_true hxy
    have e2:(y.1=x.1/\y.2=x.2)=True:=by rw[uF];exact eq_true hxy.symm
    refine⟨v,G,⟨f,by rw[hst];exact o⟩,λd kx r e x⟨q6,q10,q7,q62⟩hk=>?_⟩;rw[ak];simp only[go_sem,↓aa,reduceCtorEq,ZA,ZB,ZC,ZD,ZE,ZF,ZG,ZH,↓reduceIte,zH,q6,q10,q7,q62,hil,nl,a1,a2,a3,↓hra,↓hrb,e1,e2,WW];exact hk _ (by simp only[go_sem,↓aa,reduceCtorEq,ZA,ZB,ZC,ZD,ZE,ZF,ZG,ZH,↓reduceIte,q6,q10,q7,and_self])
   .rw[if_neg hxy]at hst;have e1:(x.1=y.1/\x.2=y.2)=False:=by rw[uF];exact eq_false hxy
    have e2:(y.1=x.1/\y.2=x.2)=False:=by rw[uF];exact eq_false λh=>hxy h.symm
    obtain⟨G3,hG3,f3,p3,n3⟩:=Heap.aW w0 (.cells [.int 3 i,.str y.1 y.2]);obtain⟨v',G4,hap,o4,f4,-⟩:=Own.app (w:=v) (x:=.slice G.n 0 1 2 0) (f.trans f3) (o.fresh f3) (λ{id f}=>gm p3 rfl) rfl (λz hz=>by rcases YS.1 hz with rfl|hz;rfl;rw[YL.1 hz];rfl) (by omega);refine⟨v',G4,⟨f4,by rw[hst,YB,dM];exact o4⟩,λd kx r e x⟨q6,q10,q7,q62⟩hk=>?_⟩;rw[ak];simp only[go_sem,reduceCtorEq,ZA,ZB,ZC,ZD,ZE,ZF,ZG,ZH,↓reduceIte,zH,q6,q10,q7,q62,hil,nl,a1,a2,a3,↓hra,↓hrb,e1,e2,Wu,w0,hG3,↓hap];refine hk _ ?_;simp only[go_sem,↓aa,reduceCtorEq,ZA,ZB,ZC,ZD,ZE,ZF,ZG,ZH,↓reduceIte,q6,q10,and_self]) 8 0 .aD H (by omega) ⟨ah.refl hw,Own.nil⟩;have hc8:je a b 8=CM a b:=by unfold CM;rw[hb]
 rw[hc8]at o';refine⟨G',v',f',o',λd kx e x q6 q10 q7 q62 hk=>z d kx fuel e x (by omega) ⟨q6,q10,q7,q62⟩ λr e'⟨q6,q10,q7,q62⟩=>?_⟩;have e6:=by omega
 rw[ak];simp only[go_sem,↓aa,reduceCtorEq,ZA,ZB,ZC,ZD,ZE,ZF,ZG,ZH,↓reduceIte,zH,q6,q10,q7,q62,nl,e6];exact hk _ q7
def jn(c:CH)(i:Nat):List Tx:=if i=0then zT c.size else(c.ae.getD (i-1) ⟨[],(0,0),false⟩).iW
set_option maxRecDepth 4000in theorem yG(T:aB t){c:CH}{v:V}{p i:Nat}(C:ig H p c v)(hi:nn i)(hfu:1000<fuel):∃H' v',(∀(d:Nat)(k:K),aj (aU cp t fuel (d+2)) (.func 100 []) [.ptr p 0,.int 3 i] H k=k (.cG [v',.int 3 (if i<c.ae.length then 0 else 5)]) H')/\ah H H'/\(¬i<c.ae.length->v'=.aD)/\∀s,c.ae[i]?=some s->Own H H' v' 2 (CM (jn c i) s.iW).length (bS (CM (jn c i) s.iW)):=by
 have hn:=C.ok.n;have w:=C.wf;have z0:=λ{d}{k}=>fB (cp:=cp) (fuel:=fuel) T C d k;have sn:=λ{id}{f}=>C.own.sn (id:=id) (f:=f);have a1:c.ae.length<9223372036854775808:=by omega
 have a2:nn c.ae.length:=by unfold nn;omega
 have a3:nn 0:=by unfold nn;omega
 have a4:¬i<0:=by omega
 have g:=C.get;obtain⟨x0,x1,x2,x3,x4,x5,x6,x7,e⟩:=fS C.ok.l8;simp only[mF,e,YO,YY,YK,YJ,sv]at g;by_cases hlt:i<c.ae.length
 .have hge:¬c.ae.length<=i:=by omega
  have hsi:=YA hlt;rw[if_pos hlt];obtain⟨G1,z1o,f1⟩:=ry (cp:=cp) T w C.ok.s8 hfu;have z1:=λ{d}{k}=>z1o d k;clear z1o;have w1:=f1.wf;obtain⟨G2,hG2,f2,p2,n2⟩:=Heap.aW w1 (.cells [.str 0 0,.str 0 0,.str 0 0,.str 0 0,.str 0 0,.str 0 0,.str 0 0,.str 0 0]);have w2:=f2.wf;have b2:G1.n<G2.n:=by omega
  obtain⟨G3,hG3,f3,p3,n3,w3,k3⟩:=Heap.bj f2 (YC _) b2 (.cells ((zT c.size).map sv));have f13:=f1.trans f3;have C3:=C.fresh f13;have g3:=C3.get;simp only[mF,e,YO,YY,YK,YJ,sv]at g3;have base:∃G4,ah H G4/\G3.n<=G4.n/\G4.get G1.n=.cells ((jn c i).map sv)/\(jn c i).length=8/\∀(d)(kn)(kx)(e)(x),af s000 e=.ptr p 0->af s001 e=.int 3 i->af s006 e=.ptr G1.n 0->(∀e',af s000 e'=.ptr p 0->af s001 e'=.int 3 i->af s006 e'=.ptr G1.n 0->gO J9 fuel (aU cp t fuel d) e' G4 kn kx=x)->gO J8 fuel (aU cp t fuel d) e G3 kn kx=x:=by
   unfold jn;by_cases h0:i=0
   .subst h0;simp only[if_true];refine⟨G3,f13,YC _,p3,lO C.ok.s8,λd kn kx e x q0 q1 q6 hk=>?_⟩;have e0:¬0<0:=by omega
    simp only[go_sem,↓aa,reduceCtorEq,ZA,ZB,ZC,ZD,ZE,ZF,ZG,ZH,↓reduceIte,J8,q0,q1,q6,a3,e0];exact hk _ q0 q1 q6
   .obtain⟨j,rfl⟩:∃j,i=j+1:=⟨i-1,by omega⟩;have hj:j<c.ae.length:=by omega
    simp only[h0,if_false,Wc];rw[YF,YA hj,YU];obtain⟨b,z,s,hv,hbn,hrd⟩:=C3.iW hj;have hrd:=λ{id}{k}=>hrd rfl (id:=id) (k:=k);have h8:=C.ok.v8 _ (YQ hj);generalize c.ae[j]=s' at hrd h8;have b3:G1.n<G3.n:=by omega
    obtain⟨G4,hG4,f4,p4,n4,w4,k4⟩:=Heap.bj f3 (YC _) b3 (.cells (s'.iW.map sv));refine⟨G4,f1.trans f4,by omega,p4,h8,λd kn kx e y q0 q1 q6 hk=>?_⟩;have e1:0<j+1:=by omega
    have e2:(j+1+18446744073709551615)%18446744073709551616=j:=by unfold nn at hi;omega
    have e3:nn j:=by unfold nn;omega
    have e4:j<9223372036854775808:=by omega
    have e5:=by omega
    obtain⟨y0,y1,y2,y3,y4,y5,y6,y7,ey⟩:=fS h8;obtain⟨u0,u1,u2,u3,u4,u5,u6,u7,eu⟩:=fS (lO C.ok.s8);simp only[ey,eu,YO,YY,sv]at hrd hG4 p3;rw[hv]at g3;simp only[go_sem,↓aa,reduceCtorEq,ZA,ZB,ZC,ZD,ZE,ZF,ZG,ZH,↓reduceIte,J8,q0,q1,q6,a3,hi,e1,e2,e3,e4,e5,hj,g3,WH,WL,↓hrd,p3,w3,b3,hG4];exact hk _ q0 q1 q6
  obtain⟨G4,f4,n4,p4,hpl,zb⟩:=base;have C4:=C.fresh f4;have g4:=C4.get;simp only[mF,e,YO,YY,YK,YJ,sv]at g4;obtain⟨b,z,s,hv,hbn,hrd⟩:=C4.iW hlt;have hrd:=λ{id}{k}=>hrd rfl (id:=id) (k:=k);have h8:=C.ok.v8 _ (YQ hlt);generalize c.ae[i]=sn' at hsi hrd h8;have w4:=f4.wf;obtain⟨G5,hG5,f5,p5,n5⟩:=Heap.aW w4 (.cells [.str 0 0,.str 0 0,.str 0 0,.str 0 0,.str 0 0,.str 0 0,.str 0 0,.str 0 0]);have w5:=f5.wf;have b5:G4.n<G5.n:=by omega
  have hbb:=by omega
  have gb5:=f5.same _ hbn;obtain⟨G6,hG6,f6,p6,n6,w6,k6⟩:=Heap.bj f5 (YC _) b5 (.cells (sn'.iW.map sv));have q4:=(f6.same _ (by omega)).trans p4;have hb4:=hi;have hb5:i<9223372036854775808:=by omega
  have hrep:∀{id}{f},gj id [2,2,2,2,2,2,2,2] (sn'.iW.map sv) ((jn c i).map sv) f=f (decide (sn'.iW=jn c i)):=λ{id f}=>eqV h8 hpl;have f46:=f4.trans f6;by_cases hsame:sn'.iW=jn c i
  .have hnil:CM (jn c i) sn'.iW=[]:=by rw[hsame];exact wz _
   simp only[decide_eq_true hsame]at hrep;refine⟨G6,.aD,λd k=>?_,f46,λh=>absurd hlt h,λs' hs'=>by rw[hsi]at hs';cases hs';rw[hnil];exact Own.nil⟩;generalize jn c i=pv at*;obtain⟨y0,y1,y2,y3,y4,y5,y6,y7,ey⟩:=fS h8;obtain⟨u0,u1,u2,u3,u4,u5,u6,u7,eu⟩:=fS hpl;obtain⟨w0',w1',w2',w3',w4',w5',w6',w7',ew⟩:=fS (lO C.ok.s8);clear hsame hnil;simp only[ey,eu,ew,YO,YY,sv]at hrd hG3 hG6 p6 q4 z1 hrep;rw[aJ T.k50 rfl rfl];simp only[go_sem,↓aa,reduceCtorEq,ZA,ZB,ZC,ZD,ZE,ZF,ZG,ZH,↓reduceIte,↓aE,c50,J6,J7,PW,↓z0,g,↓sn,a1,a2,a3,a4,hi,hge,↓z1,w1,hG2,p2,w2,b2,hG3];refine zb (d+1) _ _ _ _ ?_ ?_ ?_ λe' q0 q1 q6=>?_;.rfl
   .rfl
   .rfl
   rw[hv]at g4;simp only[go_sem,↓aa,reduceCtorEq,ZA,ZB,ZC,ZD,ZE,ZF,ZG,ZH,↓reduceIte,↓aE,J9,PX,PY,PZ,q0,q1,q6,g4,hb4,hb5,hlt,WH,WL,↓hrd,w4,hG5,p5,w5,b5,hG6,p6,q4,↓bC,↓hrep,WW]
  .simp only[decide_eq_false hsame]at hrep;obtain⟨G7,v',f7,o7,z7⟩:=LY (cp:=cp) T w6 q4 (by omega) p6 (by omega) hpl h8 hfu;refine⟨G7,v',λd k=>?_,f46.trans f7,λh=>absurd hlt h,λs' hs'=>by rw[hsi]at hs';cases hs';exact o7.sub (by have:=f46.n;omega)⟩;generalize jn c i=pv at*;obtain⟨y0,y1,y2,y3,y4,y5,y6,y7,ey⟩:=fS h8;obtain⟨u0,u1,u2,u3,u4,u5,u6,u7,eu⟩:=fS hpl;obtain⟨w0',w1',w2',w3',w4',w5',w6',w7',ew⟩:=fS (lO C.ok.s8);clear hsame o7;simp only[ey,eu,ew,YO,YY,sv]at hrd hG3 hG6 p6 q4 z1 hrep;rw[aJ T.k50 rfl rfl];simp only[go_sem,↓aa,reduceCtorEq,ZA,ZB,ZC,ZD,ZE,ZF,ZG,ZH,↓reduceIte,↓aE,c50,J6,J7,PW,↓z0,g,↓sn,a1,a2,a3,a4,hi,hge,↓z1,w1,hG2,p2,w2,b2,hG3];refine zb (d+1) _ _ _ _ ?_ ?_ ?_ λe' q0 q1 q6=>?_;.rfl
   .rfl
   .rfl
   rw[hv]at g4;simp only[go_sem,↓aa,reduceCtorEq,ZA,ZB,ZC,ZD,ZE,ZF,ZG,ZH,↓reduceIte,↓aE,J9,PX,q0,q1,q6,g4,hb4,hb5,hlt,WH,WL,↓hrd,w4,hG5,p5,w5,b5,hG6,p6,q4,↓bC,↓hrep,Wu,YT];refine z7 (d+1) _ _ _ ?_ ?_ ?_ ?_ λe'' q7=>?_;.exact q6
   .rfl
   .rfl
   .rfl
   simp only[go_sem,↓aa,reduceCtorEq,ZA,ZB,ZC,ZD,ZE,ZF,ZG,ZH,↓reduceIte,↓aE,PY,PZ,q7]
 .have hge:c.ae.length<=i:=by omega
  rw[if_neg hlt];refine⟨H,.aD,λd k=>?_,ah.refl w,λ_=>rfl,λs hs=>absurd (YX.1 hs).1 hlt⟩;rw[aJ T.k50 rfl rfl];simp only[go_sem,↓aa,reduceCtorEq,ZA,ZB,ZC,ZD,ZE,ZF,ZG,ZH,↓reduceIte,↓aE,c50,J6,J7,↓z0,g,↓sn,a1,a2,a3,a4,hi,hge]
end
end Go.Ev
end
section
namespace Go.Ev
def eG(c n:Nat):List UInt8:=YZ n (UInt8.ofNat c)
theorem fM{c n}:(eG c n).length=n:=WT
theorem Iu{c n}:eG c (n+1)=eG c n++[UInt8.ofNat c]:=YN4
theorem ND{c i}(h:c<256):I9 (enc (eG c i)) i 1 c=enc (eG c (i+1)):=by
 have h1:=iJ (eG c i);rw[fM]at h1;have h2:enc (eG c i)>>>(8*(i+1))=0:=by rw[wQ,List.drop_eq_nil_of_le (by rw[fM];omega)];rfl
 rw[Iu,iI,fM];unfold I9;rw[h2,WE h1];simp only[enc];have h3:(UInt8.ofNat c).toNat=c:=by simp_all
 rw[h3]
def dT(c:Nat):Tx:=(32,enc (eG c 32))
theorem D7(c):sI (dT c):=by have:=iJ (eG c 32);exact this
section
variable{cp:RC->au}{t:Nat->Option df}{fuel:Nat}{H:Heap}
theorem tg(T:aB t){c:Nat}(hw:H.wf)(hc:c<=250)(hfu:1000<fuel):∃H',(∀(d:Nat)(k:K),aj (aU cp t fuel (d+1)) (.func 30 []) [.int 4 c] H k=k (.str 32 (enc (eG c 32))) H')/\ah H H':=by
 obtain⟨G1,hG1,f1,p1,n1⟩:=Heap.aW hw (.bytes 32 0);have n32:nn 32:=by unfold nn;omega
 obtain⟨_,G',⟨f',g',n'⟩,z⟩:=bI (c:=J0) (fuel:=fuel) (n:=32) (I:=λi _ G=>ah H G/\G.get H.n=.bytes 32 (enc (eG c i))/\H.n<G.n) (S:=λi _ e=>af s000 e=.int 4 c/\af s003 e=.slice H.n 0 32 33 0/\af s004 e=.int 3 i) (λi _ G hil⟨f,g,hn⟩=>by
   have hx:=ND (c:=c) (i:=i) (by omega);have w0:=f.wf;obtain⟨G2,hG2,f2,p2,n2,w2,k2⟩:=Heap.bj f (YC _) hn (.bytes 32 (enc (eG c (i+1))));have a1:nn i:=by unfold nn;omega
   have a2:i<9223372036854775808:=by omega
   have a3:(i+1)%18446744073709551616=i+1:=by omega
   have a4:i+1<=32:=by omega
   refine⟨(),G2,⟨f2,p2,by omega⟩,λd kx r e x⟨q0,q3,q4⟩hk=>?_⟩;rw[ak];simp only[go_sem,↓aa,reduceCtorEq,ZA,ZB,ZC,ZD,ZE,ZF,ZG,ZH,↓reduceIte,J0,q0,q3,q4,hil,n32,a1,a2,a3,a4,g,hx,w0,hn,hG2];exact hk _ (by simp only[go_sem,↓aa,reduceCtorEq,ZA,ZB,ZC,ZD,ZE,ZF,ZG,ZH,↓reduceIte,q0,q3,and_self])) 32 0 () G1 (by omega) ⟨f1,p1,by omega⟩;refine⟨G',λd k=>?_,f'⟩;have e6:¬(32:Nat)<32:=by omega
 have e7:¬dQ (.gt 0 256) c 250=true:=by rw[Kl];omega
 have e8:enc (eG c 32)%256^32=enc (eG c 32):=WE (D7 c);have e9:=by omega
 rw[aJ T.k15 rfl rfl];simp only[go_sem,↓aa,reduceCtorEq,ZA,ZB,ZC,ZD,ZE,ZF,ZG,ZH,↓reduceIte,c15,hw,hG1];refine z d _ fuel _ _ (by omega) ⟨?_,?_,?_⟩ λr e'⟨q0,q3,q4⟩=>?_;.rfl
 .rfl
 .rfl
 rw[ak];simp only[go_sem,↓aa,reduceCtorEq,ZA,ZB,ZC,ZD,ZE,ZF,ZG,ZH,↓reduceIte,J0,q0,q3,q4,n32,e6,e7,g',Nat.shiftRight_zero,e8,e9]
theorem jV(T:aB t){a b}(hw:H.wf):∃H',(∀(d)(k),aj (aU cp t fuel (d+1)) (.func 28 []) [.int 7 a,.int 7 b] H k=k (.agg [.int 7 a,.int 7 b]) H')/\ah H H':=by
 obtain⟨G1,hG1,f1,p1,n1⟩:=Heap.aW hw (.cells [.int 7 0,.int 7 0]);have w1:=f1.wf;have b1:H.n<G1.n:=by omega
 obtain⟨G2,hG2,f2,p2,n2,w2,k2⟩:=Heap.bj f1 (YC _) b1 (.cells [.int 7 a,.int 7 b]);refine⟨G2,λd k=>?_,f2⟩;rw[aJ T.k14 rfl rfl];simp only[go_sem,↓aa,reduceCtorEq,ZA,ZB,ZC,ZD,ZE,ZF,ZG,ZH,↓reduceIte,c14,hw,hG1,p1,w1,b1,hG2,↓ei,p2]
theorem yH(T:aB t){X b c cx sx}(hw:H.wf)(gX:H.get X=.cells [.int 3 b,.int 4 c])(hX:X<H.n)(hb:nn b)(hc:c<=250)(hfu:1000<fuel):∃H' v',(∀(d)(k),aj (aU cp t fuel (d+2)) (.func 64 []) [.slice X 0 1 cx sx] H k=k v' H')/\ah H H'/\Own H H' v' 2 1 [.int 3 b,.str 32 (enc (eG c 32))]:=by
 have wm:H.mark.wf:=by exact hw
 obtain⟨Gm',z1',f1'⟩:=tg T wm hc hfu;obtain⟨Gm,G1,z1o,hu1,hl1,f1⟩:=qj (cp:=cp) ⟨Gm',z1',f1'⟩;have z1:=λ{d}{k}=>z1o d k;have w1:=f1.wf;obtain⟨G2,hG2,f2,p2,n2⟩:=Heap.aW w1 (.cells [.int 3 b,.str 32 (enc (eG c 32))]);obtain⟨v',G3,hap,o3,f3,-⟩:=Own.app (w:=.aD) (x:=.slice G1.n 0 1 2 0) (sz:=2) (f1.trans f2) Own.nil (λ{id f}=>gm p2 rfl) rfl (λz hz=>by rcases YS.1 hz with rfl|hz;rfl;rw[YL.1 hz];rfl) (by omega);have a0:nn 0:=by unfold nn;omega
 have a1:nn 1:=by unfold nn;omega
 have a2:nn 10:=by unfold nn;omega
 have e0:=by omega
 have e1:=by omega
 have e2:=by omega
 obtain⟨f,rfl⟩:∃f,fuel=f+2:=⟨fuel-2,by omega⟩;refine⟨G3,v',λd k=>?_,f3,o3⟩;rw[aJ T.k32 rfl rfl];simp only[go_sem,reduceCtorEq,ZA,ZB,ZC,ZD,ZE,ZF,ZG,ZH,↓reduceIte,c32];rw[ak];simp only[go_sem,reduceCtorEq,ZA,ZB,ZC,ZD,ZE,ZF,ZG,ZH,↓reduceIte,X0,a0,a1,a2,e0,e1,gX,wm,↓z1,hu1,hl1,w1,hG2,↓hap];rw[ak];simp only[go_sem,↓aa,reduceCtorEq,ZA,ZB,ZC,ZD,ZE,ZF,ZG,ZH,↓reduceIte,a0,a1,a2,e2]
theorem yg(T:aB t){O Q:Nat->Prop}{va vb:V}{a b:List Tx}(hw:H.wf)(hA:zC H O va a)(hB:zC H Q vb b)(ha:a.length<1000)(hb:b.length<1000)(hfu:1000<fuel)(d:Nat)(k:K):aj (aU cp t fuel (d+1)) (.func 90 []) [va,vb] H k=k (.bool (decide (a=b))) H:=by
 have sa:=λ{id}{f}=>hA.sn (id:=id) (f:=f);have sb:=λ{id}{f}=>hB.sn (id:=id) (f:=f);have na:nn a.length:=by unfold nn;omega
 have ha9:a.length<9223372036854775808:=by omega
 have hb9:b.length<9223372036854775808:=by omega
 by_cases hl:a.length=b.length
 .have run:=jM (c:=Dw) (fuel:=fuel) (ph:=λd=>aU cp t fuel d) (τ:=Unit) (n:=a.length) (I:=λi _ G=>G=H/\∀j,j<i->a.getD j t0=b.getD j t0) (S:=λi _ e=>af s000 e=va/\af s001 e=vb/\af s005 e=.int 3 i) (J:=λ_ G=>G=H/\a≠b) (Q:=λ_ e=>af s004 e=.bool false) (j:=λ_=>0) (λi _ G hil⟨hG,hno⟩=>by
    subst hG;obtain⟨ba,oa,ca,za,hva,-,-,hra⟩:=hA.open hil;obtain⟨bb,ob,cb,zb,hvb,-,-,hrb⟩:=hB.open (i:=i) (by omega);have hra:=λ{id}{k}=>hra rfl (id:=id) (k:=k);have hrb:=λ{id}{k}=>hrb rfl (id:=id) (k:=k);have hil':i<b.length:=by omega
    have hga:a.getD i t0=a[i]:=by rw[YF,YA hil,YU]
    have hgb:b.getD i t0=b[i]:=by rw[YF,YA hil',YU]
    have hne:a[i]≠b[i]->a≠b:=λh e=>h (by subst e;rfl);generalize a[i]=x at hra hga hne;generalize b[i]=y at hrb hgb hne;simp only[sv]at hra hrb;have a1:nn i:=by unfold nn;omega
    have a2:i<9223372036854775808:=by omega
    have a3:(i+1)%18446744073709551616=i+1:=by omega
    by_cases hxy:x=y
    .have e1:(x.1=y.1/\x.2=y.2)=True:=by rw[uF];exact eq_true hxy
     refine YH ⟨(),G,⟨rfl,λj hj=>?_⟩,λd kx r e z⟨q0,q1,q5⟩hk=>?_⟩
     .by_cases hji:j<i;.exact hno j hji
      .obtain rfl:j=i:=by omega
       rw[hga,hgb,hxy]
     rw[hva]at q0;rw[hvb]at q1;rw[ak];simp only[go_sem,↓aa,reduceCtorEq,ZA,ZB,ZC,ZD,ZE,ZF,ZG,ZH,↓reduceIte,Dw,q0,q1,q5,hil,hil',na,ha9,a1,a2,a3,↓hra,↓hrb,e1,WW];exact hk _ (by simp only[go_sem,↓aa,reduceCtorEq,ZA,ZB,ZC,ZD,ZE,ZF,ZG,ZH,↓reduceIte,q0,q1,hva,hvb,and_self])
    .have e1:(x.1=y.1/\x.2=y.2)=False:=by rw[uF];exact eq_false hxy
     refine YD ⟨(),G,⟨rfl,hne hxy⟩,λd kx r e z⟨q0,q1,q5⟩hk=>?_⟩;rw[hva]at q0;rw[hvb]at q1;rw[ak];simp only[go_sem,↓aa,reduceCtorEq,ZA,ZB,ZC,ZD,ZE,ZF,ZG,ZH,↓reduceIte,Dw,q0,q1,q5,hil,hil',na,ha9,a1,a2,a3,↓hra,↓hrb,e1,Wu];refine hk _ ?_;simp only[go_sem,reduceCtorEq,↓reduceIte]) a.length 0 () H (by omega) ⟨rfl,λj hj=>by omega⟩;rw[aJ T.k45 rfl rfl];simp only[go_sem,↓aa,reduceCtorEq,ZA,ZB,ZC,ZD,ZE,ZF,ZG,ZH,↓reduceIte,c45,↓sa,↓sb,ha9,hb9,hl];rcases run with⟨_,G',⟨rfl,hno⟩,z⟩|⟨_,G',⟨rfl,hne⟩,z⟩
  .have heq:=List.ext_getElem hl λi h1 h2=>by have:=hno i h1;rwa[YF,YF,YA h1,YA h2]at this
   rw[decide_eq_true heq];refine z d _ fuel _ _ (by omega) ⟨?_,?_,?_⟩ λr e'⟨q0,q1,q5⟩=>?_;.rfl
   .rfl
   .rfl
   have e6:¬a.length<a.length:=by omega
   rw[ak];simp only[go_sem,↓aa,reduceCtorEq,ZA,ZB,ZC,ZD,ZE,ZF,ZG,ZH,↓reduceIte,Dw,q0,q1,q5,↓sa,ha9,na,e6]
  .rw[decide_eq_false hne];refine z d _ fuel _ _ (by omega) ⟨?_,?_,?_⟩ λe' q4=>?_;.rfl
   .rfl
   .rfl
   simp only[go_sem,↓aa,reduceCtorEq,ZA,ZB,ZC,ZD,ZE,ZF,ZG,ZH,↓reduceIte,q4]
 .have hne:¬a=b:=λe=>hl (by rw[e]);rw[decide_eq_false hne,aJ T.k45 rfl rfl];simp only[go_sem,↓aa,reduceCtorEq,ZA,ZB,ZC,ZD,ZE,ZF,ZG,ZH,↓reduceIte,c45,↓sa,↓sb,ha9,hb9,hl,not_false_eq_true]
end
end Go.Ev
end
section
namespace Go.Ev
structure gv(A:AD)(m:MT)(c:CH):Prop where
 live:m.live.map (cN A)=c.live
 len:m.ae.length=c.ae.length
 sn:∀(i:Nat)(s:Sn)(s':Cn),m.ae[i]?=some s->c.ae[i]?=some s'->s.g=s'.g/\s.hid=s'.hid/\s.bR.map (cN A)=s'.iW
theorem EK{g}:∀{a}{b},a.length=b.length->(∀(i:Nat)(s)(s'),a[i]?=some s->b[i]?=some s'->s.g=s'.g)->qS a g=cidx b g|[],[],_,_=>rfl|[],_::_,h,_=>by simp_all|_::_,[],h,_=>by simp_all|x::a,y::b,h,hs=>by have h0:=hs 0 x y rfl rfl;have ih:=EK (g:=g) (by simpa using h) λi s s' h1 h2=>hs (i+1) s s' (by simp_all) (by simp_all);unfold qS cidx at ih⊢;rw[YP4,YP4,h0,ih]
def VT(A:AD)(m:MT)(g:Gd):List Tx:=if(cU m g).2=0then(m.ae.getD (cU m g).1 ⟨(0,0),[],false⟩).bR.map (cN A)else[]
def VS(c:CH)(g:Gd):List Tx:=if(og c g).2=0then(c.ae.getD (og c g).1 ⟨[],(0,0),false⟩).iW else[]
theorem gv.find{A:AD}{m:MT}{c:CH}(h:gv A m c)(g:Gd):cU m g=og c g:=by
 have hi:=EK (g:=g) h.len λi s s' h1 h2=>(h.sn i s s' h1 h2).1;unfold cU og;rw[hi];rcases hx:cidx c.ae g with _|i;.rfl
 .obtain⟨hlt,-⟩:=vq hx;have hlt':i<m.ae.length:=by rw[h.len];exact hlt
  have:=(h.sn i _ _ (YA hlt') (YA hlt)).2.1;simp only[YF,YA hlt,YA hlt',YU,this]
theorem gv.read{A:AD}{m:MT}{c:CH}(h:gv A m c)(g:Gd):VT A m g=VS c g:=by
 unfold VT VS;rw[h.find g];by_cases h0:(og c g).2=0
 .rw[if_pos h0,if_pos h0];obtain⟨i,hi,hr,-⟩:=wv h0;have hlt':i<m.ae.length:=by rw[h.len];exact hi
  rw[hr];simp only[YF,YA hi,YA hlt',YU];exact(h.sn i _ _ (YA hlt') (YA hi)).2.2
 .rw[if_neg h0,if_neg h0]
theorem zT8:zT 8=YZ 8 (32,0):=by rfl
theorem gv.prev{A:AD}{m:MT}{c:CH}(h:gv A m c)(h8:m.live.length=8)(hs:c.size=8){i:Nat}(hi:i<m.ae.length):(mq m i).map (cN A)=jn c i:=by
 unfold mq jn;by_cases h0:i=0;.rw[if_pos h0,if_pos h0,h8,hs,zT8,We];rfl
 .rw[if_neg h0,if_neg h0];have h1:i-1<m.ae.length:=by omega
  have h2:i-1<c.ae.length:=by rw[<-h.len];exact h1
  simp only[YF,YA h1,YA h2,YU];exact(h.sn (i-1) _ _ (YA h1) (YA h2)).2.2
theorem eqW{id}{w w':Wr}{f}:gj id [1,2] [.int 3 w.1,.str w.2.1 w.2.2] [.int 3 w'.1,.str w'.2.1 w'.2.2] f=f (decide (w=w')):=by
 rw[bX,Eh,cC];obtain⟨a,b,c⟩:=w;obtain⟨a',b',c'⟩:=w';by_cases h1:a=a'
 .by_cases h2:b=b'/\c=c';.simp_all
  .rw[if_pos h1,if_neg h2];congr 1;simp_all
 simp_all
section
variable{cp:RC->au}{t:Nat->Option df}{fuel:Nat}{H:Heap}
theorem Dg(T:aB t){O Q:Nat->Prop}{va vb v0 v1 v7 v10 v11:V}{p q:List Wr}(hP:Row H O va 2 p.length (bS p))(hQ:Row H Q vb 2 q.length (bS q))(hl:p.length=q.length)(hp:p.length<1000)(hfu:1000<fuel)(d:Nat)(kx:Nat->KE)(e:Env)(x:R)(q0:af s000 e=v0)(q1:af s001 e=v1)(q7:af s007 e=v7)(q10:af s010 e=v10)(q11:af s011 e=v11)(q16:af s016 e=va)(q20:af s020 e=vb)(q22:af s022 e=.int 3 0)(h1:p=q->∀e',af s000 e'=v0->af s001 e'=v1->af s007 e'=v7->af s010 e'=v10->af s011 e'=v11->kx 3 e' H=x)(h2:p≠q->∀e',af s004 e'=.bool false->kx 0 e' H=x):ko zE fuel (aU cp t fuel d) kx fuel e H=x:=by
 have sa:=λ{id}{f}=>hP.sn (id:=id) (f:=f);have na:nn p.length:=by unfold nn;omega
 have ha9:p.length<9223372036854775808:=by omega
 have run:=jM (c:=zE) (fuel:=fuel) (ph:=λd=>aU cp t fuel d) (τ:=Unit) (n:=p.length) (I:=λi _ G=>G=H/\∀j,j<i->p[j]?=q[j]?) (S:=λi _ e=>af s000 e=v0/\af s001 e=v1/\af s007 e=v7/\af s010 e=v10/\af s011 e=v11/\af s016 e=va/\af s020 e=vb/\af s022 e=.int 3 i) (J:=λ_ G=>G=H/\p≠q) (Q:=λ_ e=>af s004 e=.bool false) (j:=λ_=>0) (λi _ G hil⟨hG,hno⟩=>by
   subst hG;have hil':i<q.length:=by omega
   have hsp:=YA hil;have hsq:=YA hil';obtain⟨ba,oa,ca,za,hva,-,-,hra⟩:=hP.open hil;obtain⟨bb,ob,cb,zb,hvb,-,-,hrb⟩:=hQ.open hil';have hra:=λ{id}{k}=>(hra rfl).1 (id:=id) (k:=k);have hrb:=λ{id}{k}=>(hrb rfl).1 (id:=id) (k:=k);rw[lq hsp]at hra;rw[lq hsq]at hrb;have hne:p[i]≠q[i]->p≠q:=λh e=>h (by subst e;rfl);have hpq:p[i]=q[i]->p[i]?=q[i]?:=λh=>by rw[hsp,hsq,h]
   generalize p[i]=y at hra hne hpq;generalize q[i]=z at hrb hne hpq;have a1:nn i:=by unfold nn;omega
   have a2:i<9223372036854775808:=by omega
   have a3:(i+1)%18446744073709551616=i+1:=by omega
   by_cases hyz:y=z
   .have e1:∀{id}{f},gj id [1,2] [.int 3 y.1,.str y.2.1 y.2.2] [.int 3 z.1,.str z.2.1 z.2.2] f=f true:=λ{id f}=>by rw[eqW,decide_eq_true hyz]
    refine YH ⟨(),G,⟨rfl,λj hj=>?_⟩,λd kx r e w⟨q0,q1,q7,q10,q11,q16,q20,q22⟩hk=>?_⟩
    .by_cases hji:j<i;.exact hno j hji
     .obtain rfl:j=i:=by omega
      exact hpq hyz
    rw[hva]at q16;rw[hvb]at q20;rw[ak];simp only[go_sem,↓aa,reduceCtorEq,ZA,ZB,ZC,ZD,ZE,ZF,ZG,ZH,↓reduceIte,zE,q0,q1,q7,q10,q11,q16,q20,q22,hil,hil',na,ha9,a1,a2,a3,↓hra,↓hrb,↓bC,↓e1,WW];exact hk _ (by simp only[go_sem,↓aa,reduceCtorEq,ZA,ZB,ZC,ZD,ZE,ZF,ZG,ZH,↓reduceIte,q0,q1,q7,q10,q11,q16,q20,hva,hvb,and_self])
   .have e1:∀{id}{f},gj id [1,2] [.int 3 y.1,.str y.2.1 y.2.2] [.int 3 z.1,.str z.2.1 z.2.2] f=f false:=λ{id f}=>by rw[eqW,decide_eq_false hyz]
    refine YD ⟨(),G,⟨rfl,hne hyz⟩,λd kx r e w⟨q0,q1,q7,q10,q11,q16,q20,q22⟩hk=>?_⟩;rw[hva]at q16;rw[hvb]at q20;rw[ak];simp only[go_sem,↓aa,reduceCtorEq,ZA,ZB,ZC,ZD,ZE,ZF,ZG,ZH,↓reduceIte,zE,q0,q1,q7,q10,q11,q16,q20,q22,hil,hil',na,ha9,a1,a2,a3,↓hra,↓hrb,↓bC,↓e1,Wu,YT];refine hk _ ?_;simp only[go_sem,reduceCtorEq,↓reduceIte]) p.length 0 () H (by omega) ⟨rfl,λj hj=>by omega⟩;rcases run with⟨_,G',⟨rfl,hno⟩,z⟩|⟨_,G',⟨rfl,hne⟩,z⟩
 .have heq:=Ql λi=>by
   by_cases hi:i<p.length;.exact hno i hi
   .rw[WM (by omega),WM (by omega)]
  refine z d kx fuel e x (by omega) ⟨q0,q1,q7,q10,q11,q16,q20,q22⟩ λr e'⟨q0,q1,q7,q10,q11,q16,q20,q22⟩=>?_;have e6:¬p.length<p.length:=by omega
  rw[ak];simp only[go_sem,↓aa,reduceCtorEq,ZA,ZB,ZC,ZD,ZE,ZF,ZG,ZH,↓reduceIte,zE,q0,q16,q22,↓sa,ha9,na,e6];exact h1 heq _ q0 q1 q7 q10 q11
 .exact z d kx fuel e x (by omega) ⟨q0,q1,q7,q10,q11,q16,q20,q22⟩ λe' q4=>h2 hne e' q4
end
end Go.Ev
end
section
namespace Go.Ev
theorem Row.nil{H:Heap}{O:Nat->Prop}{sz:Nat}:Row H O .aD sz 0 []:=⟨by simp,λx hx=>(by cases hx),YH ⟨YH rfl,rfl⟩⟩
theorem rX:∀{l}{i}{g},l[i]?=some g->((jh l).drop (i*2)).take 2=aY g|[],i,g,h=>by simp_all|a::l,0,g,h=>by simp at h;subst h;rfl|a::l,i+1,g,h=>by have:=rX (by simpa using h);rw[show(i+1)*2=i*2+2by omega];exact this
structure OK(H0 H:Heap)(dp vp a n:Nat)(A:AD)(O:Nat->Prop)(m:MT)(vl vs vi:V)(p:Nat)(c:CH)(v:V):Prop where
 st:Step H0 (bz O vp) H (bz O vp)vp:VP H dp vp a n A O m vl vs vi
 ch:ig H p c v
section
variable{H0 H G:Heap}{dp vp a n p:Nat}{A:AD}{O:Nat->Prop}{m:MT}{vl vs vi v:V}{c:CH}
theorem OK.fresh(h:OK H0 H dp vp a n A O m vl vs vi p c v)(f:ah H G):OK H0 G dp vp a n A O m vl vs vi p c v:=⟨h.st.trans f.step,h.vp.fresh f,h.ch.fresh f⟩
theorem OK.step(h:OK H0 H dp vp a n A O m vl vs vi p c v)(hd:∀b,CQ p v b->¬bz O vp b)(s:Step H (bz O vp) G (bz O vp))(S:VP G dp vp a n A O m vl vs vi):OK H0 G dp vp a n A O m vl vs vi p c v:=⟨h.st.trans s,S,(h.ch.cz s hd).1⟩
end
section
variable{cp:RC->au}{t:Nat->Option df}{fuel:Nat}{H:Heap}
set_option maxRecDepth 4000in theorem Uw(T:aB t)(hc:aP t){dp vp a n p:Nat}{A:AD}{O:Nat->Prop}{m:MT}{vl vs vi v:V}{c:CH}(S:VP H dp vp a n A O m vl vs vi)(C:ig H p c v)(hd:∀b,CQ p v b->¬bz O vp b)(h8:m.live.length=8)(hs:c.size=8)(hll:∀q∈m.live,q<A.len)(hlp:∀s∈m.ae,∀q∈s.bR,q<A.len)(hil:∀s∈m.ae,s.bR.length=m.live.length)(hfu:1000<fuel):∃H' b,(∀(d:Nat)(k:K),aj (aU cp t fuel (d+6)) (.func 24 []) [.ptr vp 0,.ptr p 0] H k=k (.bool b) H')/\OK H H' dp vp a n A O m vl vs vi p c v/\(gv A m c->b=true):=by
 have hn0:=S.ok.num;have hcn:=C.ok.n;have hc8:∀l:List Tx,l.length=8->l.take c.size=l:=λl hl=>by rw[hs,Yh (by omega)]
 obtain⟨G1,x1,z1o,s1,S1,o1⟩:=Nj (cp:=cp) T hc S hll hfu;have z1:=λ{d:Nat}{k:K}=>z1o d k;clear z1o;have V1:OK H G1 dp vp a n A O m vl vs vi p c v:=(OK.mk (Step.refl S.cS.wf) S C).step hd s1 S1;obtain⟨G2,y2,z2o,f2,o2⟩:=HG (cp:=cp) (fuel:=fuel) T V1.ch;have z2:=λ{d:Nat}{k:K}=>z2o (d+2) k;clear z2o;have V2:=V1.fresh f2;rw[hc8 _ C.ok.l8]at o2;have hX1:zC G2 (bz O vp) x1 (m.live.map (cN A)):=by have:=(o1.toRow (O:=bz O vp) S.lt).fresh f2;unfold zC;rw[Yi,List.map_map];exact this
 have hY2:zC G2 (bz O vp) y2 c.live:=by have:=o2.toRow (O:=bz O vp) S1.lt;unfold zC;rw[C.ok.l8];rw[hs]at this;exact this
 have z3:=λ{d:Nat}{k:K}=>yg (cp:=cp) (fuel:=fuel) T V2.vp.cS.wf hX1 hY2 (by rw[Yi];omega) (by rw[C.ok.l8];omega) hfu d k;have z3:=λ{d:Nat}{k:K}=>z3 (d:=d+4) (k:=k);have nl:nn m.ae.length:=by unfold nn;omega
 have n9:m.ae.length<9223372036854775808:=by omega
 have c9:c.ae.length<9223372036854775808:=by omega
 by_cases hlv:m.live.map (cN A)=c.live;rotate_left;.rw[decide_eq_false hlv]at z3;refine⟨G2,false,λd k=>?_,V2,λh=>absurd h.live hlv⟩;rw[aJ T.k12 rfl rfl];simp only[go_sem,↓aa,reduceCtorEq,ZA,ZB,ZC,ZD,ZE,ZF,ZG,ZH,↓reduceIte,↓aE,c12,Dl,Dm,↓z1,↓z2,↓z3]
 rw[decide_eq_true hlv]at z3;obtain⟨G3,vL,z4o,f3,o3⟩:=yq (cp:=cp) (fuel:=fuel) T V2.vp hfu;have z4:=λ{d:Nat}{k:K}=>z4o (d+4) k;clear z4o;have V3:=V2.fresh f3;obtain⟨G4,vM,z5o,f4,o4⟩:=DM (cp:=cp) (fuel:=fuel) T V3.ch hfu;have z5:=λ{d:Nat}{k:K}=>z5o (d+3) k;clear z5o;have V4:=V3.fresh f4;have hL4:Row G4 (bz O vp) vL 2 m.ae.length (jh (m.ae.map (·.g))):=(o3.toRow (O:=bz O vp) V2.vp.lt).fresh f4;have hM4:Row G4 (bz O vp) vM 2 c.ae.length (jh (c.ae.map (·.g))):=o4.toRow (O:=bz O vp) V3.vp.lt;have sL:=λ{id:Nat}{f:Nat->R}=>hL4.sn (id:=id) (f:=f);have sM:=λ{id:Nat}{f:Nat->R}=>hM4.sn (id:=id) (f:=f);by_cases hlen:m.ae.length=c.ae.length;rotate_left;.refine⟨G4,false,λd k=>?_,V4,λh=>absurd h.len hlen⟩;rw[aJ T.k12 rfl rfl];simp only[go_sem,↓aa,reduceCtorEq,ZA,ZB,ZC,ZD,ZE,ZF,ZG,ZH,↓reduceIte,↓aE,c12,Dl,Dm,↓z1,↓z2,↓z3];simp only[go_sem,↓aa,reduceCtorEq,ZA,ZB,ZC,ZD,ZE,ZF,ZG,ZH,↓reduceIte,↓aE,JY,JZ,↓z4,↓z5,↓sL,↓sM,n9,c9,hlen,not_false_eq_true]
 have run:=jM (c:=rO) (fuel:=fuel) (ph:=λd=>aU cp t fuel (d+5)) (σ:=Unit) (τ:=Unit) (n:=m.ae.length) (I:=λi _ G=>OK H G dp vp a n A O m vl vs vi p c v/\Row G (bz O vp) vL 2 m.ae.length (jh (m.ae.map (·.g)))/\Row G (bz O vp) vM 2 c.ae.length (jh (c.ae.map (·.g)))) (S:=λi _ e=>af s000 e=.ptr vp 0/\af s001 e=.ptr p 0/\af s007 e=vL/\af s010 e=vM/\af s011 e=.int 3 i) (J:=λ_ G=>OK H G dp vp a n A O m vl vs vi p c v/\¬gv A m c) (Q:=λ_ e=>af s004 e=.bool false) (j:=λ_=>0) (λi _ G hlt⟨Vc,hL,hM⟩=>by
   have hlt':i<c.ae.length:=by omega
   have hsi:m.ae[i]?=some m.ae[i]:=YA hlt;have hci:c.ae[i]?=some c.ae[i]:=YA hlt';have hgi:(m.ae.map (·.g))[i]?=some m.ae[i].g:=by rw[Ys,hsi];rfl
   have hgi':(c.ae.map (·.g))[i]?=some c.ae[i].g:=by rw[Ys,hci];rfl
   have hdis:gv A m c->m.ae[i].g=c.ae[i].g/\m.ae[i].bR.map (cN A)=c.ae[i].iW:=λh=>⟨(h.sn i _ _ hsi hci).1,(h.sn i _ _ hsi hci).2.2⟩;have hmi:=hil _ (YQ hlt);have hcv:=C.ok.v8 _ (YQ hlt');have a1:nn i:=by unfold nn;omega
   have a2:i<9223372036854775808:=by omega
   have a3:(i+1)%18446744073709551616=i+1:=by omega
   obtain⟨bL,oL,cL,zL,hvL,hbL,hnL,hrL⟩:=hL.open hlt;obtain⟨bM,oM,cM,zM,hvM,hbM,hnM,hrM⟩:=hM.open hlt';rw[rX hgi]at hrL;rw[rX hgi']at hrM;have hrL0:=λ{id:Nat}{k:List V->R}=>(hrL (G:=G) rfl).1 (id:=id) (k:=k);obtain⟨H1,x,y1o,t1,U1,hx0,hx1⟩:=JK (cp:=cp) (fuel:=fuel) (g:=m.ae[i].g) T hc Vc.vp hlp hfu;have y1:=λ{d:Nat}{k:K}=>y1o d k;clear y1o;have W1:=Vc.step hd t1 U1;have hX1:zC H1 (bz O vp) x (VT A m m.ae[i].g):=by
    unfold VT;by_cases h0:(cU m m.ae[i].g).2=0;.obtain⟨j,hj,hr,-⟩:=kz h0;have hjj:m.ae[j]?=some m.ae[j]:=YA hj;have:=(hx1 j _ hr hjj).toRow (O:=bz O vp) Vc.vp.lt;rw[if_pos h0,hr];simp only[YF,hjj,YU];unfold zC;rw[Yi,List.map_map];exact this
    .rw[if_neg h0,hx0 h0];exact Row.nil
   have hrM1:=λ{id:Nat}{k:List V->R}=>(hrM (t1.same _ hbM hnM).1).1 (id:=id) (k:=k);obtain⟨H2,y,y2o,t2,hy0,hy1⟩:=HK (cp:=cp) (fuel:=fuel) (g:=c.ae[i].g) T W1.ch hfu;have y2':=λ{d:Nat}{k:K}=>y2o (d+1) k;clear y2o;have W2:=W1.fresh t2;have hY2':zC H2 (bz O vp) y (VS c c.ae[i].g):=by
    unfold VS;by_cases h0:(og c c.ae[i].g).2=0;.obtain⟨j,hj,hr,-⟩:=wv h0;have hjj:c.ae[j]?=some c.ae[j]:=YA hj;have:=(hy1 j _ hr hjj).toRow (O:=bz O vp) W1.vp.lt;have hj8:=C.ok.v8 _ (YQ hj);rw[hc8 _ hj8]at this;rw[if_pos h0,hr];simp only[YF,hjj,YU];unfold zC;rw[hj8,<-hs];exact this
    .rw[if_neg h0,hy0 h0];exact Row.nil
   obtain⟨H3,x3,y3o,t3,U3,-,hx3⟩:=zA (cp:=cp) (fuel:=fuel) (i:=i) T hc W2.vp a1 hlp hil hfu;have y3:=λ{d:Nat}{k:K}=>y3o d k;clear y3o;have W3:=W2.step hd t3 U3;obtain⟨H4,x4,y4o,t4,-,hx4⟩:=yG (cp:=cp) (fuel:=fuel) (i:=i) T W3.ch a1 hfu;have y4:=λ{d:Nat}{k:K}=>y4o (d+3) k;clear y4o;have W4:=W3.fresh t4;rw[if_pos hlt]at y3;rw[if_pos hlt']at y4;have t23:Step H2 (bz O vp) H4 (bz O vp):=t3.trans t4.step;have t14:Step H1 (bz O vp) H4 (bz O vp):=t2.step.trans t23;have t04:Step G (bz O vp) H4 (bz O vp):=t1.trans t14;have hXr:zC H4 (bz O vp) x (VT A m m.ae[i].g):=hX1.cz t14;have hYr:zC H4 (bz O vp) y (VS c c.ae[i].g):=hY2'.cz t23;have hP:Row H4 (bz O vp) x3 2 _ _:=((hx3 _ hsi).toRow (O:=bz O vp) W2.vp.lt).fresh t4;have hQ:Row H4 (bz O vp) x4 2 _ _:=(hx4 _ hci).toRow (O:=bz O vp) W3.vp.lt;have hrL4:=λ{id:Nat}{k:List V->R}=>(hrL (t04.same _ hbL hnL).1).1 (id:=id) (k:=k);have hrM4:=λ{id:Nat}{k:List V->R}=>(hrM (t04.same _ hbM hnM).1).1 (id:=id) (k:=k);have sP:=λ{id:Nat}{f:Nat->R}=>hP.sn (id:=id) (f:=f);have sQ:=λ{id:Nat}{f:Nat->R}=>hQ.sn (id:=id) (f:=f);have hagP:gv A m c->CM ((mq m i).map (cN A)) (m.ae[i].bR.map (cN A))=CM (jn c i) c.ae[i].iW:=λh=>by rw[h.prev h8 hs hlt,(hdis h).2]
   have hlP:=l4 ((mq m i).map (cN A)) (m.ae[i].bR.map (cN A)) (m.ae[i].bR.map (cN A)).length;have hlQ:=l4 (jn c i) c.ae[i].iW c.ae[i].iW.length;rw[Yi]at hlP;have hlP':(CM ((mq m i).map (cN A)) (m.ae[i].bR.map (cN A))).length<=m.ae[i].bR.length:=by unfold CM;rw[Yi];exact hlP
   have hlQ':(CM (jn c i) c.ae[i].iW).length<=c.ae[i].iW.length:=hlQ;generalize CM ((mq m i).map (cN A)) (m.ae[i].bR.map (cN A))=P at hP sP hagP hlP';generalize CM (jn c i) c.ae[i].iW=Q at hQ sQ hagP hlQ';have hrdl:(VT A m m.ae[i].g).length<1000:=by
    unfold VT;split;.rename_i h0;obtain⟨j,hj,hr,-⟩:=kz h0;rw[hr];simp only[YF,YA hj,YU];rw[Yi,hil _ (YQ hj)];omega
    .simp
   have hrdl':(VS c c.ae[i].g).length<1000:=by
    unfold VS;split;.rename_i h0;obtain⟨j,hj,hr,-⟩:=wv h0;rw[hr];simp only[YF,YA hj,YU];rw[C.ok.v8 _ (YQ hj)];omega
    .simp
   have y5:=λ{d:Nat}{k:K}=>yg (cp:=cp) (fuel:=fuel) T W4.vp.cS.wf hXr hYr hrdl hrdl' hfu (d+4) k;have hfind:gv A m c->(cU m m.ae[i].g).2=(og c c.ae[i].g).2:=λh=>by rw[h.find,(hdis h).1]
   have hread:gv A m c->VT A m m.ae[i].g=VS c c.ae[i].g:=λh=>by rw[h.read,(hdis h).1]
   have hPl:P.length<9223372036854775808:=by omega
   have hQl:Q.length<9223372036854775808:=by omega
   have hgg:=λh=>(hdis h).1;have fa:=(En (g:=m.ae[i].g) hn0).2;have fb:=(aag (g:=c.ae[i].g) hcn).2;generalize(cU m m.ae[i].g).2=ea at y1 hfind fa;generalize(og c c.ae[i].g).2=eb at y2' hfind fb;generalize VT A m m.ae[i].g=ta at y5 hread;generalize VS c c.ae[i].g=tb at y5 hread;generalize m.ae[i].g=ga at hrL0 hrL4 y1 hgg;generalize c.ae[i].g=gb at hrM1 hrM4 y2' hgg;simp only[aY]at hrL0 hrL4 y1 hrM1 hrM4 y2';by_cases d1:ga=gb;rotate_left;.have e1:∀{id:Nat}{f:Bool->R},gj id [1,1] [.int 7 ga.1,.int 7 ga.2] [.int 7 gb.1,.int 7 gb.2] f=f false:=λ{id f}=>UU d1;refine YD ⟨(),H4,⟨W4,λh=>d1 (hgg h)⟩,λd kx r e w⟨q0,q1,q7,q10,q11⟩hk=>?_⟩;rw[hvL]at q7;rw[hvM]at q10;rw[ak];simp only[go_sem,↓aa,reduceCtorEq,ZA,ZB,ZC,ZD,ZE,ZF,ZG,ZH,↓reduceIte,↓aE,rO,q0,q1,q7,q10,q11,↓sL,n9,nl,a1,a2,hlt,hlt',↓hrL0,↓y1,↓hrM1,↓y2',↓y3,↓y4,↓hrL4,↓hrM4,↓bC,↓e1,Wu,YT];refine hk _ ?_;show af _ _=_;simp only[go_sem,reduceCtorEq,↓reduceIte]
   have e1:∀{id:Nat}{f:Bool->R},gj id [1,1] [.int 7 ga.1,.int 7 ga.2] [.int 7 gb.1,.int 7 gb.2] f=f true:=λ{id f}=>MK d1;by_cases d2:ea=eb;rotate_left;.refine YD ⟨(),H4,⟨W4,λh=>d2 (hfind h)⟩,λd kx r e w⟨q0,q1,q7,q10,q11⟩hk=>?_⟩;rw[hvL]at q7;rw[hvM]at q10;rw[ak];simp only[go_sem,↓aa,reduceCtorEq,ZA,ZB,ZC,ZD,ZE,ZF,ZG,ZH,↓reduceIte,↓aE,rO,q0,q1,q7,q10,q11,↓sL,n9,nl,a1,a2,hlt,hlt',↓hrL0,↓y1,↓hrM1,↓y2',↓y3,↓y4,↓hrL4,↓hrM4,↓bC,↓e1,WW,d2,not_false_eq_true];refine hk _ ?_;show af _ _=_;simp only[go_sem,reduceCtorEq,↓reduceIte]
   subst d2;by_cases d3:ta=tb;rotate_left;.rw[decide_eq_false d3]at y5;refine YD ⟨(),H4,⟨W4,λh=>d3 (hread h)⟩,λd kx r e w⟨q0,q1,q7,q10,q11⟩hk=>?_⟩;rw[hvL]at q7;rw[hvM]at q10;rw[ak];simp only[go_sem,↓aa,reduceCtorEq,ZA,ZB,ZC,ZD,ZE,ZF,ZG,ZH,↓reduceIte,↓aE,rO,q0,q1,q7,q10,q11,↓sL,n9,nl,a1,a2,hlt,hlt',↓hrL0,↓y1,↓hrM1,↓y2',↓y3,↓y4,↓hrL4,↓hrM4,↓bC,↓e1,WW,↓y5];refine hk _ ?_;show af _ _=_;simp only[go_sem,reduceCtorEq,↓reduceIte]
   rw[decide_eq_true d3]at y5;by_cases d4:P.length=Q.length;rotate_left;.refine YD ⟨(),H4,⟨W4,λh=>d4 (by rw[hagP h])⟩,λd kx r e w⟨q0,q1,q7,q10,q11⟩hk=>?_⟩;rw[hvL]at q7;rw[hvM]at q10;rw[ak];simp only[go_sem,↓aa,reduceCtorEq,ZA,ZB,ZC,ZD,ZE,ZF,ZG,ZH,↓reduceIte,↓aE,rO,q0,q1,q7,q10,q11,↓sL,n9,nl,a1,a2,hlt,hlt',↓hrL0,↓y1,↓hrM1,↓y2',↓y3,↓y4,↓hrL4,↓hrM4,↓bC,↓e1,WW,↓y5,↓sP,↓sQ,hPl,hQl,d4,not_false_eq_true];refine hk _ ?_;show af _ _=_;simp only[go_sem,reduceCtorEq,↓reduceIte]
   by_cases d5:P=Q
   .refine YH ⟨(),H4,⟨W4,hL.cz t04,hM.cz t04⟩,λd kx r e w⟨q0,q1,q7,q10,q11⟩hk=>?_⟩;rw[hvL]at q7;rw[hvM]at q10;rw[ak];simp only[go_sem,↓aa,reduceCtorEq,ZA,ZB,ZC,ZD,ZE,ZF,ZG,ZH,↓reduceIte,↓aE,rO,q0,q1,q7,q10,q11,↓sL,n9,nl,a1,a2,a3,hlt,hlt',↓hrL0,↓y1,↓hrM1,↓y2',↓y3,↓y4,↓hrL4,↓hrM4,↓bC,↓e1,WW,↓y5,↓sP,↓sQ,hPl,hQl,d4];refine Dg (va:=x3) (vb:=x4) (v0:=.ptr vp 0) (v1:=.ptr p 0) (v7:=vL) (v10:=vM) (v11:=.int 3 i) T hP hQ d4 (by omega) hfu (d+5) _ _ _ ?_ ?_ ?_ ?_ ?_ ?_ ?_ ?_ (λ_ e' q0 q1 q7 q10 q11=>?_) (λh=>absurd d5 h);.exact q0
    .exact q1
    .simp only[go_sem,↓aa,reduceCtorEq,ZA,ZB,ZC,ZD,ZE,ZF,ZG,ZH,↓reduceIte,q7,hvL]
    .simp only[go_sem,↓aa,reduceCtorEq,ZA,ZB,ZC,ZD,ZE,ZF,ZG,ZH,↓reduceIte,q10,hvM]
    .exact q11
    .rfl
    .rfl
    .rfl
    simp only[go_sem,↓aa,reduceCtorEq,ZA,ZB,ZC,ZD,ZE,ZF,ZG,ZH,↓reduceIte,q0,q1,q7,q10,q11,a1,a2,a3];exact hk _ (by simp only[go_sem,↓aa,reduceCtorEq,ZA,ZB,ZC,ZD,ZE,ZF,ZG,ZH,↓reduceIte,q0,q1,q7,q10,and_self])
   .refine YD ⟨(),H4,⟨W4,λh=>d5 (hagP h)⟩,λd kx r e w⟨q0,q1,q7,q10,q11⟩hk=>?_⟩;rw[hvL]at q7;rw[hvM]at q10;rw[ak];simp only[go_sem,↓aa,reduceCtorEq,ZA,ZB,ZC,ZD,ZE,ZF,ZG,ZH,↓reduceIte,↓aE,rO,q0,q1,q7,q10,q11,↓sL,n9,nl,a1,a2,a3,hlt,hlt',↓hrL0,↓y1,↓hrM1,↓y2',↓y3,↓y4,↓hrL4,↓hrM4,↓bC,↓e1,WW,↓y5,↓sP,↓sQ,hPl,hQl,d4];refine Dg (va:=x3) (vb:=x4) (v0:=.ptr vp 0) (v1:=.ptr p 0) (v7:=vL) (v10:=vM) (v11:=.int 3 i) T hP hQ d4 (by omega) hfu (d+5) _ _ _ ?_ ?_ ?_ ?_ ?_ ?_ ?_ ?_ (λh=>absurd h d5) (λ_ e' q4=>?_);.exact q0
    .exact q1
    .simp only[go_sem,↓aa,reduceCtorEq,ZA,ZB,ZC,ZD,ZE,ZF,ZG,ZH,↓reduceIte,q7,hvL]
    .simp only[go_sem,↓aa,reduceCtorEq,ZA,ZB,ZC,ZD,ZE,ZF,ZG,ZH,↓reduceIte,q10,hvM]
    .exact q11
    .rfl
    .rfl
    .rfl
    simp only[go_sem,↓aa,reduceCtorEq,ZA,ZB,ZC,ZD,ZE,ZF,ZG,ZH,↓reduceIte];exact hk _ q4) m.ae.length 0 () G4 (by omega) ⟨V4,hL4,hM4⟩;rcases run with⟨_,G',⟨V',-,-⟩,z⟩|⟨_,G',⟨V',hna⟩,z⟩
 .refine⟨G',true,λd k=>?_,V',λ_=>rfl⟩;rw[aJ T.k12 rfl rfl];simp only[go_sem,↓aa,reduceCtorEq,ZA,ZB,ZC,ZD,ZE,ZF,ZG,ZH,↓reduceIte,↓aE,c12,Dl,Dm,↓z1,↓z2,↓z3];simp only[go_sem,↓aa,reduceCtorEq,ZA,ZB,ZC,ZD,ZE,ZF,ZG,ZH,↓reduceIte,↓aE,JY,JZ,↓z4,↓z5,↓sL,↓sM,n9,c9,hlen];simp only[go_sem,↓aa,reduceCtorEq,ZA,ZB,ZC,ZD,ZE,ZF,ZG,ZH,↓reduceIte,↓aE,Pv];refine z d _ fuel _ _ (by omega) ⟨?_,?_,?_,?_,?_⟩ λr e'⟨q0,q1,q7,q10,q11⟩=>?_;.rfl
  .rfl
  .rfl
  .rfl
  .rfl
  have e6:¬m.ae.length<m.ae.length:=by omega
  rw[ak];simp only[go_sem,↓aa,reduceCtorEq,ZA,ZB,ZC,ZD,ZE,ZF,ZG,ZH,↓reduceIte,↓aE,rO,q0,q1,q7,q10,q11,↓sL,n9,nl,e6,XF,XG]
 .refine⟨G',false,λd k=>?_,V',λh=>absurd h hna⟩;rw[aJ T.k12 rfl rfl];simp only[go_sem,↓aa,reduceCtorEq,ZA,ZB,ZC,ZD,ZE,ZF,ZG,ZH,↓reduceIte,↓aE,c12,Dl,Dm,↓z1,↓z2,↓z3];simp only[go_sem,↓aa,reduceCtorEq,ZA,ZB,ZC,ZD,ZE,ZF,ZG,ZH,↓reduceIte,↓aE,JY,JZ,↓z4,↓z5,↓sL,↓sM,n9,c9,hlen];simp only[go_sem,↓aa,reduceCtorEq,ZA,ZB,ZC,ZD,ZE,ZF,ZG,ZH,↓reduceIte,↓aE,Pv];refine z d _ fuel _ _ (by omega) ⟨?_,?_,?_,?_,?_⟩ λe' q4=>?_;.rfl
  .rfl
  .rfl
  .rfl
  .rfl
  simp only[go_sem,↓aa,reduceCtorEq,ZA,ZB,ZC,ZD,ZE,ZF,ZG,ZH,↓reduceIte,q4]
end
end Go.Ev
end
section
namespace Go.Ev
theorem Ez(cs):(cH cs).Nodup:=List.Pairwise.filter _ YJ4
theorem MV{cs}{i}(h:i∈cH cs):193<=i/\i<cs.length/\cs[i]?=some 0:=by unfold cH at h;rw[Wo,QV,decide_eq_true_eq]at h;exact⟨h.2.1,h.1,h.2.2⟩
theorem wZ{m}{n i}{cs}(h:i∈fW m n cs):193<=i/\i<n/\∀l∈db m,i∉l:=by obtain⟨h1,h2,h3⟩:=MV (WI h);unfold eF at h2 h3;rw[dB]at h2;rw[om h2,Option.some.injEq,YD2]at h3;refine⟨h1,h2,λl hl hi=>h3 ?_⟩;unfold nz;rw[Wo,List.mem_flatten];exact⟨⟨l,hl,hi⟩,by simp;omega⟩
theorem xa{m}{n}{cs}:(fW m n cs).Nodup:=(Ez _).sublist (YQ4 _ _)
theorem Ew{m}{n}{cs}(h:¬(cH (eF m n)).length<fm cs cs.length):(fW m n cs).length=fm cs cs.length:=by unfold fW;simp_all
theorem B8{cs}{fr}:∀{i j},j<i->(xM cs fr i)[j]?=some (if(cs.getD j (0,(32,0))).2=(32,0)then 0 else fr.getD (fm cs j) 0)
 |0,j,h=>by omega|i+1,j,h=>by
  simp only[xM];by_cases hj:j<i;.rw[Yp (by rw[mW];omega)];exact B8 hj
  .obtain rfl:j=i:=by omega
   rw[Yl (by rw[mW];omega),mW,QF];rfl
theorem KZ{cs}{fr}{w}:∀{i},w∈CO cs fr i->∃j,j<i/\(cs.getD j (0,(32,0))).2≠(32,0)/\w=(fr.getD (fm cs j) 0,(cs.getD j (0,(32,0))).2)
 |0,h=>by cases h|i+1,h=>by
  rcases Yo.1 h with h|h;.obtain⟨j,h1,h2⟩:=KZ h;exact⟨j,by omega,h2⟩
  .split at h;.cases h
   .rename_i hne;exact⟨i,by omega,hne,YL.1 h⟩
theorem SX{cs:List Wr}{fr}:∀{i j},j<i->(cs.getD j (0,(32,0))).2≠(32,0)->((fr.getD (fm cs j) 0,(cs.getD j (0,(32,0))).2):Wr)∈CO cs fr i
 |0,j,h,_=>by omega|i+1,j,h,hne=>by
  simp only[CO];by_cases hj:j<i;.exact QJ _ (SX hj hne)
  .obtain rfl:j=i:=by omega
   simp_all
theorem IM{cs:List Wr}{i j}(h:j<i)(hne:(cs.getD j (0,(32,0))).2≠(32,0)):fm cs j<fm cs i:=by
 have h1:fm cs (j+1)=fm cs j+1:=by simp only[fm,if_neg hne]
 have h2:=xF (cs:=cs) (i:=j+1) h;omega
theorem Fx{cs}{fr}:∀{i},fm cs i<=fr.length->(CO cs fr i).map (·.1)=fr.take (fm cs i)
 |0,_=>rfl|i+1,h=>by
  simp only[CO,fm]at h⊢;rw[WB,Fx (by omega)];by_cases hz:(cs.getD i (0,(32,0))).2=(32,0);.simp_all
  .rw[if_neg hz]at h;rw[if_neg hz,if_neg hz,Qn,YF,YA (show fm cs i<fr.length by omega)];rfl
structure eL(m:MT)(n:Nat)(cs:List Wr):Prop where
 room:¬(cH (eF m n)).length<fm cs cs.length
 ok:∀c∈cs,c.2.1=32/\sI c.2
theorem eL.fr{m:MT}{n:Nat}{cs:List Wr}(h:eL m n cs){j:Nat}(hj:j<cs.length)(hne:(cs.getD j (0,(32,0))).2≠(32,0)):∃q,(fW m n cs)[fm cs j]?=some q/\(fW m n cs).getD (fm cs j) 0=q/\q∈fW m n cs:=by
 have h1:=Ew h.room;have h2:=IM hj hne;have h3:fm cs j<(fW m n cs).length:=by omega
 exact⟨(fW m n cs)[fm cs j],YA h3,by rw[YF,YA h3];rfl,YQ h3⟩
def pW(m:MT)(n:Nat)(cs:List Wr):List Wr:=CO cs (fW m n cs) cs.length
def pA(m:MT)(n:Nat)(cs:List Wr):List Nat:=xM cs (fW m n cs) cs.length
theorem eL.w{m:MT}{n:Nat}{cs:List Wr}(h:eL m n cs){w:Wr}(hw:w∈pW m n cs):193<=w.1/\w.1<n/\w.2.1=32/\sI w.2/\∀l∈db m,w.1∉l:=by
 obtain⟨j,hj,hne,rfl⟩:=KZ hw;obtain⟨q,h1,h2,h3⟩:=h.fr hj hne;obtain⟨g1,g2,g3⟩:=wZ h3;have hc:cs.getD j (0,(32,0))∈cs:=by rw[YF,YA hj];exact YQ hj
 obtain⟨k1,k2⟩:=h.ok _ hc;rw[h2];exact⟨g1,g2,k1,k2,g3⟩
theorem eL.nodup{m:MT}{n:Nat}{cs:List Wr}(h:eL m n cs):((pW m n cs).map (·.1)).Nodup:=by unfold pW;rw[Fx (by rw[Ew h.room];exact YC _)];exact xa.sublist (YQ4 _ _)
theorem eL.len{m:MT}{n:Nat}{cs:List Wr}:(pW m n cs).length<=cs.length:=by unfold pW;rw[vH];exact lJ _ _
theorem eL.read{m:MT}{n:Nat}{cs:List Wr}(h:eL m n cs){A':AD}(hA:∀w∈pW m n cs,A'.read w.1=w.2){j:Nat}(hj:j<cs.length):∃q,(pA m n cs)[j]?=some q/\cN A' q=(cs.getD j (0,(32,0))).2/\(q=0\/193<=q/\q<n/\(q∈fW m n cs)/\(fW m n cs)[fm cs j]?=some q/\(cs.getD j (0,(32,0))).2≠(32,0)):=by
 unfold pA;rw[B8 hj];by_cases hz:(cs.getD j (0,(32,0))).2=(32,0);.rw[if_pos hz];exact⟨0,rfl,by rw[hz];rfl,YH rfl⟩
 .rw[if_neg hz];obtain⟨q,h1,h2,h3⟩:=h.fr hj hz;obtain⟨g1,g2,g3⟩:=wZ h3;have hin:=hA _ (SX (fr:=fW m n cs) hj hz);rw[h2]at hin⊢;refine⟨q,rfl,?_,YD ⟨g1,g2,h3,h1,hz⟩⟩;unfold cN;rw[if_neg (by omega)];exact hin
end Go.Ev
end
section
namespace Go.Ev
theorem qF.pl{t:Tk}{last:Gd}{b n:Nat}(h:qF t last b n):∀q∈t.bR,q=0\/193<=q/\q<n:=by
 unfold qF at h;split at h;.rw[h.2.2.2];exactλq hq=>by cases hq
 .exact h.2.2.2.2.2.pl
theorem fU.pl{m:MT}{b n:Nat}(h:fU m b n):∀l∈db m,∀q∈l,q=0\/193<=q/\q<n:=by
 intro l hl q hq;unfold db at hl;rcases YS.1 hl with rfl|hl;.exact h.live.pl q hq
 rcases YS.1 hl with rfl|hl;.exact h.tok.pl q hq
 .obtain⟨s,hs,rfl⟩:=Yk.1 hl;exact(h.ae.mem hs).pl q hq
structure kS where
 e0:Nat
 m1:MT
 bw:List Wr
structure ke(A:AD)(m:MT)(o:kS)(c':CH):Prop where
 ok:fU o.m1 8 A.len
 B3:jD o.m1
 l8:o.m1.live.length=8bw:∀w∈o.bw,193<=w.1/\w.1<A.len/\w.2.1=32/\sI w.2/\∀l∈db m,w.1∉l
 nd:(o.bw.map (·.1)).Nodup
 len:o.bw.length<=12s8:c'.size=8ag:∀A':AD,(∀w∈o.bw,A'.read w.1=w.2)->(∀l∈db m,∀q∈l,cN A' q=cN A q)->gv A' o.m1 c'
structure VI(pk:List UInt8->List (List UInt8))(A:AD)(a n:Nat)(us:List Wr)(m:MT)(c:CH):Prop where
 jd:JD pk A a n us
 lo:193<=A.len
 hi:A.len<=1024room:A.len<=A.room
 l8:m.live.length=8ok:fU m 8 A.len
 B3:jD m
 mH:OB A (pk (bq (nF m)))s8:c.size=8ag:gv A m c
structure Chg(pk:List UInt8->List (List UInt8))(A:AD)(m':MT)(bw:List Wr)(g:Nat->Option Tx):Prop where mH:∀i(h:i<(pk (bq (nF m'))).length),(g (145+i)).getD (32,0)=tx (pk (bq (nF m')))[i]wr:∀w∈bw,(g w.1).getD (32,0)=w.2other:∀q,193<=q->q∉bw.map (·.1)->(g q).getD (32,0)=A.read q
variable{pk:List UInt8->List (List UInt8)}{unpk:List (List UInt8)->Option (List UInt8)}
theorem LZ(F:bH pk unpk){nb}{A}{m'}{bw}(hlo:193<=A.len)(hi:A.len<=1024)(Y:fU m' nb A.len)(h8:m'.live.length=nb)(hbw:∀w∈bw,193<=w.1/\w.1<A.len/\w.2.1=32/\sI w.2)(hnd:(bw.map (·.1)).Nodup)(hbl:bw.length<=12):(oY m').2=0/\(Uc pk A m' bw).length<=60/\iq A.len [] (Uc pk A m' bw)=true/\(∀w∈Uc pk A m' bw,sI w.2)/\Chg pk A m' bw (find (laid A.es (Uc pk A m' bw))):=by
 have hY:=Y.mono hi;have henc:=by
  have:fU m' m'.live.length 1024:=by rw[h8];omega
  exact this.enc
 have htl:=Y.text hi;have hsz:=F.size (bq (nF m')) (by omega);have h32:=F.len (bq (nF m')) (by omega);unfold Uc;rw[henc];generalize hss:pk (bq (nF m'))=ss at hsz h32;have hl:=rS A ss ss.length;have hd:∀w∈iF A ss ss.length,145<=w.1/\w.1<193/\w.2.1=32/\sI w.2:=λw hw=>by obtain⟨j,hj,rfl⟩:=oz hw;have:(ss.getD j []).length=32:=h32 _ (by rw[YF,YA hj];exact YQ _);exact⟨by omega,by omega,this,iJ _⟩
 have hnd':((iF A ss ss.length++bw).map (·.1)).Nodup:=by rw[WB];refine QX.2 ⟨qL _,hnd,λx hx y hy=>?_⟩;obtain⟨w,hw,rfl⟩:=Yk.1 hx;obtain⟨v,hv,rfl⟩:=Yk.1 hy;have:=(hd w hw).2.1;have:=(hbw v hv).1;omega
 refine⟨rfl,by simp only[YB];omega,BQ (λw hw=>⟨?_,λh=>(by cases h)⟩) hnd',λw hw=>(Yo.1 hw).elim (λh=>(hd w h).2.2.2) λh=>(hbw w h).2.2.2,⟨λi h=>?_,λw hw=>?_,λq h1 h2=>?_⟩⟩
 .rcases Yo.1 hw with h|h;.obtain⟨a1,a2,a3,-⟩:=hd w h;exact⟨a1,by omega,a3⟩
  .obtain⟨a1,a2,a3,-⟩:=hbw w h;exact⟨by omega,a2,a3⟩
 .subst hss;rw[jl,dz (λhk=>by obtain⟨v,hv,e⟩:=Yk.1 hk;have:=(hbw v hv).1;omega)];have:=Mz (B:={A with es:=laid A.es (iF A (pk (bq (nF m'))) (pk (bq (nF m'))).length)}) (λk _=>rfl) h;rw[YF,YA h,YU]at this;exact this
 .rw[jl,eY hnd hw];rfl
 .rw[jl,dz h2,dz (λhk=>by obtain⟨v,hv,e⟩:=Yk.1 hk;have:=(hd v hv).2.1;omega)];rfl
theorem Chg.congr{A:AD}{m':MT}{bw:List Wr}{g g':Nat->Option Tx}(h:Chg pk A m' bw g)(e:∀k,145<=k->g' k=g k)(hb:∀w∈bw,193<=w.1):Chg pk A m' bw g':=⟨λi hi=>by rw[e _ (by omega)];exact h.mH i hi,λw hw=>by rw[e _ (by have:=hb w hw;omega)];exact h.wr w hw,λq h1 h2=>by rw[e _ (by omega)];exact h.other q h1 h2⟩
theorem ke.holds{A B:AD}{m:MT}{o:kS}{c c':CH}{a n a' n':Nat}{us us':List Wr}(I:VI pk A a n us m c)(G:ke A m o c')(J:JD pk B a' n' us')(hl:B.len=A.len)(hr:B.room=A.room)(h:Chg pk A o.m1 o.bw (find B.es)):VI pk B a' n' us' o.m1 c':=by
 refine⟨J,by rw[hl];exact I.lo,by rw[hl];exact I.hi,by rw[hl,hr];exact I.room,G.l8,by rw[hl];exact G.ok,G.B3,⟨λi hi=>h.mH i hi⟩,G.s8,G.ag B (λw hw=>h.wr w hw) λl hlm q hq=>?_⟩;unfold cN;rcases I.ok.pl l hlm q hq with rfl|⟨h1,h2⟩;.rw[if_pos rfl,if_pos rfl]
 .rw[if_neg (by omega),if_neg (by omega)];exact h.other q h1 λhk=>by obtain⟨w,hw,rfl⟩:=Yk.1 hk;exact(G.bw w hw).2.2.2.2 l hlm hq
theorem ke.done(F:bH pk unpk){A:AD}{m:MT}{o:kS}{c c':CH}{a n:Nat}{us:List Wr}(I:VI pk A a n us m c)(hf:A.bd=0)(G:ke A m o c'):(oh pk A a o.m1 o.bw).2=0/\(oh pk A a o.m1 o.bw).1.bd=0/\(oh pk A a o.m1 o.bw).1.len=A.len/\(oh pk A a o.m1 o.bw).1.room=A.room/\∃a' n' us',VI pk (oh pk A a o.m1 o.bw).1 a' n' us' o.m1 c':=by
 obtain⟨h1,h2,h3,h4,h5⟩:=LZ F I.lo I.hi G.ok G.l8 (λw hw=>let⟨a1,a2,a3,a4,_⟩:=G.bw w hw;⟨a1,a2,a3,a4⟩) G.nd G.len;have hR:oh pk A a o.m1 o.bw=A.eN pk a (Uc pk A o.m1 o.bw):=by unfold oh;rw[if_pos h1]
 rw[hR];have hcode:=I.jd.code F hf I.room h4;have hdid:=I.jd.eN F hf h4;have h0:(A.eN pk a (Uc pk A o.m1 o.bw)).2=0:=by
  rw[hcode];unfold Ev.code;split;.rfl
  .rw[if_neg (by omega),if_neg (by rw[h3];simp)]
 obtain⟨a',n',us',J'⟩:=hdid.jd;exact⟨h0,hdid.bd,hdid.len,hdid.room,a',n',us',G.holds I J' hdid.len hdid.room (h5.congr (λk hk=>(hdid.yes h0).1 k hk) λw hw=>(G.bw w hw).1)⟩
end Go.Ev
end
section
namespace Go.Ev
theorem SH{l}{x}:x∈nz l↔x∈l/\x≠0:=by unfold nz;simp
theorem jP:∀{l:List Nat},(nz l).Nodup↔∀(i j x:Nat),i<j->l[i]?=some x->l[j]?=some x->x=0
 |[]=>by simp[nz]|p::l=>by
  rw[KR];by_cases p0:p=0
  .rw[if_pos p0,jP];constructor;.intro h i j x hij hi hj;cases i with|zero=>simp_all|succ i=>cases j with|zero=>omega|succ j=>exact h i j x (by omega) (by simp_all) (by simpa using hj)
   .intro h i j x hij hi hj;exact h (i+1) (j+1) x (by omega) (by simp_all) (by simp_all)
  .rw[if_neg p0,List.nodup_cons,jP,SH];constructor;.rintro⟨h0,h⟩i j x hij hi hj;cases j with|zero=>omega|succ j=>cases i with|zero=>simp at hi hj;exact absurd ⟨Yj (by rw[hi];exact hj),p0⟩ h0|succ i=>exact h i j x (by omega) (by simp_all) (by simp_all)
   .intro h;refine⟨λhm=>?_,λi j x hij hi hj=>h (i+1) (j+1) x (by omega) (by simp_all) (by simpa using hj)⟩;obtain⟨j,hj⟩:=QG hm.1;exact p0 (h 0 (j+1) p (by omega) rfl (by simp_all))
theorem iY.snoc{b n:Nat}{s:Sn}:∀{ss:List Sn}{last:Gd},iY b n last ss->Iw s.g (uo last ss)->ir s.bR b n->iY b n last (ss++[s])|[],last,_,h1,h2=>⟨h1,h2,trivial⟩|a::ss,last,h,h1,h2=>⟨h.1,h.2.1,iY.snoc h.2.2 h1 h2⟩
theorem iY.take{b n:Nat}:∀{ss:List Sn}{last:Gd}(k:Nat),iY b n last ss->iY b n last (ss.take k)|ss,last,0,_=>by rw[List.take_zero];trivial|[],last,k+1,_=>by rw[List.take_nil];trivial|a::ss,last,k+1,h=>⟨h.1,h.2.1,iY.take k h.2.2⟩
theorem iY.hid{b n:Nat}{s:Sn}:∀{ss:List Sn}{last:Gd}{i:Nat},iY b n last ss->ss[i]?=some s->iY b n last (ss.set i {s with hid:=true})|[],last,i,h,hi=>by simp at hi|a::ss,last,0,h,hi=>by simp at hi;subst hi;exact⟨h.1,h.2.1,h.2.2⟩|a::ss,last,i+1,h,hi=>⟨h.1,h.2.1,iY.hid h.2.2 (by simpa using hi)⟩
theorem xq{s}:∀{ss}{last},uo last (ss++[s])=s.g|[],last=>rfl|a::ss,last=>xq (last:=a.g)
theorem pU(m):(cW m).g=uo (0,0) m.ae:=by
 rcases hn:m.ae.length with _|q;.rw[fN hn,YW hn];rfl
 .have hs:m.ae[q]?=some m.ae[q]:=YA (by omega);rw[ev hs hn];have:m.ae=m.ae.take q++[m.ae[q]]:=by have h1:=Qn (l:=m.ae) (i:=q);rw[Yh (by omega),hs]at h1;exact h1
  generalize m.ae[q]=s at this;rw[this,xq]
theorem oR{m}{n}(h:fU m 8 n)(h8:m.live.length=8):ir (cW m).bR 8 n:=by
 rcases hn:m.ae.length with _|q;.rw[fN hn];rw[h8];exact(Su (b:=8) (by omega) (by omega)).live
 .have hs:m.ae[q]?=some m.ae[q]:=YA (by omega);rw[ev hs hn];exact h.ae.mem (YQ _)
theorem sB(last)(b n):qF rz last b n:=by exact⟨rfl,rfl,rfl,rfl⟩
theorem iN{m}(h:Go.Ev.jD m):∀s∈m.ae,jW s.g:=λs hs=>(h.ae s hs).1
section
variable{pk:List UInt8->List (List UInt8)}{A:AD}{a n:Nat}{us:List Wr}{m:MT}{c:CH}
theorem VI.last(I:VI pk A a n us m c):(cW m).g=(fD c).g/\(cW m).bR.map (cN A)=(fD c).iW:=by
 have hl:=I.ag.len;rcases hn:m.ae.length with _|q;.rw[fN hn,pT (by omega)];refine⟨rfl,?_⟩;show(YZ m.live.length 0).map (cN A)=zT c.size;rw[I.l8,I.s8,zT8,We];rfl
 .have hs:m.ae[q]?=some m.ae[q]:=YA (by omega);have hc:c.ae[q]?=some c.ae[q]:=YA (by omega);rw[ev hs hn,pS hc (by omega)];obtain⟨h1,-,h2⟩:=I.ag.sn q _ _ hs hc;exact⟨h1,h2⟩
theorem VI.agree{A':AD}(I:VI pk A a n us m c)(h:∀l∈db m,∀q∈l,cN A' q=cN A q):gv A' m c:=by have hm:∀l∈db m,l.map (cN A')=l.map (cN A):=λl hl=>QR λq hq=>h l hl q hq;refine⟨(hm _ (YM ..)).trans I.ag.live,I.ag.len,λi s s' h1 h2=>?_⟩;obtain⟨g1,g2,g3⟩:=I.ag.sn i s s' h1 h2;exact⟨g1,g2,(hm s.bR (YI _ (YI _ (Yk.2 ⟨s,Yj h1,rfl⟩)))).trans g3⟩
theorem gv.snoc{A':AD}(h:gv A' m c){s:Sn}{s':Cn}{tk:Tk}{lv:List Nat}{lc:List Tx}(h1:s.g=s'.g)(h2:s.hid=s'.hid)(h3:s.bR.map (cN A')=s'.iW)(h4:lv.map (cN A')=lc):gv A' ⟨lv,m.ae++[s],tk⟩ {c with ae:=c.ae++[s'],live:=lc}:=by
 refine⟨h4,by show(m.ae++[s]).length=(c.ae++[s']).length;rw[YB,YB,h.len];rfl,λi t t' q1 q2=>?_⟩;have q1:(m.ae++[s])[i]?=some t:=q1;have q2:(c.ae++[s'])[i]?=some t':=q2;by_cases hi:i<m.ae.length;.rw[Yp hi]at q1;rw[Yp (by rw[<-h.len];exact hi)]at q2;exact h.sn i t t' q1 q2
 .rw[Yl (by omega)]at q1;rw[Yl (by rw[<-h.len];omega)]at q2;rw[h.len]at q1;rcases hk:i-c.ae.length with _|k;.rw[hk]at q1 q2;simp at q1 q2;subst q1 q2;exact⟨h1,h2,h3⟩
  .rw[hk]at q1;simp at q1
theorem N0(I:VI pk A a n us m c){g}(hg:jW g)(ha:eg g (cW m).g=true)(h20:m.ae.length<20):ke A m ⟨0,Uh m g,[]⟩ (zu c g):=by
 have ok1:fU (Uh m g) 8 A.len:=⟨I.ok.live,by show(m.ae++[_]).length<=20;rw[YB];show m.ae.length+1<=20;omega,I.ok.ae.snoc (by rw[<-pU];exact pR.2 ha) I.ok.live,sB _ _ _⟩;have hn:dY c g=0:=by unfold dY;rw[<-I.last.1,ha,if_neg (by simp),if_neg (by rw[<-I.ag.len];omega)]
 refine⟨ok1,ok1.jD I.hi (λs hs=>(Yo.1 hs).elim (iN I.B3 s) λh=>by simp_all) jG.1 jG.2.1,I.l8,λw hw=>(by cases hw),QO,Ya _,?_,λA' _ hf=>?_⟩;.unfold zu;rw[if_pos hn];exact I.s8
 .have hA:=I.agree hf;unfold zu;rw[if_pos hn];exact hA.snoc rfl rfl hA.live hA.live
theorem zj(I:VI pk A a n us m c){q}(hq:q<=m.ae.length):ke A m ⟨0,Ow {m with tok:=rz} q,[]⟩ (Uf c q):=by
 have hs:=I.ok.ae.take q;have hm2:fU ({m with ae:=m.ae.take q,tok:=rz}:MT) 8 A.len:=⟨I.ok.live,by rw[Yv];have:=I.ok.num;omega,hs,sB _ _ _⟩;have hli:=oR hm2 I.l8;have ok1:fU (Ow {m with tok:=rz} q) 8 A.len:=⟨hli,hm2.num,hs,sB _ _ _⟩;have hrb:Uf c q={c with ae:=c.ae.take q,live:=(fD {c with ae:=c.ae.take q}).iW}:=by unfold Uf;rw[if_neg (by rw[<-I.ag.len];omega)]
 refine⟨ok1,ok1.jD I.hi (λs hs=>iN I.B3 s (WI hs)) jG.1 jG.2.1,hli.len,λw hw=>(by cases hw),QO,Ya _,by rw[hrb];exact I.s8,λA' _ hf=>?_⟩;have hA:=I.agree hf;rw[hrb];have hlen:(m.ae.take q).length=(c.ae.take q).length:=by rw[Yv,Yv,hA.len]
 have hsn:∀(i)(s:Sn)(s':Cn),(m.ae.take q)[i]?=some s->(c.ae.take q)[i]?=some s'->s.g=s'.g/\s.hid=s'.hid/\s.bR.map (cN A')=s'.iW:=λi s s' h1 h2=>by
  have hi:i<q:=by have:=(YX.1 h1).1;rw[Yv]at this;omega
  rw[Yy,if_pos hi]at h1 h2;exact hA.sn i s s' h1 h2
 refine⟨?_,hlen,hsn⟩;show(cW {m with ae:=m.ae.take q,tok:=rz}).bR.map (cN A')=(fD {c with ae:=c.ae.take q}).iW;rcases hn:(m.ae.take q).length with _|r;.rw[fN hn,pT (by show(c.ae.take q).length=0;omega)];rw[I.l8,I.s8,zT8,We];rfl
 .have h1:(m.ae.take q)[r]?=some (m.ae.take q)[r]:=YA (by omega);have h2:(c.ae.take q)[r]?=some (c.ae.take q)[r]:=YA (by omega);rw[ev h1 hn,pS h2 (by show(c.ae.take q).length=r+1;omega)];exact(hsn r _ _ h1 h2).2.2
theorem MZ(I:VI pk A a n us m c){g}(h:(cU m g).2=0):ke A m ⟨0,EI m (cU m g).1,[]⟩ (Ue c g):=by
 have hfc:=I.ag.find g;obtain⟨i,hi,hr,hgi,hhi,-⟩:=kz h;have hs:=YA hi;have hi':i<c.ae.length:=by rw[<-I.ag.len];omega
 have hc:=YA hi';have hm:EI m i={m with ae:=m.ae.set i {m.ae[i]with hid:=true}}:=by unfold EI;rw[YF,hs,YU]
 have hhc:Ue c g={c with ae:=c.ae.set i {c.ae[i]with hid:=true}}:=by unfold Ue;rw[<-hfc,hr];simp only[if_true,YF,hc,YU]
 rw[hr];rw[hm,hhc];have hso:=I.ok.ae.hid hs;have hlast:uo (0,0) (m.ae.set i {m.ae[i]with hid:=true})=uo (0,0) m.ae:=by
  rw[<-pU m,<-pU {m with ae:=m.ae.set i {m.ae[i]with hid:=true}}];obtain⟨q,hq⟩:∃q,m.ae.length=q+1:=⟨m.ae.length-1,by omega⟩;have h1:m.ae[q]?=some m.ae[q]:=YA (by omega);have h2:(m.ae.set i {m.ae[i]with hid:=true})[q]?=some (if i=q then{m.ae[i]with hid:=true}else m.ae[q]):=by
   rw[YE4];split;.first|rfl|omega
   omega
  rw[ev h1 hq,ev h2 (by rw[Wg];omega)];split;.rename_i e;subst e;rfl
  .rfl
 have ok1:fU ({m with ae:=m.ae.set i {m.ae[i]with hid:=true}}:MT) 8 A.len:=⟨I.ok.live,by rw[Wg];exact I.ok.num,hso,by rw[hlast];exact I.ok.tok⟩;refine⟨ok1,ok1.jD I.hi (λs hs=>?_) I.B3.tok.1 I.B3.tok.2.1,I.l8,λw hw=>(by cases hw),QO,Ya _,I.s8,λA' _ hf=>?_⟩
 .rcases Wl hs with hs|rfl;.exact iN I.B3 s hs
  .exact(show jW m.ae[i].g from iN I.B3 _ (YQ hi))
 .have hA:=I.agree hf;refine⟨hA.live,by rw[Wg,Wg];exact hA.len,λj s s' q1 q2=>?_⟩;have q1:=q1;have q2:=q2;rw[YE4]at q1 q2;by_cases hij:i=j;.subst hij;rw[if_pos rfl,if_pos hi]at q1;rw[if_pos rfl,if_pos hi']at q2;cases q1;cases q2;obtain⟨g1,-,g3⟩:=hA.sn i _ _ hs hc;exact⟨g1,rfl,g3⟩
  .rw[if_neg hij]at q1 q2;exact hA.sn j s s' q1 q2
end
end Go.Ev
end
section
namespace Go.Ev
theorem rA.get{cs:List Wr}{b:Nat}(h:rA cs b){j:Nat}(hj:j<cs.length):(cs.getD j (0,(0,0))).1<b/\(cs.getD j (0,(32,0)))=cs.getD j (0,(0,0)):=by rw[YF,YF,YA hj];exact⟨(h.lt _ (YQ hj)).1,rfl⟩
theorem mB{cs}{b}{l at_}(h:rA cs b)(hl:l.length=b):∀{i},i<=cs.length->∀{k x},(eJ l cs at_ i)[k]?=some x->(∃j,j<i/\(cs.getD j (0,(0,0))).1=k/\x=at_.getD j 0)\/(l[k]?=some x/\∀j,j<i->(cs.getD j (0,(0,0))).1≠k)
 |0,_,k,x,hx=>YD ⟨hx,λj hj=>by omega⟩|i+1,hi,k,x,hx=>by
  simp only[eJ]at hx;rw[YE4]at hx;by_cases hk:(cs.getD i (0,(0,0))).1=k;.rw[if_pos hk,if_pos (by simp_all)]at hx;cases hx;exact YH ⟨i,by omega,hk,rfl⟩
  .rw[if_neg hk]at hx;rcases mB h hl (by omega) hx with⟨j,h1,h2,h3⟩|⟨h1,h2⟩;.exact YH ⟨j,by omega,h2,h3⟩
   .refine YD ⟨h1,λj hj=>?_⟩;by_cases hji:j<i;.simp_all
    .obtain rfl:j=i:=by omega
     omega
theorem eL.at_{m:MT}{n:Nat}{cs:List Wr}(P:eL m n cs){j:Nat}(hj:j<cs.length):(pA m n cs).getD j 0=0\/((cs.getD j (0,(32,0))).2≠(32,0)/\(fW m n cs)[fm cs j]?=some ((pA m n cs).getD j 0)/\193<=(pA m n cs).getD j 0/\(pA m n cs).getD j 0<n/\∀l∈db m,(pA m n cs).getD j 0∉l):=by
 have hg:(pA m n cs).getD j 0=if(cs.getD j (0,(32,0))).2=(32,0)then 0 else(fW m n cs).getD (fm cs j) 0:=by unfold pA;rw[YF,B8 hj];rfl
 rw[hg];by_cases hz:(cs.getD j (0,(32,0))).2=(32,0);.rw[if_pos hz];exact YH rfl
 .rw[if_neg hz];obtain⟨q,h1,h2,h3⟩:=P.fr hj hz;obtain⟨g1,g2,g3⟩:=wZ h3;rw[h2];exact YD ⟨hz,h1,g1,g2,g3⟩
theorem Nr{l:List Nat}(h:l.Nodup){i j x:Nat}(hi:l[i]?=some x)(hj:l[j]?=some x):i=j:=by obtain⟨h1,e1⟩:=YX.1 hi;obtain⟨h2,e2⟩:=YX.1 hj;exact(List.getElem_inj h).1 (e1.trans e2.symm)
theorem BI{nb:Nat}{m:MT}{n:Nat}{cs:List Wr}{l:List Nat}(hl:ir l nb n)(hlm:l∈db m\/∀q∈l,q=0)(P:eL m n cs)(ch:rA cs nb):ir (eJ l cs (pA m n cs) cs.length) nb n:=by
 refine⟨hl.lo,hl.hi,by rw[mC];exact hl.len,λq hq=>?_,jP.2 λi j x hij hi hj=>?_⟩
 .obtain⟨k,hk⟩:=QG hq;rcases mB ch hl.len (YC _) hk with⟨j,h1,-,h3⟩|⟨h1,-⟩
  .rcases P.at_ h1 with h|⟨-,-,h4,h5,-⟩;.exact YH (h3.trans h)
   omega
  .exact hl.pl q (Yj h1)
 .have hno:∀{q k},l[k]?=some q->(∀l∈db m,q∉l)->q=0:=λ{q k}h1 h2=>by
   rcases hlm with h|h;.exact absurd (Yj h1) (h2 l h)
   .exact h q (Yj h1)
  rcases mB ch hl.len (YC _) hi with⟨a,a1,a2,a3⟩|⟨a1,a2⟩
  .rcases mB ch hl.len (YC _) hj with⟨b,b1,b2,b3⟩|⟨b1,b2⟩
   .rcases P.at_ a1 with h|⟨h2,h3,-⟩;.exact a3.trans h
    .rcases P.at_ b1 with h'|⟨h2',h3',-⟩;.exact b3.trans h'
     .rw[<-a3]at h3;rw[<-b3]at h3';have hab:=Nr xa h3 h3';exfalso;rcases Nat.lt_trichotomy a b with hh|hh|hh;.have:=IM hh h2;omega
      .subst hh;omega
      .have:=IM hh h2';omega
   .rcases P.at_ a1 with h|⟨-,-,-,-,h5⟩;.exact a3.trans h
    .rw[<-a3]at h5;exact hno b1 h5
  .rcases mB ch hl.len (YC _) hj with⟨b,b1,b2,b3⟩|⟨b1,b2⟩
   .rcases P.at_ b1 with h|⟨-,-,-,-,h5⟩;.exact b3.trans h
    .rw[<-b3]at h5;exact hno a1 h5
   .exact jP.1 hl.nd i j x hij a1 b1
theorem vD{m}{n}{cs}{l}{A'}(P:eL m n cs)(ch:rA cs 8)(hA:∀w∈pW m n cs,A'.read w.1=w.2):∀{i},i<=cs.length->(eJ l cs (pA m n cs) i).map (cN A')=gu (l.map (cN A')) cs i|0,_=>rfl|i+1,hi=>by simp only[eJ,gu];rw[YE3,vD P ch hA (by omega)];obtain⟨q,h1,h2,-⟩:=P.read hA (j:=i) (by omega);rw[YF (l:=pA m n cs),h1,YU,h2,(ch.get (by omega)).2]
theorem Sj{m}:(cW m).bR∈db m\/∀q∈(cW m).bR,q=0:=by
 rcases hn:m.ae.length with _|q;.rw[fN hn];simp
 .have hs:m.ae[q]?=some m.ae[q]:=YA (by omega);rw[ev hs hn];exact YH (YI _ (YI _ (Yk.2 ⟨_,YQ _,rfl⟩)))
theorem rA.one{nb b:Nat}{d:Tx}(hb:b<nb)(hd:d.1=32)(hk:sI d):rA [(b,d)] nb:=⟨λc hc=>by rw[YL.1 hc];exact⟨hb,hd,hk⟩,λi hi=>by simp at hi⟩
section
variable{pk:List UInt8->List (List UInt8)}{A:AD}{a n:Nat}{us:List Wr}{m:MT}{c:CH}
theorem JQ(I:VI pk A a n us m c){b}{d}(hb:b<8)(hd:d.1=32)(hk:sI d)(hr:¬iR m A.len b d):ke A m ⟨0,Oy m A.len b d,Oz m A.len b d⟩ (JO c b d):=by
 have P:eL m A.len [(b,d)]:=⟨hr,λc hc=>by simp_all⟩;have ch:=rA.one hb hd hk;have hi:=BI I.ok.live (YH (YM ..)) P ch;have hm:Oy m A.len b d={m with live:=eJ m.live [(b,d)] (pA m A.len [(b,d)]) [(b,d)].length}:=rfl;have hw:Oz m A.len b d=pW m A.len [(b,d)]:=rfl;have hc:JO c b d={c with live:=c.live.set b d}:=by unfold JO;rw[if_pos ⟨by rw[I.s8];omega,hd⟩]
 rw[hm,hw,hc];have ok1:fU ({m with live:=eJ m.live [(b,d)] (pA m A.len [(b,d)]) [(b,d)].length}:MT) 8 A.len:=⟨hi,I.ok.num,I.ok.ae,I.ok.tok⟩;refine⟨ok1,ok1.jD I.hi (λs hs=>iN I.B3 s hs) I.B3.tok.1 I.B3.tok.2.1,hi.len,λw hw=>P.w hw,P.nodup,Yq eL.len (by simp),I.s8,λA' hA hf=>?_⟩;have hAg:=I.agree hf;refine⟨?_,hAg.len,hAg.sn⟩;rw[vD P ch hA (YC _),hAg.live];rfl
theorem Jr(I:VI pk A a n us m c){tk}{cs}{bv}(Z:Li m tk cs)(hfin:¬tk.next<tk.all)(h20:m.ae.length<20)(hr:¬kN m A.len cs)(hl:ir (qz m tk) 8 A.len)(hlm:qz m tk∈db m\/∀q∈qz m tk,q=0)(hcl:cs.length<=12)(hbv:gu ((qz m tk).map (cN A)) cs cs.length=bv):ke A m ⟨0,GP m A.len tk cs,NY m A.len cs⟩ {c with ae:=c.ae++[⟨bv,tk.t,false⟩],live:=bv}:=by
 have ch:=by have:=Z.ch;rwa[I.l8]at this
 have P:eL m A.len cs:=⟨hr,λc hc=>⟨(ch.lt c hc).2.1,(ch.lt c hc).2.2⟩⟩;have hi:=BI hl hlm P ch;have hw:NY m A.len cs=pW m A.len cs:=rfl;have hm:GP m A.len tk cs=⟨eJ (qz m tk) cs (pA m A.len cs) cs.length,m.ae++[⟨tk.t,eJ (qz m tk) cs (pA m A.len cs) cs.length,false⟩],rz⟩:=by unfold GP stM;rw[if_neg hfin];rfl
 rw[hm,hw];generalize hL:eJ (qz m tk) cs (pA m A.len cs) cs.length=L at hi;have ok1:fU (⟨L,m.ae++[⟨tk.t,L,false⟩],rz⟩:MT) 8 A.len:=⟨hi,by rw[YB];show m.ae.length+1<=20;omega,I.ok.ae.snoc (by rw[<-pU];exact pR.2 Z.t) hi,sB _ _ _⟩;refine⟨ok1,ok1.jD I.hi (λs hs=>(Yo.1 hs).elim (iN I.B3 s) λh=>by rw[YL.1 h];exact Z.gt) jG.1 jG.2.1,hi.len,λw hw=>P.w hw,P.nodup,Yq eL.len hcl,I.s8,λA' hA hf=>?_⟩;have hAg:=I.agree hf;have hst:(qz m tk).map (cN A')=(qz m tk).map (cN A):=by
  rcases hlm with h|h;.exact QR λq hq=>hf _ h q hq
  .exact QR λq hq=>by rw[h q hq];rfl
 have hv:L.map (cN A')=bv:=by rw[<-hL,vD P ch hA (YC _),hst,hbv]
 exact hAg.snoc rfl rfl hv hv
theorem abn(I:VI pk A a n us m c){tk}{cs}(Z:Li m tk cs)(hb:jW tk.b)(hfin:tk.next<tk.all)(h1:1<=tk.next)(hr:¬kN m A.len cs)(hl:ir (qz m tk) 8 A.len)(hlm:qz m tk∈db m\/∀q∈qz m tk,q=0)(hcl:cs.length<=12):ke A m ⟨0,GP m A.len tk cs,NY m A.len cs⟩ c/\(GP m A.len tk cs).tok={tk with bR:=eJ (qz m tk) cs (pA m A.len cs) cs.length}/\∀A':AD,(∀w∈NY m A.len cs,A'.read w.1=w.2)->(∀l∈db m,∀q∈l,cN A' q=cN A q)->(eJ (qz m tk) cs (pA m A.len cs) cs.length).map (cN A')=gu ((qz m tk).map (cN A)) cs cs.length:=by
 have ch:=by have:=Z.ch;rwa[I.l8]at this
 have P:eL m A.len cs:=⟨hr,λc hc=>⟨(ch.lt c hc).2.1,(ch.lt c hc).2.2⟩⟩;have hi:=BI hl hlm P ch;have hw:NY m A.len cs=pW m A.len cs:=rfl;have hm:GP m A.len tk cs=⟨m.live,m.ae,{tk with bR:=eJ (qz m tk) cs (pA m A.len cs) cs.length}⟩:=by unfold GP stM;rw[if_pos hfin];rfl
 have hgt:=pR.2 Z.t;have htne:tk.t≠(0,0):=λh=>by rw[h]at hgt;unfold Iw at hgt;omega
 have hall:=Z.all;rw[I.l8]at hall;rw[hm,hw];have hst:∀A',(∀l∈db m,∀q∈l,cN A' q=cN A q)->(qz m tk).map (cN A')=(qz m tk).map (cN A):=λA' hf=>by
  rcases hlm with h|h;.exact QR λq hq=>hf _ h q hq
  .exact QR λq hq=>by rw[h q hq];rfl
 have ok1:fU (⟨m.live,m.ae,{tk with bR:=eJ (qz m tk) cs (pA m A.len cs) cs.length}⟩:MT) 8 A.len:=⟨I.ok.live,I.ok.num,I.ok.ae,by unfold qF;rw[if_neg htne];exact⟨by rw[<-pU];exact Z.b,by rw[<-pU];exact hgt,h1,hfin,hall,hi⟩⟩;refine⟨⟨ok1,ok1.jD I.hi (λs hs=>iN I.B3 s hs) hb Z.gt,I.l8,λw hw=>P.w hw,P.nodup,Yq eL.len hcl,I.s8,λA' hA hf=>?_⟩,rfl,λA' hA hf=>?_⟩;.have hAg:=I.agree hf;exact⟨hAg.live,hAg.len,hAg.sn⟩
 .rw[vD P ch hA (YC _),hst A' hf]
end
end Go.Ev
end
section
namespace Go.Ev
variable{cp:RC->au}{t:Nat->Option df}{fuel:Nat}{H:Heap}{pk:List UInt8->List (List UInt8)}{unpk:List (List UInt8)->Option (List UInt8)}
theorem NO{A B}(h:∀k,find A.es k=find B.es k)(q):cN A q=cN B q:=by unfold cN AD.read;rw[h]
theorem uA(T:aB t)(hc:aP t)(F:bH pk unpk)(hu:t 85=some (.nat (dF unpk))){dp a n}{A}{O}{us}{m}{c}(hD:cK H dp A O)(I:VI pk A a n us m c)(hf:A.bd=0)(hfu:1000000<fuel):∃H' O' A' vp vl vs vi,(∀(d)(k),aj (aU cp t fuel (d+9)) (.func 22 []) [.ptr dp 0] H k=k (.cG [.ptr vp 0,.int 3 0]) H')/\Step H O H' O'/\VP H' dp vp a n A' O' m vl vs vi/\H.n<=vp/\VI pk A' a n us m c/\A'.bd=0/\A'.len=A.len/\A'.room=A.room/\∀X:Nat->Prop,(∀b,X b->b<H.n)->jR H' (λb=>X b\/bz O' vp b) m vl vs vi:=by obtain⟨r1,r2,r3,r4,r5,r6⟩:=I.jd.recovered hf;have hT:OB (A.recover n us).1 (pk (bq (nF m))):=⟨λi h=>by rw[AD.read,r6];exact I.mH.at_ i h⟩;obtain⟨H',O',vp,vl,vs,vi,z,s,D,g,hn,ho,hv,hM,hX⟩:=JJ T hc F hu hD I.jd.Jc r1 r2.off (by rw[r4];exact I.lo) (by rw[r4];exact I.hi) (by rw[r4,I.l8];exact I.ok) I.B3 hT hfu;refine⟨H',O',_,vp,vl,vs,vi,z,s,⟨D,r2.off,r2.Jc.can,by rw[r4];exact I.lo,by rw[r4];exact I.hi,g,hn,ho,hM,I.B3⟩,hv,⟨r2,by rw[r4];exact I.lo,by rw[r4];exact I.hi,by rw[r4,r5];exact I.room,I.l8,by rw[r4];exact I.ok,I.B3,hT,I.s8,I.agree λl _ q _=>NO r6 q⟩,r3,r4,r5,hX⟩
def c0:CH:=⟨zT 8,8,[]⟩
theorem St(A):gv A (mz 8) c0:=⟨by rfl,rfl,λi s s' h=>by cases i<;>cases h⟩
theorem uj(T:aB t)(hc:aP t)(F:bH pk unpk)(hp:t 110=some (.nat (dj pk)))(hu:t 85=some (.nat (dF unpk))){H0}{dp n r}{O}(h1:193<=n)(h2:n<=1024)(hr:n<=r)(fr:ah H0 H)(hD:cK H dp ⟨n,r,0,false,[],[]⟩ O)(own:∀b,O b->H0.n<=b)(hfu:1000000<fuel):∃G H' A a k us vp O' vl vs vi,(∀(d)(k),aj (aU cp t fuel (d+8)) (.func 40 []) [.ptr dp 0,.int 3 8] H k=k (.int 3 0) G)/\(∀(d)(k),aj (aU cp t fuel (d+9)) (.func 22 []) [.ptr dp 0] G k=k (.cG [.ptr vp 0,.int 3 0]) H')/\ah H0 H'/\VP H' dp vp a k A O' (mz 8) vl vs vi/\VI pk A a k us (mz 8) c0/\A.bd=0/\A.len=n/\A.room=r/\(∀b,bz O' vp b->H0.n<=b):=by obtain⟨G,A1,O1,z1,f1,D1,own1,⟨a,k,us,J⟩,q1,q2,q3,hT⟩:=CD T hc F hp h1 h2 hr (by omega) (YC 8) fr hD own hfu;have I1:VI pk A1 a k us (mz 8) c0:=⟨J,by omega,by omega,by omega,xB 8,Su (by omega) (by omega),Sv (by omega),hT,rfl,St _⟩;obtain⟨H',O',A',vp,vl,vs,vi,z2,s2,S,hv,I2,g1,g2,g3,-⟩:=uA T hc F hu D1 I1 q1 hfu;obtain⟨f2,own2⟩:=f1.own s2 own1;exact⟨G,H',A',a,k,us,vp,O',vl,vs,vi,z1,z2,f2,S,I2,g1,g2.trans q2,g3.trans q3,λb hb=>hb.elim (own2 b) λe=>by rw[e];exact Yq f1.n hv⟩
theorem Fb(T:aB t)(hc:aP t)(F:bH pk unpk)(hp:t 110=some (.nat (dj pk)))(hu:t 85=some (.nat (dF unpk)))(hw:H.wf)(hfu:1000000<fuel):∃H' A a k us dp vp O' vl vs vi,(∀(d)(k),aj (aU cp t fuel (d+10)) (.func 16 []) [.int 3 8] H k=k (.cG [.ptr dp 0,.ptr vp 0]) H')/\ah H H'/\VP H' dp vp a k A O' (mz 8) vl vs vi/\VI pk A a k us (mz 8) c0/\A.bd=0/\A.len=400/\A.room=400/\(∀b,bz O' vp b->H.n<=b):=by obtain⟨G1,dp,O1,z1,D1,f1,o1⟩:=KQ (cp:=cp) (fuel:=fuel) (n:=400) (r:=400) (T.iv hc) hw (by omega) (by omega) (by unfold nn;omega);obtain⟨G2,H',A,a,k,us,vp,O',vl,vs,vi,z2,z3,f3,S,I,g1,g2,g3,own⟩:=uj (cp:=cp) T hc F hp hu (by omega) (by omega) (YC 400) f1 D1 o1 hfu;have z1:=λ{d}{k}=>z1 d k;have z2:=λ{d}{k}=>z2 d k;have z3:=λ{d}{k}=>z3 d k;refine⟨H',A,a,k,us,dp,vp,O',vl,vs,vi,λd k=>?_,f3,S,I,g1,g2,g3,own⟩;rw[aJ T.k8 rfl rfl];simp only[go_sem,↓aa,reduceCtorEq,ZA,ZB,ZC,ZD,ZE,ZF,ZG,ZH,↓reduceIte,↓aE,c8,adw,adx,↓z1,↓z2];simp only[go_sem,↓aa,reduceCtorEq,ZA,ZB,ZC,ZD,ZE,ZF,ZG,ZH,↓reduceIte,↓aE,ady,adz,adA,adB,↓z3]
end Go.Ev
end
section
namespace Go.Ev
open Go.Proofs
theorem Ep{k}:∀{L:List (List Nat)},(∀l∈L,l.length<=k)->L.flatten.length<=L.length*k|[],_=>Ya _|l::L,h=>by have h1:=h l (YM ..);have h2:=Ep λx hx=>h x (YI _ hx);rw[WO,YB,YG,Wf];omega
theorem KD{m}(h:jD m):(db m).flatten.length<1000000:=by
 have h1:∀l∈db m,l.length<=100:=λl hl=>by
  rcases YS.1 hl with rfl|hl;.exact Qc h.live.1
  rcases YS.1 hl with rfl|hl;.exact Qc h.tok.2.2.2.2.1
  .obtain⟨s,hs,rfl⟩:=Yk.1 hl;exact Qc (h.ae s hs).2.1
 have h2:=Ep h1;have h3:(db m).length=m.ae.length+2:=by unfold db;simp
 have:=h.num;omega
theorem KS{l}{i x}(h:BZ l)(hx:x<1024):BZ (l.set i x):=⟨by rw[Wg];exact h.1,λp hp=>by
 rcases Wl hp with hp|rfl;.exact h.2 p hp
 .unfold nn;omega⟩
theorem Az{l at_}{cs}(h:BZ l)(ha:∀p∈at_,p<1024):∀i,BZ (eJ l cs at_ i)
 |0=>h|i+1=>by
  refine KS (Az h ha i) ?_;rw[YF];rcases hx:at_[i]?with _|x;.simp
  .exact ha x (Yj hx)
theorem SJ{m}(h:jD m):BZ (cW m).bR:=by
 rcases hn:m.ae.length with _|q;.rw[fN hn];exact⟨by rw[WT];exact h.live.1,λp hp=>by rw[(YE0.1 hp).2];unfold nn;omega⟩
 .have hs:m.ae[q]?=some m.ae[q]:=YA (by omega);rw[ev hs hn];exact(h.ae _ (YQ _)).2
theorem aa0{m}{n b}{d}(h:jD m)(hn:n<=1024):jD (Oy m n b d):=by
 refine⟨KS h.live ?_,h.num,h.ae,h.tok⟩;rw[YF];rcases hx:(xM [(b,d)] (fW m n [(b,d)]) 1)[0]?with _|x;.simp
 .exact B9 (wY hn) 1 x (Yj hx)
theorem aaZ{m}{g}(h:jD m)(hg:jW g)(hl:m.ae.length<900):jD (Uh m g):=⟨h.live,by show(m.ae++[_]).length<1000;rw[YB];show m.ae.length+1<1000;omega,λs hs=>(Yo.1 hs).elim (h.ae s) λe=>by rw[YL.1 e];exact⟨hg,h.live⟩,jG⟩
theorem aaX{m}{q}(h:jD m):jD (Ow {m with tok:=rz} q):=by have h2:jD ({m with ae:=m.ae.take q,tok:=rz}:MT):=⟨h.live,by rw[Yv];have:=h.num;omega,λs hs=>h.ae s (WI hs),jG⟩;exact⟨SJ h2,h2.num,h2.ae,jG⟩
theorem aaW{m}{i}(h:jD m)(hi:i<m.ae.length):jD (EI m i):=by
 have hs:=YA hi;have hm:EI m i={m with ae:=m.ae.set i {m.ae[i]with hid:=true}}:=by unfold EI;simp_all
 rw[hm];refine⟨h.live,by rw[Wg];exact h.num,λs hs=>?_,h.tok⟩;rcases Wl hs with hs|rfl;.exact h.ae s hs
 .exact(show jW m.ae[i].g/\BZ m.ae[i].bR from h.ae _ (YQ hi))
theorem aaY{m}{n}{tk}{cs}(h:jD m)(hn:n<=1024)(hl:BZ (qz m tk))(hb:jW tk.b)(ht:jW tk.t)(h1:nn tk.next)(h2:nn tk.all)(hlen:m.ae.length<900):jD (GP m n tk cs):=by
 have hi:=Az (cs:=cs) hl (B9 (cs:=cs) (wY (m:=m) (cs:=cs) hn) cs.length) cs.length;unfold GP stM;split;.exact⟨h.live,h.num,h.ae,hb,ht,h1,h2,hi⟩
 .exact⟨hi,by rw[YB];show m.ae.length+1<1000;omega,λs hs=>(Yo.1 hs).elim (h.ae s) λe=>by simp_all,jG⟩
section
variable(pk:List UInt8->List (List UInt8))(A:AD)(a:Nat)(m:MT)(o:kS)
def kS.E:Nat:=if o.e0≠0then o.e0 else(oh pk A a o.m1 o.bw).2
def kS.A1:AD:=if o.e0≠0then A else(oh pk A a o.m1 o.bw).1
def kS.M:MT:=if o.e0≠0then m else Km pk A a m o.m1 o.bw
def kS.L:Bool:=if o.e0≠0then false else Ub pk A a o.m1 o.bw
end
def Uj(m:MT)(n b:Nat)(d:Tx):kS:=⟨if¬b<8then 2 else if iR m n b d then 7 else 0,Oy m n b d,Oz m n b d⟩
def Zp(m:MT)(g:Gd):kS:=⟨if eg g (cW m).g=false then 2 else if 20<=m.ae.length then 3 else 0,Uh m g,[]⟩
def Zk(m:MT)(q:Nat):kS:=⟨if m.ae.length<q then 2 else 0,Ow {m with tok:=rz} q,[]⟩
def hiO(m:MT)(g:Gd):kS:=⟨(cU m g).2,EI m (cU m g).1,[]⟩
def Ox(m:MT)(n:Nat)(tk:Tk)(cs:List Wr):kS:=⟨if yv m tk≠0then yv m tk else if kN m n cs then 7 else 0,GP m n tk cs,NY m n cs⟩
instance abD(m:MT)(n b:Nat)(d:Tx):Decidable (iR m n b d):=inferInstanceAs(Decidable (_<_))
section
variable{t:Nat->Option df}{fuel:Nat}{H:Heap}{pk:List UInt8->List (List UInt8)}{unpk:List (List UInt8)->Option (List UInt8)}
variable{dp vp a n:Nat}{A:AD}{O:Nat->Prop}{m:MT}{vl vs vi:V}{c:CH}{us:List Wr}
def rE(pk:List UInt8->List (List UInt8))(t:Nat->Option df)(fuel dd:Nat)(H:Heap)(dp vp a:Nat)(A:AD)(O:Nat->Prop)(m:MT)(vl vs vi:V)(o:kS)(f:V)(args:List V):Prop:=∃H' O',(∀(d:Nat)(k:K),aj (aU (aO Tryz.prog) t fuel (d+dd)) f args H k=k (.int 3 (o.E pk A a)) H')/\ny H H' dp vp O O' m vl vs vi (o.A1 pk A a) (o.M pk A a m) (o.L pk A a)
theorem adG(c):tx (eG c 32)=dT c:=by rfl
theorem T3(T:aB t)(hc:aP t)(F:bH pk unpk)(hp:t 110=some (.nat (dj pk)))(S:VP H dp vp a n A O m vl vs vi)(I:fU m 8 A.len)(h8:m.live.length=8){b l}(hb:b<1000000)(hfu:1000000<fuel):rE pk t fuel 9 H dp vp a A O m vl vs vi (Uj m A.len b (dT l)) (.func 48 []) [.ptr vp 0,.int 3 b,.str 32 (enc (eG l 32))]:=by
 obtain⟨H',O',z,hd⟩:=GF (block:=b) (data:=eG l 32) T hc F hp S (by omega) (by rw[fM];omega) (λl hl a ha h0=>(I.pl l hl a ha).resolve_left h0) (KD S.ok) (λ_=>aa0 S.ok S.hi) hfu;have hmay:sg m b (eG l 32)=decide (b<8):=by unfold sg;rw[fM,h8];simp
 rw[adG]at z hd;simp only[tv,fM]at z;refine⟨H',O',λd k=>?_,?_⟩
 .unfold kS.E Uj;by_cases h1:b<8
  .by_cases h2:iR m A.len b (dT l);.simp_all
   simp_all
  simp_all
 .unfold kS.A1 kS.M kS.L Uj;by_cases h1:b<8;.simp_all
  simp_all
theorem W7(T:aB t)(hc:aP t)(F:bH pk unpk)(hp:t 110=some (.nat (dj pk)))(S:VP H dp vp a n A O m vl vs vi){g}(hg:jW g)(hl:m.ae.length<900)(hfu:1000000<fuel):rE pk t fuel 9 H dp vp a A O m vl vs vi (Zp m g) (.func 60 []) [.ptr vp 0,.agg (aY g)]:=by
 obtain⟨H',O',z,hd⟩:=NZ T hc F hp S hg (aaZ S.ok hg hl) hfu;refine⟨H',O',λd k=>?_,?_⟩
 .rw[z];unfold kS.E Zp;rcases h1:eg g (cW m).g with _|_;.simp
  simp_all
 .unfold kS.A1 kS.M kS.L Zp;rcases h1:eg g (cW m).g with _|_;.simp_all
  simp_all
theorem FJ(T:aB t)(hc:aP t)(F:bH pk unpk)(hp:t 110=some (.nat (dj pk)))(S:VP H dp vp a n A O m vl vs vi)(I:fU m 8 A.len)(h8:m.live.length=8){q}(hq:nn q)(hfu:1000000<fuel):rE pk t fuel 9 H dp vp a A O m vl vs vi (Zk m q) (.func 66 []) [.ptr vp 0,.int 3 q]:=by
 obtain⟨H',O',z,hd⟩:=zf T hc F hp S hq (λs hs=>by rw[(I.ae.mem hs).len,h8]) (by omega) (aaX S.ok) hfu;refine⟨H',O',λd k=>?_,?_⟩;.rw[z];unfold kS.E Zk;simp_all
 .unfold kS.A1 kS.M kS.L Zk;simp_all
theorem U6(T:aB t)(hc:aP t)(F:bH pk unpk)(hp:t 110=some (.nat (dj pk)))(S:VP H dp vp a n A O m vl vs vi){g}(hfu:1000000<fuel):rE pk t fuel 9 H dp vp a A O m vl vs vi (hiO m g) (.func 76 []) [.ptr vp 0,.agg (aY g)]:=by obtain⟨H',O',z,hd⟩:=MY T hc F hp S (λh=>by obtain⟨i,hi,hr,-⟩:=kz h;rw[hr];exact aaW S.ok hi) hfu;exact⟨H',O',z,hd⟩
theorem TB(T:aB t)(hc:aP t)(F:bH pk unpk)(hp:t 110=some (.nat (dj pk)))(S:VP H dp vp a n A O m vl vs vi)(I:fU m 8 A.len)(h8:m.live.length=8){tk}{cs}{y vx}(Z:Li m tk cs)(hb:jW tk.b)(hy:y.one=true)(hX:Row H (bz O vp) vx 2 cs.length (bS cs))(hn:cs.length<1000)(hl:ir (qz m tk) 8 A.len)(hlen:m.ae.length<900)(hfu:1000000<fuel):rE pk t fuel 9 H dp vp a A O m vl vs vi (Ox m A.len tk cs) (.func 32 []) [.ptr vp 0,.agg (bB tk y),vx]:=by
 have h1:=Z.next;have h2:=Z.all;have hi:BZ (qz m tk):=⟨by rw[hl.len];omega,λp hp=>by have:=hl.pl p hp;have:=S.hi;unfold nn;omega⟩;obtain⟨H',O',z,hd⟩:=Jq T hc F hp S Z hb hy hX hn (λl hl a ha h0=>(I.pl l hl a ha).resolve_left h0) (KD S.ok) (by rw[hl.len,h8]) (aaY S.ok S.hi hi hb Z.gt (by unfold nn;omega) (by unfold nn;omega) hlen) hfu;refine⟨H',O',λd k=>?_,?_⟩
 .rw[z];unfold kS.E Ox sgE;by_cases h1:yv m tk=0;.simp_all
  simp_all
 .unfold kS.A1 kS.M kS.L Ox;unfold F8 at hd;by_cases h1:yv m tk=0;.simp_all
  simp_all
end
end Go.Ev
end
section
namespace Go.Ev
open Go.Proofs
theorem Step.congr{H H':Heap}{P P' Q Q':Nat->Prop}(s:Step H P H' P')(h:∀b,P b↔Q b)(h':∀b,P' b↔Q' b):Step H Q H' Q':=by obtain rfl:P=Q:=funext λb=>propext (h b);obtain rfl:P'=Q':=funext λb=>propext (h' b);exact s
theorem iC{id half a b}{f}(ha:a<half)(hb:b<half)(h0:b≠0):gk id (.rem half) a b f=f (a%b):=by show aI (Nat.blt a half) (aI (Nat.blt b half) (aI (YN b 0) (no 0) (av (Nat.mod a b) f)) (no 0)) (no 0)=_;rw[bG,if_pos (by simp_all),bG,if_pos (by simp_all),bG,if_neg (by simp_all),ax];rfl
def PQ(vp p:Nat)(O:Nat->Prop)(v:V):Nat->Prop:=λb=>CQ p v b\/bz O vp b
structure PD(H:Heap)(X:Nat->Prop)(dp vp p:Nat)(A:AD)(O:Nat->Prop)(m:MT)(vl vs vi:V)(lost:Bool)(c:CH)(v:V):Prop where
 cS:cK H dp A O
 get:H.get vp=.cells (vc m vl vs vi dp lost)vn:vp<H.n
 vo:¬O vp
 lP:jR H (λb=>(X b\/CQ p v b)\/bz O vp b) m vl vs vi
 ch:ig H p c v
 Ud:∀b,CQ p v b->¬bz O vp b
 xn:∀b,X b->b<H.n
 xc:∀b,X b->¬CQ p v b
 xo:∀b,X b->¬bz O vp b
section
variable{H H':Heap}{X:Nat->Prop}{dp vp p a n:Nat}{A A':AD}{O O':Nat->Prop}{m m':MT}{vl vs vi:V}{lost:Bool}{c c':CH}{v v':V}{us:List Wr}{pk:List UInt8->List (List UInt8)}
theorem PD.vpo(P:PD H X dp vp p A O m vl vs vi false c v)(I:VI pk A a n us m c'):VP H dp vp a n A O m vl vs vi:=⟨P.cS,I.jd.off,I.jd.Jc.can,I.lo,I.hi,P.get,P.vn,P.vo,P.lP.nv λb _ h=>YD h,I.B3⟩
theorem PD.wlt(P:PD H X dp vp p A O m vl vs vi lost c v):∀b,bz O vp b->b<H.n:=λb h=>h.elim (P.cS.lt b) λh=>by rw[h];exact P.vn
theorem PD.lt(P:PD H X dp vp p A O m vl vs vi lost c v):∀b,PQ vp p O v b->b<H.n:=λb h=>h.elim (P.ch.lt b) (P.wlt b)
theorem PD.cz{Q Q':Nat->Prop}(P:PD H X dp vp p A O m vl vs vi lost c v)(s:Step H Q H' Q')(hq:∀b,Q b->¬PQ vp p O v b)(hm:jR H' (λb=>(X b\/CQ p v b)\/bz O vp b) m vl vs vi):PD H' X dp vp p A O m vl vs vi lost c v:=⟨(P.cS.cz s λb hb h=>hq b h (YD (YH hb))).1,(s.same vp P.vn λh=>hq vp h (YD (YD rfl))).1.trans P.get,YE P.vn s.n,P.vo,hm,(P.ch.cz s λb hb h=>hq b h (YH hb)).1,P.Ud,λb hb=>YE (P.xn b hb) s.n,P.xc,P.xo⟩
theorem PD.fresh(P:PD H X dp vp p A O m vl vs vi lost c v)(f:ah H H'):PD H' X dp vp p A O m vl vs vi lost c v:=P.cz (f.step (O:=λ_=>False)) (λb h=>h.elim) (P.lP.fresh f)
theorem PD.less{Y:Nat->Prop}(P:PD H X dp vp p A O m vl vs vi lost c v)(h:∀b,Y b->X b):PD H Y dp vp p A O m vl vs vi lost c v:=⟨P.cS,P.get,P.vn,P.vo,P.lP.nv λb _ hb=>hb.imp_left λhb=>hb.imp_left (h b),P.ch,P.Ud,λb hb=>P.xn b (h b hb),λb hb=>P.xc b (h b hb),λb hb=>P.xo b (h b hb)⟩
theorem PD.vop(P:PD H X dp vp p A O m vl vs vi false c v)(h:ny H H' dp vp O O' m vl vs vi A' m' lost):∃vl' vs' vi',PD H' X dp vp p A' O' m' vl' vs' vi' lost c v/\Step H (PQ vp p O v) H' (PQ vp p O' v):=by obtain⟨s,D,ho,hn,vl',vs',vi',hg,-,hX⟩:=h;have hd':=(P.ch.cz s P.Ud).2;exact⟨vl',vs',vi',⟨D,hg,hn,ho,hX (λb=>X b\/CQ p v b) (λb hb=>hb.elim (P.xn b) (P.ch.lt b)) P.lP,(P.ch.cz s P.Ud).1,hd',λb hb=>YE (P.xn b hb) s.n,P.xc,λb hb=>(s.same b (P.xn b hb) (P.xo b hb)).2⟩,s.or⟩
theorem PD.cop(P:PD H X dp vp p A O m vl vs vi lost c v)(s:Step H (CQ p v) H' (CQ p v'))(C:ig H' p c' v'):PD H' X dp vp p A O m vl vs vi lost c' v'/\Step H (PQ vp p O v) H' (PQ vp p O v'):=by
 have hd:∀b,bz O vp b->¬CQ p v b:=λb h h'=>P.Ud b h' h;have hd':∀b,CQ p v' b->¬bz O vp b:=λb hb h=>(s.same b (P.wlt b h) (hd b h)).2 hb;refine⟨⟨(P.cS.cz s λb hb h=>P.Ud b h (YH hb)).1,(s.same vp P.vn (hd vp (YD rfl))).1.trans P.get,YE P.vn s.n,P.vo,?_,C,hd',λb hb=>YE (P.xn b hb) s.n,λb hb=>(s.same b (P.xn b hb) (P.xc b hb)).2,P.xo⟩,(s.or (O:=bz O vp)).congr (λb=>Or.comm) λb=>Or.comm⟩;have h1:jR H (λb=>(X b\/bz O vp b)\/CQ p v b) m vl vs vi:=P.lP.nv λb _ h=>by
  rcases h with(h|h)|h;.exact YH (YH h)
  .exact YD h
  .exact YH (YD h)
 exact(h1.cz (s.or (O:=λb=>X b\/bz O vp b))).nv λb _ h=>by
  rcases h with(h|h)|h;.exact YH (YH h)
  .exact YD h
  .exact YH (YD h)
end
end Go.Ev
end
section
namespace Go.Ev
open Go.Proofs
section
variable{t:Nat->Option df}{fuel:Nat}{H:Heap}{pk:List UInt8->List (List UInt8)}{unpk:List (List UInt8)->Option (List UInt8)}
variable{X:Nat->Prop}{dp vp p a n:Nat}{A:AD}{O:Nat->Prop}{m:MT}{vl vs vi v:V}{c:CH}{us:List Wr}{c0:CH}
def lR(pk:List UInt8->List (List UInt8))(t:Nat->Option df)(fuel:Nat)(H:Heap)(X:Nat->Prop)(dp vp p a:Nat)(A:AD)(O:Nat->Prop)(m:MT)(v:V)(kd nb lt next:Nat)(o:kS)(r:CH×Nat):Prop:=∃H' O' vl' vs' vi' v',(∀(d:Nat)(k:K),aj (aU (aO Tryz.prog) t fuel (d+10)) (.func 20 []) [.ptr vp 0,.ptr p 0,.agg [.int 4 kd,.int 4 nb,.int 4 lt],.int 7 next] H k=k (.cG [.int 3 (o.E pk A a),.int 3 r.2]) H')/\PD H' X dp vp p (o.A1 pk A a) O' (o.M pk A a m) vl' vs' vi' (o.L pk A a) r.1 v'/\Step H (PQ vp p O v) H' (PQ vp p O' v')
theorem Xd(T:aB t)(hc:aP t)(F:bH pk unpk)(hp:t 110=some (.nat (dj pk)))(P:PD H X dp vp p A O m vl vs vi false c v)(I:VI pk A a n us m c0)(hl:m.ae.length<900){kd nb lt next}(hk:kd%6=2)(hkd:kd<256)(hnb:nb<256)(hnx:next<1000)(hfu:1000000<fuel):lR pk t fuel H X dp vp p a A O m v kd nb lt next (Zp m (1,next)) (zu c (1,next),dY c (1,next)):=by
 obtain⟨G0,hG0,f0,p0,n0⟩:=Heap.aW P.cS.wf (.cells [.int 4 kd,.int 4 nb,.int 4 lt]);have P0:=P.fresh f0;have w:=P.cS.wf;have w0:=f0.wf;obtain⟨G1,z1o,f1⟩:=jV (cp:=aO Tryz.prog) (fuel:=fuel) (a:=1) (b:=next) T w0;have z1:=λ{d}{k}=>z1o (d+8) k;have P1:=P0.fresh f1;have hg:jW (1,next):=⟨by simp,by omega⟩;obtain⟨G2,O',z2o,hd⟩:=W7 T hc F hp (P1.vpo I) hg hl hfu;have z2:=λ{d}{k}=>z2o d k;obtain⟨vl',vs',vi',P2,s2⟩:=P1.vop hd;obtain⟨G3,z3o,f3⟩:=jV (cp:=aO Tryz.prog) (fuel:=fuel) (a:=1) (b:=next) T P2.cS.wf;have z3:=λ{d}{k}=>z3o (d+8) k;have P3:=P2.fresh f3;obtain⟨G4,v',z4o,s4,C4⟩:=HL (cp:=aO Tryz.prog) (fuel:=fuel) T P3.ch hg (by omega);have z4:=λ{d}{k}=>z4o (d+5) k;obtain⟨P4,s4'⟩:=P3.cop s4 C4;refine⟨G4,O',vl',vs',vi',v',λd k=>?_,P4,(f0.trans f1).step.trans (s2.trans (f3.step.trans s4'))⟩;rw[aJ T.Vb rfl rfl];simp only[aY]at z2 z4;have e1:nb%18446744073709551616=nb:=by omega
 have rm:∀{id}{f},gk id (.rem 256) kd 6 f=f (kd%6):=λ{id f}=>iC hkd (by omega) (by omega);simp only[go_sem,↓aa,reduceCtorEq,ZA,ZB,ZC,ZD,ZE,ZF,ZG,ZH,↓reduceIte,↓aE,Xu,tY,tZ,w,hG0,p0,↓rm,hk,hkd,hnb,e1,↓z1,↓z2,↓z3,↓z4]
theorem Xb(T:aB t)(hc:aP t)(F:bH pk unpk)(hp:t 110=some (.nat (dj pk)))(P:PD H X dp vp p A O m vl vs vi false c v)(I:VI pk A a n us m c0){kd nb lt next}(hk:kd%6=3)(hkd:kd<256)(hnb:nb<256)(hfu:1000000<fuel):lR pk t fuel H X dp vp p a A O m v kd nb lt next (Zk m (nb%6)) (Uf c (nb%6),if c.ae.length<nb%6then 2 else 0):=by
 obtain⟨G0,hG0,f0,p0,n0⟩:=Heap.aW P.cS.wf (.cells [.int 4 kd,.int 4 nb,.int 4 lt]);have P0:=P.fresh f0;have w:=P.cS.wf;have hq:nn (nb%6):=by unfold nn;omega
 obtain⟨G2,O',z2o,hd⟩:=FJ T hc F hp (P0.vpo I) I.ok I.l8 hq hfu;have z2:=λ{d}{k}=>z2o d k;obtain⟨vl',vs',vi',P2,s2⟩:=P0.vop hd;obtain⟨G4,v',z4o,s4,C4⟩:=wG (cp:=aO Tryz.prog) (fuel:=fuel) T P2.ch hq (by omega);have z4:=λ{d}{k}=>z4o (d+6) k;obtain⟨P4,s4'⟩:=P2.cop s4 C4;refine⟨G4,O',vl',vs',vi',v',λd k=>?_,P4,f0.step.trans (s2.trans s4')⟩;rw[aJ T.Vb rfl rfl];have e1:nb%18446744073709551616=nb:=by omega
 have rm:∀{id}{f},gk id (.rem 256) kd 6 f=f (kd%6):=λ{id f}=>iC hkd (by omega) (by omega);have rn:∀{id}{f},gk id (.rem 9223372036854775808) nb 6 f=f (nb%6):=λ{id f}=>iC (by omega) (by omega) (by omega);simp only[go_sem,↓aa,reduceCtorEq,ZA,ZB,ZC,ZD,ZE,ZF,ZG,ZH,↓reduceIte,↓aE,Xu,tY,tZ,w,hG0,p0,↓rm,↓rn,hk,hkd,hnb,e1,↓z2,↓z4]
theorem Xa(T:aB t)(hc:aP t)(F:bH pk unpk)(hp:t 110=some (.nat (dj pk)))(P:PD H X dp vp p A O m vl vs vi false c v)(I:VI pk A a n us m c0){kd nb lt next}(hk:kd%6=4)(hkd:kd<256)(hnb:nb<256)(hfu:1000000<fuel):lR pk t fuel H X dp vp p a A O m v kd nb lt next (hiO m (1,nb%8)) (Ue c (1,nb%8),(og c (1,nb%8)).2):=by
 obtain⟨G0,hG0,f0,p0,n0⟩:=Heap.aW P.cS.wf (.cells [.int 4 kd,.int 4 nb,.int 4 lt]);have P0:=P.fresh f0;have w:=P.cS.wf;have w0:=f0.wf;obtain⟨G1,z1o,f1⟩:=jV (cp:=aO Tryz.prog) (fuel:=fuel) (a:=1) (b:=nb%8) T w0;have z1:=λ{d}{k}=>z1o (d+8) k;have P1:=P0.fresh f1;obtain⟨G2,O',z2o,hd⟩:=U6 T hc F hp (P1.vpo I) hfu;have z2:=λ{d}{k}=>z2o d k;obtain⟨vl',vs',vi',P2,s2⟩:=P1.vop hd;obtain⟨G3,z3o,f3⟩:=jV (cp:=aO Tryz.prog) (fuel:=fuel) (a:=1) (b:=nb%8) T P2.cS.wf;have z3:=λ{d}{k}=>z3o (d+8) k;have P3:=P2.fresh f3;obtain⟨G4,z4o,s4,C4⟩:=HE (cp:=aO Tryz.prog) (fuel:=fuel) T P3.ch (by omega);have z4:=λ{d}{k}=>z4o (d+5) k;obtain⟨P4,s4'⟩:=P3.cop s4 C4;refine⟨G4,O',vl',vs',vi',v,λd k=>?_,P4,(f0.trans f1).step.trans (s2.trans (f3.step.trans s4'))⟩;rw[aJ T.Vb rfl rfl];simp only[aY]at z2 z4;have e1:nb%18446744073709551616=nb:=by omega
 have e2:nb%8%18446744073709551616=nb%8:=by omega
 have rm:∀{id}{f},gk id (.rem 256) kd 6 f=f (kd%6):=λ{id f}=>iC hkd (by omega) (by omega);have rn:∀{id}{f},gk id (.rem 9223372036854775808) nb 8 f=f (nb%8):=λ{id f}=>iC (by omega) (by omega) (by omega);simp only[go_sem,↓aa,reduceCtorEq,ZA,ZB,ZC,ZD,ZE,ZF,ZG,ZH,↓reduceIte,↓aE,Xu,tY,tZ,w,hG0,p0,↓rm,↓rn,hk,hkd,hnb,e1,e2,↓z1,↓z2,↓z3,↓z4]
theorem Xe(T:aB t)(hc:aP t)(F:bH pk unpk)(hp:t 110=some (.nat (dj pk)))(P:PD H X dp vp p A O m vl vs vi false c v)(I:VI pk A a n us m c0){kd nb lt next:Nat}(hk:kd%6=0\/kd%6=1)(hkd:kd<256)(hnb:nb<256)(hlt:lt<256)(hfu:1000000<fuel):lR pk t fuel H X dp vp p a A O m v kd nb lt next (Uj m A.len (nb%9) (dT (lt%200))) (JO c (nb%9) (dT (lt%200)),if nb%9<c.size/\(32:Nat)=32then 0 else 2):=by
 obtain⟨G0,hG0,f0,p0,n0⟩:=Heap.aW P.cS.wf (.cells [.int 4 kd,.int 4 nb,.int 4 lt]);have P0:=P.fresh f0;have w:=P.cS.wf;have w0:=f0.wf;obtain⟨G1,z1o,f1⟩:=tg (cp:=aO Tryz.prog) (fuel:=fuel) (c:=lt%200) T w0 (by omega) (by omega);have z1:=λ{d}{k}=>z1o (d+8) k;clear z1o;have P1:=P0.fresh f1;obtain⟨G2,O',z2o,hd⟩:=T3 T hc F hp (P1.vpo I) I.ok I.l8 (b:=nb%9) (by omega) hfu;have z2:=λ{d}{k}=>z2o d k;clear z2o;obtain⟨vl',vs',vi',P2,s2⟩:=P1.vop hd;obtain⟨G3,z3o,f3⟩:=tg (cp:=aO Tryz.prog) (fuel:=fuel) (c:=lt%200) T P2.cS.wf (by omega) (by omega);have z3:=λ{d}{k}=>z3o (d+8) k;clear z3o;have P3:=P2.fresh f3;have hq:nn (nb%9):=by unfold nn;omega
 obtain⟨G4,z4o,s4,C4⟩:=DW (cp:=aO Tryz.prog) (fuel:=fuel) (l:=32) T P3.ch hq (by omega);have z4:=λ{d}{k}=>z4o (d+7) k;clear z4o;obtain⟨P4,s4'⟩:=P3.cop s4 C4;have hx:H.n<G0.n:=by omega
 have hX:=λh=>YC3 _ (P.lt _ h);have m1:=f1.n;have m2:=s2.n;have m3:=f3.n;have q1:=f1.same _ hx;have t2:=s2.same H.n (by omega) hX;have q2:=t2.1;have q3:G3.get H.n=G2.get H.n:=f3.same _ (by omega);have q4:=(s4'.same _ (by omega) t2.2).1;have p1:=q1.trans p0;have p2:=q2.trans p1;have p3:=q3.trans p2;have hN:∀{G:Heap},G.get H.n=.cells [.int 4 kd,.int 4 nb,.int 4 lt]->Um (G.get H.n):=λh=>⟨_,h,λv hv=>by rcases YS.1 hv with rfl|hv;exact⟨_,_,rfl⟩;rcases YS.1 hv with rfl|hv;exact⟨_,_,rfl⟩;rw[YL.1 hv];exact⟨_,_,rfl⟩⟩;refine⟨G4,O',vl',vs',vi',v,λd k=>?_,P4,(f0.trans f1).step.trans (s2.trans (f3.step.trans s4'))⟩;have e1:nb%18446744073709551616=nb:=by omega
 have rm:∀{id}{f},gk id (.rem 256) kd 6 f=f (kd%6):=λ{id f}=>iC hkd (by omega) (by omega);have rn:∀{id}{f},gk id (.rem 9223372036854775808) nb 9 f=f (nb%9):=λ{id f}=>iC (by omega) (by omega) (by omega);have rl:∀{id}{f},gk id (.rem 256) lt 200 f=f (lt%200):=λ{id f}=>iC (by omega) (by omega) (by omega);rw[aJ T.Vb rfl rfl]
 rcases hk with hk|hk;.simp only[go_sem,↓aa,reduceCtorEq,ZA,ZB,ZC,ZD,ZE,ZF,ZG,ZH,↓reduceIte,↓aE,Xu,tY,tZ,w,hG0,p0,↓rm,↓rn,↓rl,hk,hkd,hnb,e1,Ei,fV];refine(rY (o:=2) (v:=.int 4 lt) rfl hx (λk=>by simp only[go_sem,↓aa,reduceCtorEq,ZA,ZB,ZC,ZD,ZE,ZF,ZG,ZH,↓reduceIte,p0]) (λk=>kM (hN p0) λG hG=>by cases hG)).trans ?_;simp only[go_sem,↓aa,reduceCtorEq,ZA,ZB,ZC,ZD,ZE,ZF,ZG,ZH,↓reduceIte,fV,↓rl];refine(jk (v:=.str 32 (enc (eG (lt%200) 32))) (H':=G1) (λk=>by simp only[go_sem,↓aa,reduceCtorEq,ZA,ZB,ZC,ZD,ZE,ZF,ZG,ZH,↓reduceIte,↓z1]) (λk=>eQ λb hb=>by rw[YL.1 hb];exact⟨hN p0,q1⟩)).trans ?_;refine(jk (v:=.int 3 ((Uj m A.len (nb%9) (dT (lt%200))).E pk A a)) (H':=G2) (λk=>by simp only[go_sem,↓aa,reduceCtorEq,ZA,ZB,ZC,ZD,ZE,ZF,ZG,ZH,↓reduceIte,↓z2]) (λk=>eQ λb hb=>by rw[YL.1 hb];exact⟨hN p1,q2⟩)).trans ?_;simp only[go_sem,↓aa,reduceCtorEq,ZA,ZB,ZC,ZD,ZE,ZF,ZG,ZH,↓reduceIte,fV,↓rn,e1];refine(rY (o:=2) (v:=.int 4 lt) rfl hx (λk=>by simp only[go_sem,↓aa,reduceCtorEq,ZA,ZB,ZC,ZD,ZE,ZF,ZG,ZH,↓reduceIte,p2]) (λk=>kM (hN p2) λG hG=>by
   rcases YS.1 hG with rfl|hG;.exact q2.symm
   .rw[YL.1 hG];exact(q2.trans q1).symm)).trans ?_;simp only[go_sem,↓aa,reduceCtorEq,ZA,ZB,ZC,ZD,ZE,ZF,ZG,ZH,↓reduceIte,fV,↓rl];refine(jk (v:=.str 32 (enc (eG (lt%200) 32))) (H':=G3) (λk=>by simp only[go_sem,↓aa,reduceCtorEq,ZA,ZB,ZC,ZD,ZE,ZF,ZG,ZH,↓reduceIte,↓z3]) (λk=>eQ λb hb=>by
   have hb':b=H.n:=by rcases YS.1 hb with rfl|hb;rfl;exact YL.1 hb
   rw[hb'];exact⟨hN p2,q3⟩)).trans ?_;refine(jk (v:=.int 3 (if nb%9<c.size/\(32:Nat)=32then 0 else 2)) (H':=G4) (λk=>by simp only[go_sem,↓aa,reduceCtorEq,ZA,ZB,ZC,ZD,ZE,ZF,ZG,ZH,↓reduceIte,↓z4]) (λk=>eQ λb hb=>by
   have hb':b=H.n:=by rcases YS.1 hb with rfl|hb;rfl;exact YL.1 hb
   rw[hb'];exact⟨hN p3,q4⟩)).trans ?_;simp only[go_sem,↓aa,reduceCtorEq,ZA,ZB,ZC,ZD,ZE,ZF,ZG,ZH,↓reduceIte,fV,wV]
 .simp only[go_sem,↓aa,reduceCtorEq,ZA,ZB,ZC,ZD,ZE,ZF,ZG,ZH,↓reduceIte,↓aE,Xu,tY,tZ,w,hG0,p0,↓rm,↓rn,↓rl,hk,hkd,hnb,e1,Ei,fV];refine(rY (o:=2) (v:=.int 4 lt) rfl hx (λk=>by simp only[go_sem,↓aa,reduceCtorEq,ZA,ZB,ZC,ZD,ZE,ZF,ZG,ZH,↓reduceIte,p0]) (λk=>kM (hN p0) λG hG=>by cases hG)).trans ?_;simp only[go_sem,↓aa,reduceCtorEq,ZA,ZB,ZC,ZD,ZE,ZF,ZG,ZH,↓reduceIte,fV,↓rl];refine(jk (v:=.str 32 (enc (eG (lt%200) 32))) (H':=G1) (λk=>by simp only[go_sem,↓aa,reduceCtorEq,ZA,ZB,ZC,ZD,ZE,ZF,ZG,ZH,↓reduceIte,↓z1]) (λk=>eQ λb hb=>by rw[YL.1 hb];exact⟨hN p0,q1⟩)).trans ?_;refine(jk (v:=.int 3 ((Uj m A.len (nb%9) (dT (lt%200))).E pk A a)) (H':=G2) (λk=>by simp only[go_sem,↓aa,reduceCtorEq,ZA,ZB,ZC,ZD,ZE,ZF,ZG,ZH,↓reduceIte,↓z2]) (λk=>eQ λb hb=>by rw[YL.1 hb];exact⟨hN p1,q2⟩)).trans ?_;simp only[go_sem,↓aa,reduceCtorEq,ZA,ZB,ZC,ZD,ZE,ZF,ZG,ZH,↓reduceIte,fV,↓rn,e1];refine(rY (o:=2) (v:=.int 4 lt) rfl hx (λk=>by simp only[go_sem,↓aa,reduceCtorEq,ZA,ZB,ZC,ZD,ZE,ZF,ZG,ZH,↓reduceIte,p2]) (λk=>kM (hN p2) λG hG=>by
   rcases YS.1 hG with rfl|hG;.exact q2.symm
   .rw[YL.1 hG];exact(q2.trans q1).symm)).trans ?_;simp only[go_sem,↓aa,reduceCtorEq,ZA,ZB,ZC,ZD,ZE,ZF,ZG,ZH,↓reduceIte,fV,↓rl];refine(jk (v:=.str 32 (enc (eG (lt%200) 32))) (H':=G3) (λk=>by simp only[go_sem,↓aa,reduceCtorEq,ZA,ZB,ZC,ZD,ZE,ZF,ZG,ZH,↓reduceIte,↓z3]) (λk=>eQ λb hb=>by
   have hb':b=H.n:=by rcases YS.1 hb with rfl|hb;rfl;exact YL.1 hb
   rw[hb'];exact⟨hN p2,q3⟩)).trans ?_;refine(jk (v:=.int 3 (if nb%9<c.size/\(32:Nat)=32then 0 else 2)) (H':=G4) (λk=>by simp only[go_sem,↓aa,reduceCtorEq,ZA,ZB,ZC,ZD,ZE,ZF,ZG,ZH,↓reduceIte,↓z4]) (λk=>eQ λb hb=>by
   have hb':b=H.n:=by rcases YS.1 hb with rfl|hb;rfl;exact YL.1 hb
   rw[hb'];exact⟨hN p3,q4⟩)).trans ?_;simp only[go_sem,↓aa,reduceCtorEq,ZA,ZB,ZC,ZD,ZE,ZF,ZG,ZH,↓reduceIte,fV,wV]
structure NI(m:MT)(next:Nat):Prop where
 tok:m.tok=rz
 g:∀s∈m.ae,s.g.1=1/\s.g.2<next
theorem NI.OZ{m:MT}{next:Nat}(h:NI m next)(h1:0<next):eg (1,next) (cW m).g=true:=by
 rcases hn:m.ae.length with _|q;.rw[fN hn];show eg (1,next) (0,0)=true;simp[eg]
 .have hs:m.ae[q]?=some m.ae[q]:=YA (by omega);rw[ev hs hn];obtain⟨g1,g2⟩:=h.g _ (YQ (by omega:q<m.ae.length));simp[eg,g1,g2]
def AQ(m:MT)(next:Nat):Tk:=⟨(cW m).g,(1,next),1,1,[]⟩
theorem TD{next b}{d}(N:NI m next)(h1:0<next)(hn:next<1000)(h8:m.live.length=8)(hb:b<8)(hd:d.1=32)(hk:sI d):Li m (AQ m next) [(b,d)]:=⟨rfl,N.OZ h1,⟨by show 1<18446744073709551616;omega,by show next<18446744073709551616;omega⟩,by show 1<=_;omega,YC 1,by rfl,by rw[h8];exact rA.one hb hd hk⟩
theorem K8{next}(N:NI m next):qz m (AQ m next)=(cW m).bR:=by unfold qz;rw[if_neg];intro h;have:=h.2.1;rw[N.tok]at this;exact absurd (congrArg Prod.fst this) (by show¬(0:Nat)=1;omega)
theorem Tv(T:aB t)(hc:aP t)(F:bH pk unpk)(hp:t 110=some (.nat (dj pk)))(P:PD H X dp vp p A O m vl vs vi false c v)(I:VI pk A a n us m c0)(hl:m.ae.length<900)(hs:c.size=8){b lt next}(hb:b<8)(N:NI m next)(h1:0<next)(hnx:next<1000){vx}(hX:Row H (PQ vp p O v) vx 2 1 [.int 3 b,.str 32 (enc (eG lt 32))])(hfu:1000000<fuel):∃G7 G8 G9 O' vl' vs' vi' v',(∀(d)(k),aj (aU (aO Tryz.prog) t fuel (d+9)) (.func 32 []) [.ptr vp 0,.agg (bB (AQ m next) .aD),vx] H k=k (.int 3 ((Ox m A.len (AQ m next) [(b,dT lt)]).E pk A a)) G7)/\(∀(d)(k),aj (aU (aO Tryz.prog) t fuel (d+9)) (.func 28 []) [.int 7 1,.int 7 next] G7 k=k (.agg [.int 7 1,.int 7 next]) G8)/\(∀(d)(k),aj (aU (aO Tryz.prog) t fuel (d+9)) (.func 36 []) [.ptr p 0,.agg [.int 7 1,.int 7 next],vx] G8 k=k (.int 3 (dY c (1,next))) G9)/\PD G9 X dp vp p ((Ox m A.len (AQ m next) [(b,dT lt)]).A1 pk A a) O' ((Ox m A.len (AQ m next) [(b,dT lt)]).M pk A a m) vl' vs' vi' ((Ox m A.len (AQ m next) [(b,dT lt)]).L pk A a) (T9 c (1,next) [(b,dT lt)]) v'/\Step H (PQ vp p O v) G9 (PQ vp p O' v'):=by have hg:jW (1,next):=⟨by simp,by omega⟩;have Z:=TD N h1 hnx I.l8 hb rfl (D7 lt);obtain⟨G7,O',z7,hd⟩:=TB (y:=.aD) T hc F hp (P.vpo I) I.ok I.l8 Z (xH I.B3) rfl (hX.nv λb _ h=>YD h) (by simp) (by rw[K8 N];exact oR I.ok I.l8) hl hfu;obtain⟨vl',vs',vi',P7,s7⟩:=P.vop hd;obtain⟨G8,z8o,f8⟩:=jV T P7.cS.wf;have P8:=P7.fresh f8;obtain⟨G9,v',z9o,s9,C9⟩:=LX (fuel:=fuel) (cs:=[(b,dT lt)]) T P8.ch hg ((hX.cz s7).fresh f8) (by simp) (by rw[hs];exact rA.one hb rfl (D7 lt)) (by omega);obtain⟨P9,s9'⟩:=P8.cop s9 C9;exact⟨G7,G8,G9,O',vl',vs',vi',v',z7,λd k=>z8o (d+8) k,λd k=>z9o (d+5) k,P9,s7.trans (f8.step.trans s9')⟩
theorem Xc(T:aB t)(hc:aP t)(F:bH pk unpk)(hp:t 110=some (.nat (dj pk)))(P:PD H X dp vp p A O m vl vs vi false c v)(I:VI pk A a n us m c0)(hl:m.ae.length<900)(hs:c.size=8){kd nb lt next:Nat}(N:NI m next)(h1:0<next)(hnx:next<1000)(hk:kd%6=5)(hkd:kd<256)(hnb:nb<256)(hlt:lt<256)(hfu:1000000<fuel):lR pk t fuel H X dp vp p a A O m v kd nb lt next (Ox m A.len (AQ m next) [(nb%8,dT (lt%200))]) (T9 c (1,next) [(nb%8,dT (lt%200))],dY c (1,next)):=by
 have w:=P.cS.wf;obtain⟨G0,hG0,f0,p0,n0⟩:=Heap.aW w (.cells [.int 4 kd,.int 4 nb,.int 4 lt]);have P0:=P.fresh f0;have w0:=f0.wf;obtain⟨Ga,hGa,fa,pa,na⟩:=Heap.aW w0 (.cells [.int 3 (nb%8),.int 4 (lt%200)]);have Pa:=P0.fresh fa;have hq:nn (nb%8):=by unfold nn;omega
 obtain⟨G1,vx,z1o,f1,o1⟩:=yH (cp:=aO Tryz.prog) (fuel:=fuel) (cx:=2) (sx:=0) T fa.wf pa (by omega) hq (by omega) (by omega);have z1:=λ{d:Nat}{k:K}=>z1o (d+7) k;clear z1o;have P1:=Pa.fresh f1;have w1:=f1.wf;have hX1:Row G1 (PQ vp p O v) vx 2 1 [.int 3 (nb%8),.str 32 (enc (eG (lt%200) 32))]:=o1.toRow Pa.lt;obtain⟨G2,z2o,f2⟩:=jV (cp:=aO Tryz.prog) (fuel:=fuel) (a:=1) (b:=next) T w1;have z2:=λ{d:Nat}{k:K}=>z2o (d+8) k;clear z2o;have w2:=f2.wf;obtain⟨G3,hG3,f3,p3,n3⟩:=Heap.aW w2 (.cells [.int 7 0,.int 7 0,.int 7 0,.int 7 0,.int 3 0,.int 3 0,.aD]);have w3:=f3.wf;have b3:G2.n<G3.n:=by omega
 obtain⟨G4,hG4,f4,p4,n4,w4,k4⟩:=Heap.bj (b:=G2.n) f3 (YC _) b3 (.cells [.int 7 0,.int 7 0,.int 7 1,.int 7 next,.int 3 1,.int 3 1,.aD]);have f24:=f2.trans f4;have P4:=P1.fresh f24;obtain⟨G5,vL,z5o,f5,o5⟩:=yq (cp:=aO Tryz.prog) (fuel:=fuel) T (P4.vpo I) (by omega);have z5:=λ{d:Nat}{k:K}=>z5o (d+8) k;clear z5o;have P5:=P4.fresh f5;have w5:=f5.wf;have p5:G5.get G2.n=.cells [.int 7 0,.int 7 0,.int 7 1,.int 7 next,.int 3 1,.int 3 1,.aD]:=(f5.same _ (by omega)).trans p4;have b5:G2.n<G5.n:=by have:=f5.n;omega
 have jx:=λ{id:Nat}{k:R}=>aN o1.one (id:=id) (k:=k);have sL:=λ{id:Nat}{f:Nat->R}=>o5.sn (id:=id) (f:=f);have c9:m.ae.length<9223372036854775808:=by omega
 have e1:nb%18446744073709551616=nb:=by omega
 have e3:lt<256:=hlt;have rm:∀{id:Nat}{f:Nat->R},gk id (.rem 256) kd 6 f=f (kd%6):=λ{id f}=>iC hkd (by omega) (by omega);have rn:∀{id:Nat}{f:Nat->R},gk id (.rem 9223372036854775808) nb 8 f=f (nb%8):=λ{id f}=>iC (by omega) (by omega) (by omega);have rl:∀{id:Nat}{f:Nat->R},gk id (.rem 256) lt 200 f=f (lt%200):=λ{id f}=>iC (by omega) (by omega) (by omega);have s04:ah H G1:=f0.trans (fa.trans f1);by_cases h0:m.ae.length=0
 .have hst:AQ m next=⟨(0,0),(1,next),1,1,[]⟩:=by unfold AQ;rw[fN h0]
  obtain⟨G7,G8,G9,O',vl',vs',vi',v',z7,z8,z9,P9,s9⟩:=Tv T hc F hp P5 I hl hs (lt:=lt%200) (by omega:nb%8<8) N h1 hnx ((hX1.fresh f24).fresh f5) hfu;refine⟨G9,O',vl',vs',vi',v',λd k=>?_,P9,(s04.trans (f24.trans f5)).step.trans s9⟩;have z7:=λ{d:Nat}{k:K}=>z7 d k;have z8:=λ{d:Nat}{k:K}=>z8 d k;have z9:=λ{d:Nat}{k:K}=>z9 d k;rw[hst]at z7⊢;simp only[bB]at z7;rw[aJ T.Vb rfl rfl];simp only[go_sem,↓aa,reduceCtorEq,ZA,ZB,ZC,ZD,ZE,ZF,ZG,ZH,↓reduceIte,↓aE,Xu,tY,tZ,w,hG0,p0,↓rm,hk,hkd,hnb,e1];simp only[go_sem,↓aa,reduceCtorEq,ZA,ZB,ZC,ZD,ZE,ZF,ZG,ZH,↓reduceIte,↓aE,Pp,Pq,Pr,p0,w0,hGa,↓rn,↓rl,↓z1,↓jx,↓z2,w2,hG3,p3,b3,w3,hG4,↓z5];simp only[go_sem,↓aa,reduceCtorEq,ZA,ZB,ZC,ZD,ZE,ZF,ZG,ZH,↓reduceIte,↓aE,Ps,↓sL,c9,h0,Pt,Pu,p5,↓z7,↓z8,↓z9]
 .obtain⟨q,hqn⟩:∃q,m.ae.length=q+1:=⟨m.ae.length-1,by omega⟩;have hqs:m.ae[q]?=some m.ae[q]:=YA (by omega);have hgi:(m.ae.map (·.g))[q]?=some m.ae[q].g:=by rw[Ys,hqs];rfl
  have hlg:(cW m).g=m.ae[q].g:=by rw[ev hqs hqn]
  have hst:AQ m next=⟨m.ae[q].g,(1,next),1,1,[]⟩:=by unfold AQ;rw[hlg]
  have hL:=o5.toRow (O:=λ_=>False) λb h=>h.elim;obtain⟨bL,oL,cL,zL,hvL,hbL,-,hrL⟩:=hL.open (i:=q) (by omega);rw[rX hgi]at hrL;have hrL:=λ{id:Nat}{k:List V->R}=>(hrL (G:=G5) rfl).1 (id:=id) (k:=k);generalize m.ae[q].g=g at hrL hst;simp only[aY]at hrL;subst hvL;obtain⟨G6,hG6,f6,p6,n6,w6,k6⟩:=Heap.bj (b:=G2.n) (f4.trans f5) (YC _) b5 (.cells [.int 7 g.1,.int 7 g.2,.int 7 1,.int 7 next,.int 3 1,.int 3 1,.aD]);have f26:=f2.trans f6;obtain⟨G7,G8,G9,O',vl',vs',vi',v',z7,z8,z9,P9,s9⟩:=Tv T hc F hp (P1.fresh f26) I hl hs (lt:=lt%200) (by omega:nb%8<8) N h1 hnx (hX1.fresh f26) hfu;refine⟨G9,O',vl',vs',vi',v',λd k=>?_,P9,(s04.trans f26).step.trans s9⟩;have z7:=λ{d:Nat}{k:K}=>z7 d k;have z8:=λ{d:Nat}{k:K}=>z8 d k;have z9:=λ{d:Nat}{k:K}=>z9 d k;rw[hst]at z7⊢;simp only[bB]at z7;have h0':(m.ae.length=0)=False:=eq_false h0;have a1:(m.ae.length+18446744073709551615)%18446744073709551616=q:=by omega
  have a2:q<9223372036854775808:=by omega
  have a3:q<m.ae.length:=by omega
  have a4:nn q:=by unfold nn;omega
  have a5:0<m.ae.length:=by omega
  rw[aJ T.Vb rfl rfl];simp only[go_sem,↓aa,reduceCtorEq,ZA,ZB,ZC,ZD,ZE,ZF,ZG,ZH,↓reduceIte,↓aE,Xu,tY,tZ,w,hG0,p0,↓rm,hk,hkd,hnb,e1];simp only[go_sem,↓aa,reduceCtorEq,ZA,ZB,ZC,ZD,ZE,ZF,ZG,ZH,↓reduceIte,↓aE,Pp,Pq,Pr,p0,w0,hGa,↓rn,↓rl,↓z1,↓jx,↓z2,w2,hG3,p3,b3,w3,hG4,↓z5];simp only[go_sem,↓aa,reduceCtorEq,ZA,ZB,ZC,ZD,ZE,ZF,ZG,ZH,↓reduceIte,↓aE,Ps,↓sL,c9,h0',a1,a2,a3,a4,a5,↓hrL,p5,w5,b5,hG6];simp only[go_sem,↓aa,reduceCtorEq,ZA,ZB,ZC,ZD,ZE,ZF,ZG,ZH,↓reduceIte,↓aE,Pt,Pu,p6,↓z7,↓z8,↓z9]
end
end Go.Ev
end
section
namespace Go.Ev
open Go.Proofs
theorem ke.e0{A:AD}{m:MT}{e:Nat}{o:kS}{c:CH}(h:ke A m ⟨e,o.m1,o.bw⟩ c):ke A m o c:=⟨h.ok,h.B3,h.l8,h.bw,h.nd,h.len,h.s8,h.ag⟩
theorem NI.mono{m:MT}{a b:Nat}(h:NI m a)(hab:a<=b):NI m b:=⟨h.tok,λs hs=>⟨(h.g s hs).1,YE (h.g s hs).2 hab⟩⟩
def nT(A:AD)(m:MT)(c:CH)(o:kS)(r:CH×Nat)(next:Nat):Prop:=(o.e0≠0/\o.e0≠7/\r=(c,o.e0))\/o.e0=7\/(o.e0=0/\r.2=0/\ke A m o r.1/\NI o.m1 next)
section
variable{pk:List UInt8->List (List UInt8)}{A:AD}{a n:Nat}{us:List Wr}{m:MT}{c:CH}{next:Nat}
theorem Xl(I:VI pk A a n us m c)(N:NI m next){b}{d}(hd:d.1=32)(hk:sI d):nT A m c (Uj m A.len b d) (JO c b d,if b<c.size/\(32:Nat)=32then 0 else 2) next:=by
 have hs:=I.s8;unfold nT Uj;by_cases hb:b<8
 .by_cases hf:iR m A.len b d;.simp_all
  .right;right;refine⟨by simp_all,by simp_all,(JQ I hb hd hk hf).e0,N.tok,N.g⟩
 .have:JO c b d=c:=by unfold JO;rw[if_neg (by omega)]
  simp_all
theorem W6(I:VI pk A a n us m c)(N:NI m next)(h1:0<next)(hn:next<1000):nT A m c (Zp m (1,next)) (zu c (1,next),dY c (1,next)) (next+1):=by
 have hab:=N.OZ h1;have hl:=I.last.1;have hlen:=I.ag.len;unfold nT Zp;by_cases h20:20<=m.ae.length
 .have hx:dY c (1,next)=3:=by unfold dY;simp_all
  have:zu c (1,next)=c:=by unfold zu;simp_all
  simp_all
 .right;right;have hx:dY c (1,next)=0:=by unfold dY;simp_all
  refine⟨by simp_all,hx,(N0 I ⟨by simp,by omega⟩ hab (by omega)).e0,rfl,λs hs=>?_⟩;rcases Yo.1 (show s∈m.ae++[⟨(1,next),m.live,false⟩]from hs)with hs|hs;.exact⟨(N.g s hs).1,by have:=(N.g s hs).2;omega⟩
  simp_all
theorem VQ(I:VI pk A a n us m c)(N:NI m next){q}:nT A m c (Zk m q) (Uf c q,if c.ae.length<q then 2 else 0) next:=by
 have hlen:=I.ag.len;unfold nT Zk;by_cases hq:m.ae.length<q
 .have:Uf c q=c:=by unfold Uf;simp_all
  simp_all
 .right;right;exact⟨by simp_all,by simp_all,(zj I (by omega)).e0,rfl,λs hs=>N.g s (WI hs)⟩
theorem wX(m)(g):(cU m g).2≠7:=by
 unfold cU;split;.simp
 .split;.simp
  simp
theorem U5(I:VI pk A a n us m c)(N:NI m next){g}:nT A m c (hiO m g) (Ue c g,(og c g).2) next:=by
 have hf:=I.ag.find g;unfold nT hiO;by_cases h0:(cU m g).2=0
 .right;right;refine⟨h0,by simp_all,(MZ I h0).e0,N.tok,λs hs=>?_⟩;obtain⟨i,hi,hr,-⟩:=kz h0;have hs:=hs;rw[hr]at hs;have hsi:=YA hi;have hm:(EI m i).ae=m.ae.set i {m.ae[i]with hid:=true}:=by unfold EI;simp_all
  rw[hm]at hs;rcases Wl hs with hs|rfl;.exact N.g s hs
  .exact N.g m.ae[i] (YQ hi)
 .left;have:Ue c g=c:=by unfold Ue;simp_all
  exact⟨h0,wX m g,by simp_all⟩
theorem W0(I:VI pk A a n us m c)(N:NI m next)(h1:0<next)(hn:next<1000){b}{d}(hb:b<8)(hd:d.1=32)(hk:sI d):nT A m c (Ox m A.len (AQ m next) [(b,d)]) (T9 c (1,next) [(b,d)],dY c (1,next)) (next+1):=by
 have hab:=N.OZ h1;have hl:=I.last;have hlen:=I.ag.len;have hL:=K8 N;unfold nT Ox;by_cases h20:20<=m.ae.length
 .have hx:dY c (1,next)=3:=by unfold dY;simp_all
  have:T9 c (1,next) [(b,d)]=c:=by unfold T9;simp_all
  have hr:yv m (AQ m next)=3:=by unfold yv;rw[if_pos ⟨rfl,h20⟩]
  simp_all
 .have hr:yv m (AQ m next)=0:=by unfold yv;simp_all
  by_cases hf:kN m A.len [(b,d)];.simp_all
  .right;right;have hx:dY c (1,next)=0:=by unfold dY;simp_all
   have hfin:¬(AQ m next).next<(AQ m next).all:=YC3 1;have G:=Jr I (TD N h1 hn I.l8 hb hd hk) hfin (by omega) hf (by rw[hL];exact oR I.ok I.l8) (by rw[hL];exact Sj) (by simp) (bv:=GL c [(b,d)]) (by rw[hL,hl.2];rfl);have hc:T9 c (1,next) [(b,d)]={c with ae:=c.ae++[⟨GL c [(b,d)],(1,next),false⟩],live:=GL c [(b,d)]}:=by unfold T9;simp_all
   refine⟨by simp_all,hx,by rw[hc];exact ke.e0 G,?_⟩;refine⟨rfl,λs hs=>?_⟩;rcases Yo.1 hs with hs|hs;.exact⟨(N.g s hs).1,by have:=(N.g s hs).2;omega⟩
   .rw[YL.1 hs];exact⟨rfl,Nat.lt_succ_self _⟩
theorem ab3.len{tk:Tk}{last:Gd}{k:Nat}(h:qF tk last 8 k):tk.bR.length<=8:=by
 unfold qF at h;split at h;.rw[h.2.2.2];exact Ya _
 .exact YR0 h.2.2.2.2.2.len
theorem KA{k}:∀{L:List (List Nat)},(∀l∈L,l.length<=k)->L.flatten.length<=L.length*k|[],_=>Ya _|l::L,h=>by have h1:=h l (YM ..);have h2:=KA λx hx=>h x (YI _ hx);rw[WO,YB,YG,Wf];omega
theorem Cj(I:fU m 8 400):20<=(cH (eF m 400)).length:=by
 have h1:((WZ 400).filter λi=>decide (193<=i)).length=207:=by rfl
 have hnd:((WZ 400).filter λi=>decide (193<=i)).Nodup:=List.Pairwise.filter _ YJ4;have hsub:((WZ 400).filter λi=>decide (193<=i))⊆cH (eF m 400)++(db m).flatten:=λi hi=>by
  rw[Wo,QV,decide_eq_true_eq]at hi;by_cases hc:(nz (db m).flatten).count i=0;.refine QJ _ ?_;unfold cH;rw[Wo,QV,decide_eq_true_eq];unfold eF;rw[dB,om hi.1,hc];simp_all
  .refine List.mem_append_right _ ?_;have:=Classical.byContradiction λh=>hc (YD2.2 h);exact(SH.1 this).1
 have hle:=List.Nodup.length_le_of_subset hnd hsub;have hfl:(db m).flatten.length<=(db m).length*8:=KA λl hl=>by
  unfold db at hl;rcases YS.1 hl with rfl|hl;.exact YR0 I.live.len
  rcases YS.1 hl with rfl|hl;.exact ab3.len I.tok
  .obtain⟨s,hs,rfl⟩:=Yk.1 hl;exact YR0 (I.ae.mem hs).len
 have h3:(db m).length=m.ae.length+2:=by unfold db;simp
 have:=I.num;rw[YB,h1]at hle;omega
end
end Go.Ev
end
section
namespace Go.Ev
open Go.Proofs
def yb(n:Nat)(m:MT)(kd nb lt next:Nat):kS:=if kd%6=0\/kd%6=1then Uj m n (nb%9) (dT (lt%200))else if kd%6=2then Zp m (1,next)else if kd%6=3then Zk m (nb%6)else if kd%6=4then hiO m (1,nb%8)else Ox m n (AQ m next) [(nb%8,dT (lt%200))]
def K7(c:CH)(kd nb lt next:Nat):CH×Nat:=if kd%6=0\/kd%6=1then(JO c (nb%9) (dT (lt%200)),if nb%9<c.size/\(32:Nat)=32then 0 else 2)else if kd%6=2then(zu c (1,next),dY c (1,next))else if kd%6=3then(Uf c (nb%6),if c.ae.length<nb%6then 2 else 0)else if kd%6=4then(Ue c (1,nb%8),(og c (1,nb%8)).2)else(T9 c (1,next) [(nb%8,dT (lt%200))],dY c (1,next))
section
variable{t:Nat->Option df}{fuel:Nat}{H:Heap}{pk:List UInt8->List (List UInt8)}{unpk:List (List UInt8)->Option (List UInt8)}
variable{X:Nat->Prop}{dp vp p a n:Nat}{A:AD}{O:Nat->Prop}{m:MT}{vl vs vi v:V}{c:CH}{us:List Wr}
theorem TC(T:aB t)(hc:aP t)(F:bH pk unpk)(hp:t 110=some (.nat (dj pk)))(P:PD H X dp vp p A O m vl vs vi false c v)(I:VI pk A a n us m c){kd nb lt next}(N:NI m next)(h1:0<next)(hnx:next<1000)(hkd:kd<256)(hnb:nb<256)(hlt:lt<256)(hfu:1000000<fuel):lR pk t fuel H X dp vp p a A O m v kd nb lt next (yb A.len m kd nb lt next) (K7 c kd nb lt next)/\nT A m c (yb A.len m kd nb lt next) (K7 c kd nb lt next) (next+1):=by
 have hl:m.ae.length<900:=by have:=I.ok.num;omega
 have N':=N.mono (Nat.le_succ next);unfold yb K7;by_cases k0:kd%6=0\/kd%6=1;.rw[if_pos k0,if_pos k0];exact⟨Xe T hc F hp P I k0 hkd hnb hlt hfu,Xl I N' rfl (D7 _)⟩
 rw[if_neg k0,if_neg k0];by_cases k2:kd%6=2;.rw[if_pos k2,if_pos k2];exact⟨Xd T hc F hp P I hl k2 hkd hnb hnx hfu,W6 I N h1 hnx⟩
 rw[if_neg k2,if_neg k2];by_cases k3:kd%6=3;.rw[if_pos k3,if_pos k3];exact⟨Xb T hc F hp P I k3 hkd hnb hfu,VQ I N'⟩
 rw[if_neg k3,if_neg k3];by_cases k4:kd%6=4;.rw[if_pos k4,if_pos k4];exact⟨Xa T hc F hp P I k4 hkd hnb hfu,U5 I N'⟩
 rw[if_neg k4,if_neg k4];exact⟨Xc T hc F hp P I hl I.s8 N h1 hnx (by omega) hkd hnb hlt hfu,W0 I N h1 hnx (by omega) rfl (D7 _)⟩
def Un(pk:List UInt8->List (List UInt8))(t:Nat->Option df)(fuel:Nat)(H:Heap)(X:Nat->Prop)(dp vp p:Nat)(A:AD)(O:Nat->Prop)(m:MT)(c:CH)(v:V)(kd nb lt next:Nat):Prop:=∃H' A' O' vl' vs' vi' v' m' c' ch1 E F a' n' us',(∀(d:Nat)(k:K),aj (aU (aO Tryz.prog) t fuel (d+10)) (.func 20 []) [.ptr vp 0,.ptr p 0,.agg [.int 4 kd,.int 4 nb,.int 4 lt],.int 7 next] H k=k (.cG [.int 3 E,.int 3 F]) H')/\PD H' X dp vp p A' O' m' vl' vs' vi' false ch1 v'/\Step H (PQ vp p O v) H' (PQ vp p O' v')/\VI pk A' a' n' us' m' c'/\A'.bd=0/\A'.len=A.len/\A'.room=A.room/\NI m' (next+1)/\((E≠7/\E=F/\ch1=c')\/(E=7/\c'=c))/\(A.len=400->E≠7)
theorem VI.Cj(I:VI pk A a n us m c)(h:A.len=400):20<=(cH (eF m 400)).length:=Go.Ev.Cj (by have:=I.ok;rw[h]at this;exact this)
theorem Jv(I:VI pk A a n us m c)(h:A.len=400){kd nb lt next:Nat}:(yb A.len m kd nb lt next).e0≠7:=by
 have hr:=I.Cj h;unfold yb;split
 .unfold Uj;have:¬iR m A.len (nb%9) (dT (lt%200)):=λhf=>by unfold iR at hf;rw[h]at hf;have:=lJ [(nb%9,dT (lt%200))] 1;omega
  by_cases hb:nb%9<8<;>simp[hb,this]
 split
 .unfold Zp;show(if eg (1,next) (cW m).g=false then 2 else if 20<=m.ae.length then 3 else 0)≠7;split;.omega
  .split<;>omega
 split;.unfold Zk;show(if m.ae.length<nb%6then 2 else 0)≠7;split<;>omega
 split;.exact wX m _
 .unfold Ox;have:¬kN m A.len [(nb%8,dT (lt%200))]:=λhf=>by unfold kN at hf;rw[h]at hf;have:=lJ [(nb%8,dT (lt%200))] 1;have h2:[(nb%8,dT (lt%200))].length=1:=rfl;rw[h2]at hf;omega
  show(if yv m (AQ m next)≠0then yv m (AQ m next)else if kN m A.len [(nb%8,dT (lt%200))]then 7 else 0)≠7;rw[if_neg this];unfold yv;split<;>split<;>omega
theorem Gp(T:aB t)(hc:aP t)(F:bH pk unpk)(hp:t 110=some (.nat (dj pk)))(P:PD H X dp vp p A O m vl vs vi false c v)(I:VI pk A a n us m c)(hf:A.bd=0){kd nb lt next:Nat}(N:NI m next)(h1:0<next)(hnx:next<1000)(hkd:kd<256)(hnb:nb<256)(hlt:lt<256)(hfu:1000000<fuel):Un pk t fuel H X dp vp p A O m c v kd nb lt next:=by
 obtain⟨⟨H',O',vl',vs',vi',v',z,P',s⟩,hR⟩:=TC T hc F hp P I N h1 hnx hkd hnb hlt hfu;have hroom:A.len=400->(yb A.len m kd nb lt next).e0≠7:=λh=>Jv I h;have N':=N.mono (Nat.le_succ next);generalize yb A.len m kd nb lt next=o at z P' hR hroom;generalize K7 c kd nb lt next=r at z P' hR;rcases hR with⟨h0,h7,hr⟩|h7|⟨h0,hr,G,N1⟩
 .have e1:o.E pk A a=o.e0:=by unfold kS.E;simp_all
  have e2:o.A1 pk A a=A:=by unfold kS.A1;simp_all
  have e3:o.M pk A a m=m:=by unfold kS.M;simp_all
  have e4:o.L pk A a=false:=by unfold kS.L;simp_all
  rw[e1]at z;rw[e2,e3,e4]at P';subst hr;exact⟨H',A,O',vl',vs',vi',v',m,c,c,o.e0,o.e0,a,n,us,z,P',s,I,hf,rfl,rfl,N',YH ⟨h7,rfl,rfl⟩,λ_=>h7⟩
 .have h0:o.e0≠0:=by omega
  have e1:o.E pk A a=7:=by unfold kS.E;simp_all
  have e2:o.A1 pk A a=A:=by unfold kS.A1;simp_all
  have e3:o.M pk A a m=m:=by unfold kS.M;simp_all
  have e4:o.L pk A a=false:=by unfold kS.L;simp_all
  rw[e1]at z;rw[e2,e3,e4]at P';exact⟨H',A,O',vl',vs',vi',v',m,c,r.1,7,r.2,a,n,us,z,P',s,I,hf,rfl,rfl,N',YD ⟨rfl,rfl⟩,λh=>absurd h7 (hroom h)⟩
 .obtain⟨g1,g2,g3,g4,a',n',us',I'⟩:=G.done F I hf;have e1:o.E pk A a=0:=by unfold kS.E;simp_all
  have e2:o.A1 pk A a=(oh pk A a o.m1 o.bw).1:=by unfold kS.A1;simp_all
  have e3:o.M pk A a m=o.m1:=by unfold kS.M Km;simp_all
  have e4:o.L pk A a=false:=by unfold kS.L Ub;simp_all
  rw[e1,hr]at z;rw[e2,e3,e4]at P';exact⟨H',_,O',vl',vs',vi',v',o.m1,r.1,r.1,0,0,a',n',us',z,P',s,I',g2,g3,g4,N1,YH ⟨by omega,rfl,rfl⟩,λ_=>by omega⟩
end
end Go.Ev
end
section
namespace Go.Ev
open Go.Proofs
section
variable{cp:RC->au}{t:Nat->Option df}{fuel:Nat}{H H':Heap}{pk:List UInt8->List (List UInt8)}{unpk:List (List UInt8)->Option (List UInt8)}
variable{X:Nat->Prop}{dp vp p q a n:Nat}{A:AD}{O:Nat->Prop}{m:MT}{vl vs vi v v0:V}{c c0:CH}{us:List Wr}{lost:Bool}
theorem PD.new(S:VP H dp vp a n A O m vl vs vi)(f:ah H H')(C:ig H' q c v)(hq:∀b,CQ q v b->H.n<=b):PD H' (λ_=>False) dp vp q A O m vl vs vi false c v:=by have S':=S.fresh f;exact⟨S'.cS,S'.get,S'.vn,S'.vo,(S.lP.nv λb hb h=>h.elim (λh=>h.elim False.elim λh=>by have:=hq b h;omega) id).fresh f,C,λb hb h=>by have:=hq b hb;have:=S.lt b h;omega,λb h=>h.elim,λb h=>h.elim,λb h=>h.elim⟩
theorem PD.more(P:PD H (λ_=>False) dp vp p A O m vl vs vi lost c v)(f:ah H H')(C:ig H' q c0 v0)(hq:∀b,CQ q v0 b->H.n<=b):PD H' (CQ q v0) dp vp p A O m vl vs vi lost c v:=by have P':=P.fresh f;exact⟨P'.cS,P'.get,P'.vn,P'.vo,(P.lP.nv λb hb h=>h.elim (λh=>h.elim (λh=>by have:=hq b h;omega) λh=>YH (YD h)) YD).fresh f,P'.ch,P'.Ud,C.lt,λb hb h=>by have:=hq b hb;have:=P.ch.lt b h;omega,λb hb h=>by have:=hq b hb;have:=P.wlt b h;omega⟩
theorem PD.swap(P:PD H (CQ q v0) dp vp p A O m vl vs vi lost c v)(C:ig H q c0 v0):PD H (λ_=>False) dp vp q A O m vl vs vi lost c0 v0:=⟨P.cS,P.get,P.vn,P.vo,P.lP.nv λb _ h=>h.elim (λh=>h.elim False.elim λh=>YH (YH h)) YD,C,P.xo,λb h=>h.elim,λb h=>h.elim,λb h=>h.elim⟩
theorem PD.drop(P:PD H X dp vp p A O m vl vs vi lost c v):PD H (λ_=>False) dp vp p A O m vl vs vi lost c v:=P.less λb h=>h.elim
theorem NA(T:aB t)(hc:aP t)(F:bH pk unpk)(hu:t 85=some (.nat (dF unpk)))(P:PD H X dp vp p A O m vl vs vi lost c v)(I:VI pk A a n us m c0)(hf:A.bd=0)(hfu:1000000<fuel):∃H' O' A' vp' vl' vs' vi',(∀(d)(k),aj (aU cp t fuel (d+9)) (.func 22 []) [.ptr dp 0] H k=k (.cG [.ptr vp' 0,.int 3 0]) H')/\PD H' X dp vp' p A' O' m vl' vs' vi' false c v/\VI pk A' a n us m c0/\A'.bd=0/\A'.len=A.len/\A'.room=A.room/\Step H O H' O'/\H.n<=vp':=by
 obtain⟨H',O',A',vp',vl',vs',vi',z,s,S,hv,I',g1,g2,g3,hX⟩:=uA T hc F hu P.cS I hf hfu;have hd:=λb hb h=>P.Ud b hb (YH h);refine⟨H',O',A',vp',vl',vs',vi',z,⟨S.cS,S.get,S.vn,S.vo,hX _ λb hb=>hb.elim (P.xn b) (P.ch.lt b),(P.ch.cz s hd).1,λb hb h=>?_,λb hb=>YE (P.xn b hb) s.n,P.xc,λb hb h=>?_⟩,I',g1,g2,g3,s,hv⟩
 .have hbn:=P.ch.lt b hb;rcases h with h|h;.exact(s.same b hbn (hd b hb)).2 h
  omega
 .have hbn:=P.xn b hb;rcases h with h|h;.exact(s.same b hbn λh=>P.xo b hb (YH h)).2 h
  omega
theorem KY(T:aB t)(hc:aP t)(P:PD H X dp vp p A O m vl vs vi false c v)(I:VI pk A a n us m c0)(hs:c.size=8)(hfu:1000<fuel):∃H' b,(∀(d)(k),aj (aU cp t fuel (d+6)) (.func 24 []) [.ptr vp 0,.ptr p 0] H k=k (.bool b) H')/\PD H' X dp vp p A O m vl vs vi false c v/\Step H (bz O vp) H' (bz O vp)/\(gv A m c->b=true):=by obtain⟨H',b,z,V',hb⟩:=Uw T hc (P.vpo I) P.ch P.Ud I.l8 hs (λq hq=>by have:=I.ok.live.pl q hq;have:=I.lo;omega) (λs hs q hq=>by have:=(I.ok.ae.mem hs).pl q hq;have:=I.lo;omega) (λs hs=>by rw[(I.ok.ae.mem hs).len,I.l8]) hfu;exact⟨H',b,z,⟨V'.vp.cS,V'.vp.get,V'.vp.vn,V'.vp.vo,P.lP.cz V'.st.or,V'.ch,P.Ud,λb hb=>YE (P.xn b hb) V'.st.n,P.xc,P.xo⟩,V'.st,hb⟩
end
end Go.Ev
end
section
namespace Go.Ev
open Go.Proofs
noncomputable def mS(args:List V)(H:Heap)(k:K):R:=match args with|[]=>k (.bool true) H|_=>no 0
abbrev D3:=Nat×Nat×Nat
def ME(x:D3):List V:=[.int 4 x.1,.int 4 x.2.1,.int 4 x.2.2]
def Ed(l:List D3):List V:=l.flatMap ME
theorem rV:∀{l}{i}{x},l[i]?=some x->((Ed l).drop (i*3)).take 3=ME x
 |[],i,x,h=>by simp_all|a::l,0,x,h=>by simp at h;subst h;rfl|a::l,i+1,x,h=>by
  have h':=by omega
  rw[show(i+1)*3=3+i*3by omega,<-Qf];exact rV h'
structure rB(H:Heap)(v:V)(ds:List D3):Prop where row:Row H (λ_=>False) v 3 ds.length (Ed ds)lt:∀x∈ds,x.1<256/\x.2.1<256/\x.2.2<256n:ds.length<9223372036854775808
section
variable{t:Nat->Option df}{fuel:Nat}{H:Heap}{pk:List UInt8->List (List UInt8)}{unpk:List (List UInt8)->Option (List UInt8)}
structure LI(pk:List UInt8->List (List UInt8))(H0 G:Heap)(X:Nat->Prop)(dp vp p:Nat)(A:AD)(O:Nat->Prop)(m:MT)(vl vs vi:V)(c:CH)(v:V)(a n:Nat)(us:List Wr)(next:Nat):Prop where
 pd:PD G X dp vp p A O m vl vs vi false c v
 vi:VI pk A a n us m c
 bd:A.bd=0ni:NI m next
 fresh:ah H0 G
 own:∀b,PQ vp p O v b->H0.n<=b
theorem HD(T:aB t)(hc:aP t)(F:bH pk unpk)(hp:t 110=some (.nat (dj pk)))(hu:t 85=some (.nat (dF unpk))){G0:Heap}{lv:V}{ds:List D3}{dp vp0 p:Nat}(hl:rB H lv ds)(h0:∃A O m vl vs vi c v a n us,LI pk H G0 (λ_=>False) dp vp0 p A O m vl vs vi c v a n us 1/\A.len=400)(hfu:1000000<fuel):∃G',ah H G'/\∀(d:Nat)(kx:Nat->KE)(e:Env)(x:R),af s000 e=lv->af s003 e=.ptr dp 0->af s004 e=.ptr vp0 0->af s005 e=.ptr p 0->af s006 e=.int 3 0->(∀e',kx 1 e' G'=x)->ko Du fuel (aU (aO Tryz.prog) t fuel (d+10)) kx fuel e G0=x:=by
 have hn:=hl.n;obtain⟨vpn,G',⟨_,_,_,_,_,_,_,_,_,_,_,L,_⟩,z⟩:=bI (c:=Du) (fuel:=fuel) (ph:=λd=>aU (aO Tryz.prog) t fuel (d+10)) (n:=min ds.length 30) (I:=λi vp G=>∃A O m vl vs vi c v a n us,LI pk H G (λ_=>False) dp vp p A O m vl vs vi c v a n us (i+1)/\A.len=400) (S:=λi vp e=>af s000 e=lv/\af s003 e=.ptr dp 0/\af s004 e=.ptr vp 0/\af s005 e=.ptr p 0/\af s006 e=.int 3 i) (λi vp G hin⟨A,O,m,vl,vs,vi,c,v,a,n,us,L,h400⟩=>by
   have hil:i<ds.length:=by omega
   have hi30:i<30:=by omega
   have hdx:=YA hil;obtain⟨hx1,hx2,hx3⟩:=hl.lt _ (YQ hil);have hrow:=hl.row.fresh L.fresh;have hsn:=λ{id}{f}=>hrow.sn (id:=id) (f:=f);obtain⟨bL,oL,cL,zL,hvL,hbL,-,hrL⟩:=hrow.open hil;rw[rV hdx]at hrL;have hrL:=λ{id}{k}=>(hrL rfl).1 (id:=id) (k:=k);generalize ds[i]=x at hx1 hx2 hx3 hrL;obtain⟨G1,A1,O1,vl1,vs1,vi1,v1,m1,ch1,ch2,E,F',a1,n1,us1,z1o,P1,s1,I1,f1,l1,r1,N1,hE,h7⟩:=Gp T hc F hp L.pd L.vi L.bd L.ni (by omega) (by omega) hx1 hx2 hx3 hfu;have z1:=λ{d}{k}=>z1o d k;clear z1o;obtain⟨rfl,rfl⟩:E=F'/\ch2=ch1:=by
    rcases hE with h|h;.exact⟨h.2.1,h.2.2⟩
    .exact absurd h.1 (h7 h400)
   obtain⟨fr1,own1⟩:=L.fresh.own s1 L.own;have L1:LI pk H G1 (λ_=>False) dp vp p A1 O1 m1 vl1 vs1 vi1 ch2 v1 a1 n1 us1 (i+1+1):=⟨P1,I1,f1,N1,fr1,own1⟩;have l400:=l1.trans h400;have b1:i<9223372036854775808:=by omega
   have b2:(i+1)%18446744073709551616=i+1:=by omega
   have b3:nn i:=by unfold nn;omega
   have b4:=by omega
   have rm:∀{id}{f},gk id (.rem 9223372036854775808) i 4 f=f (i%4):=λ{id f}=>iC (by omega) (by omega) (by omega);simp only[ME]at hrL
   by_cases h3:i%4=3;.obtain⟨G2,O2,A2,vp2,vl2,vs2,vi2,z2o,P2,I2,g1,g2,g3,s2,hv2⟩:=NA (cp:=aO Tryz.prog) T hc F hu L1.pd L1.vi L1.bd hfu;have z2:=λ{d}{k}=>z2o (d+1) k;clear z2o;obtain⟨fr2,ow2⟩:=L1.fresh.own s2 λb hb=>L1.own b (YD (YH hb));have L2:LI pk H G2 (λ_=>False) dp vp2 p A2 O2 m1 vl2 vs2 vi2 ch2 v1 a1 n1 us1 (i+1+1):=⟨P2,I2,g1,N1,fr2,λb hb=>by
     rcases hb with hb|hb|hb;.exact L1.own b (YH hb)
     .exact ow2 b hb
     .rw[hb];exact Yq L1.fresh.n hv2⟩;obtain⟨G3,bb,z3o,P3,s3,hb⟩:=KY (cp:=aO Tryz.prog) (fuel:=fuel) T hc L2.pd L2.vi L2.vi.s8 (by omega);have z3:=λ{d}{k}=>z3o (d+4) k;clear z3o;obtain rfl:bb=true:=hb L2.vi.ag;obtain⟨fr3,ow3⟩:=L2.fresh.own s3 λb hb=>L2.own b (YD hb);refine⟨vp2,G3,⟨A2,O2,m1,vl2,vs2,vi2,ch2,v1,a1,n1,us1,⟨P3,I2,g1,N1,fr3,L2.own⟩,g2.trans l400⟩,λd kx r e x⟨q0,q3,q4,q5,q6⟩hk=>?_⟩;rw[hvL]at q0 hsn;rw[ak];simp only[go_sem,↓aa,reduceCtorEq,ZA,ZB,ZC,ZD,ZE,ZF,ZG,ZH,↓reduceIte,↓aE,Du,q0,q3,q4,q5,q6,↓hsn,hn,hil,hi30,b1,b2,b3,b4,↓hrL,↓z1,↓rm,h3,↓z2,↓z3];exact hk _ (by simp only[go_sem,↓aa,reduceCtorEq,ZA,ZB,ZC,ZD,ZE,ZF,ZG,ZH,↓reduceIte,q0,q3,q4,q5,hvL,and_self])
   .obtain⟨G3,bb,z3o,P3,s3,hb⟩:=KY (cp:=aO Tryz.prog) (fuel:=fuel) T hc L1.pd L1.vi L1.vi.s8 (by omega);have z3:=λ{d}{k}=>z3o (d+4) k;clear z3o;obtain rfl:bb=true:=hb L1.vi.ag;obtain⟨fr3,ow3⟩:=L1.fresh.own s3 λb hb=>L1.own b (YD hb);refine⟨vp,G3,⟨A1,O1,m1,vl1,vs1,vi1,ch2,v1,a1,n1,us1,⟨P3,I1,f1,N1,fr3,L1.own⟩,l400⟩,λd kx r e x⟨q0,q3,q4,q5,q6⟩hk=>?_⟩;rw[hvL]at q0 hsn;rw[ak];simp only[go_sem,↓aa,reduceCtorEq,ZA,ZB,ZC,ZD,ZE,ZF,ZG,ZH,↓reduceIte,↓aE,Du,q0,q3,q4,q5,q6,↓hsn,hn,hil,hi30,b1,b2,b3,b4,↓hrL,↓z1,↓rm,h3,↓z3];exact hk _ (by simp only[go_sem,↓aa,reduceCtorEq,ZA,ZB,ZC,ZD,ZE,ZF,ZG,ZH,↓reduceIte,q0,q3,q4,q5,hvL,and_self])) (min ds.length 30) 0 vp0 G0 (by omega) h0;refine⟨G',L.fresh,λd kx e x q0 q3 q4 q5 q6 hk=>?_⟩;refine z d kx fuel e x (by omega) ⟨q0,q3,q4,q5,q6⟩ λr e'⟨q0,q3,q4,q5,q6⟩=>?_;have hsn:=λ{id}{f}=>hl.row.sn (id:=id) (f:=f);rw[ak];have b1:nn (min ds.length 30):=by unfold nn;omega
 by_cases h30:ds.length<30
 .have e1:min ds.length 30=ds.length:=by omega
  have e2:¬ds.length<ds.length:=YC3 _;rw[e1]at q6 b1;simp only[go_sem,↓aa,reduceCtorEq,ZA,ZB,ZC,ZD,ZE,ZF,ZG,ZH,↓reduceIte,↓aE,Du,q0,q6,↓hsn,hn,b1,e2];exact hk _
 .have e1:min ds.length 30=30:=by omega
  rw[e1]at q6 b1;by_cases h31:ds.length=30
  .have e2:=by omega
   simp only[go_sem,↓aa,reduceCtorEq,ZA,ZB,ZC,ZD,ZE,ZF,ZG,ZH,↓reduceIte,↓aE,Du,q0,q6,↓hsn,hn,b1,e2];exact hk _
  .have e2:30<ds.length:=by omega
   simp only[go_sem,↓aa,reduceCtorEq,ZA,ZB,ZC,ZD,ZE,ZF,ZG,ZH,↓reduceIte,↓aE,Du,q0,q6,↓hsn,hn,b1,e2,YC3];exact hk _
theorem sF(hwk:t 7=some (.nat mS)){cp}(d)(k)(G):aj (aU cp t fuel (d+1)) (.func 14 []) [] G k=k (.bool true) G:=by rw[od hwk rfl rfl];rfl
theorem afB:(⟨zT 8,8,[]⟩:CH)=c0:=rfl
theorem Kq{q b}:CQ q .aD b↔b=q:=⟨λh=>h.elim id (λ⟨_,_,_,_,h⟩=>(by cases h)),YH⟩
theorem Ph(T:aB t)(hc:aP t)(F:bH pk unpk)(hp:t 110=some (.nat (dj pk)))(hu:t 85=some (.nat (dF unpk)))(hw:H.wf)(hfu:1000000<fuel):∃G1 G2 dp vp p,(∀(d)(k),aj (aU (aO Tryz.prog) t fuel (d+10)) (.func 16 []) [.int 3 8] H k=k (.cG [.ptr dp 0,.ptr vp 0]) G1)/\(∀(d)(k),aj (aU (aO Tryz.prog) t fuel (d+2)) (.func 18 []) [.int 3 8] G1 k=k (.ptr p 0) G2)/\∃A O m vl vs vi c v a n us,LI pk H G2 (λ_=>False) dp vp p A O m vl vs vi c v a n us 1/\A.len=400:=by
 obtain⟨G1,A,a,n,us,dp,vp,O,vl,vs,vi,z1,f1,S,I,g1,g2,g3,own⟩:=Fb T hc F hp hu hw hfu;obtain⟨G2,p,z2,f2,C,hv⟩:=zU (fuel:=fuel) T f1.wf (by omega) (YC 8) (by omega);have hq:∀b,CQ p .aD b->G1.n<=b:=λb hb=>by rw[Kq.1 hb];omega
 exact⟨G1,G2,dp,vp,p,z1,z2,A,O,mz 8,vl,vs,vi,c0,.aD,a,n,us,⟨PD.new S f2 C hq,I,g1,⟨rfl,λs hs=>by cases hs⟩,f1.trans f2,λb hb=>hb.elim (λhb=>Yq f1.n (hq b hb)) (own b)⟩,g2⟩
theorem uY(T:aB t)(hc:aP t)(F:bH pk unpk)(hp:t 110=some (.nat (dj pk)))(hu:t 85=some (.nat (dF unpk)))(hwk:t 7=some (.nat mS))(hw:H.wf){lv}{ds}(hl:rB H lv ds)(hfu:1000000<fuel)(d)(k)(x)(hx:∀H',ah H H'->k (.bool true) H'=x):aj (aU (aO Tryz.prog) t fuel (d+12)) (.func 6 []) [lv] H k=x:=by
 obtain⟨G1,G2,dp,vp,p,z1o,z2o,hL⟩:=Ph T hc F hp hu hw hfu;obtain⟨G3,f3,z3⟩:=HD T hc F hp hu hl hL hfu;have z0:=λ{d}{k}{G}=>sF (fuel:=fuel) hwk (cp:=aO Tryz.prog) d k G;have z1:=λ{d}{k}=>z1o d k;have z2:=λ{d}{k}=>z2o d k;have z1':=λ{k}=>z1 (d:=d+1) (k:=k);have z2':=λ{k}=>z2 (d:=d+9) (k:=k);have j0:=λ{id}{k}=>aN hl.row.one (id:=id) (k:=k);rw[aJ T.k3 rfl rfl];simp only[go_sem,↓aa,reduceCtorEq,ZA,ZB,ZC,ZD,ZE,ZF,ZG,ZH,↓reduceIte,↓aE,c3,acW,acX,↓j0,↓z0,↓z1'];simp only[go_sem,↓aa,reduceCtorEq,ZA,ZB,ZC,ZD,ZE,ZF,ZG,ZH,↓reduceIte,↓aE,acY,acZ,ac0,↓z2'];refine z3 (d+1) _ _ _ ?_ ?_ ?_ ?_ ?_ λe'=>?_;all_goals first|rfl|skip
 simp only[go_sem,↓aa,reduceCtorEq,ZA,ZB,ZC,ZD,ZE,ZF,ZG,ZH,↓reduceIte,ac1,ac2];simp_all
end
end Go.Ev
end
section
namespace Go.Ev
open Go.Proofs
section
variable{t:Nat->Option df}{fuel:Nat}{H:Heap}{pk:List UInt8->List (List UInt8)}{unpk:List (List UInt8)->Option (List UInt8)}
theorem MW(T:aB t)(hc:aP t)(F:bH pk unpk)(hp:t 110=some (.nat (dj pk))){G0:Heap}{lv:V}{ds:List D3}{dp vp p0:Nat}(hl:rB H lv ds)(h0:∃A O m vl vs vi c v a n us,LI pk H G0 (λ_=>False) dp vp p0 A O m vl vs vi c v a n us 1)(hfu:1000000<fuel):∃G',ah H G'/\∀(d:Nat)(kx:Nat->KE)(e:Env)(x:R),af s000 e=lv->af s006 e=.ptr vp 0->af s010 e=.ptr p0 0->af s011 e=.int 3 0->(∀e',kx 1 e' G'=x)->ko DE fuel (aU (aO Tryz.prog) t fuel (d+10)) kx fuel e G0=x:=by
 have hn:=hl.n;obtain⟨vpn,G',⟨_,_,_,_,_,_,_,_,_,_,_,L⟩,z⟩:=bI (c:=DE) (fuel:=fuel) (ph:=λd=>aU (aO Tryz.prog) t fuel (d+10)) (n:=min ds.length 30) (I:=λi p G=>∃A O m vl vs vi c v a n us,LI pk H G (λ_=>False) dp vp p A O m vl vs vi c v a n us (i+1)) (S:=λi p e=>af s000 e=lv/\af s006 e=.ptr vp 0/\af s010 e=.ptr p 0/\af s011 e=.int 3 i) (λi p G hin⟨A,O,m,vl,vs,vi,c,v,a,n,us,L⟩=>by
   have hil:i<ds.length:=by omega
   have hi30:i<30:=by omega
   have hdx:=YA hil;obtain⟨hx1,hx2,hx3⟩:=hl.lt _ (YQ hil);obtain⟨Gc,q,v0,zco,fc,C0,hq⟩:=HB (cp:=aO Tryz.prog) (fuel:=fuel) T L.pd.ch;have zc:=λ{d}{k}=>zco (d+8) k;clear zco;have Pc:=L.pd.more fc C0 hq;have hrow:=(hl.row.fresh L.fresh).fresh fc;have hsn:=λ{id}{f}=>hrow.sn (id:=id) (f:=f);obtain⟨bL,oL,cL,zL,hvL,hbL,-,hrL⟩:=hrow.open hil;rw[rV hdx]at hrL;have hrL:=λ{id}{k}=>(hrL rfl).1 (id:=id) (k:=k);generalize ds[i]=x at hx1 hx2 hx3 hrL;obtain⟨G1,A1,O1,vl1,vs1,vi1,v1,m1,ch1,ch2,E,F',a1,n1,us1,z1o,P1,s1,I1,f1,l1,r1,N1,hE,h7⟩:=Gp T hc F hp Pc L.vi L.bd L.ni (by omega) (by omega) hx1 hx2 hx3 hfu;have z1:=λ{d}{k}=>z1o d k;clear z1o;have C1:=(C0.cz s1 λb hb h=>h.elim (Pc.xc b hb) (Pc.xo b hb)).1;obtain⟨fr1,own1⟩:=(L.fresh.trans fc).own s1 L.own;have b1:i<9223372036854775808:=by omega
   have b2:(i+1)%18446744073709551616=i+1:=by omega
   have b3:nn i:=by unfold nn;omega
   have b4:=by omega
   simp only[ME]at hrL;rcases hE with⟨h7',rfl,rfl⟩|⟨rfl,rfl⟩;.have L1:LI pk H G1 (λ_=>False) dp vp p A1 O1 m1 vl1 vs1 vi1 ch2 v1 a1 n1 us1 (i+1+1):=⟨P1.drop,I1,f1,N1,fr1,own1⟩;obtain⟨G3,bb,z3o,P3,s3,hb⟩:=KY (cp:=aO Tryz.prog) (fuel:=fuel) T hc L1.pd L1.vi L1.vi.s8 (by omega);have z3:=λ{d}{k}=>z3o (d+4) k;clear z3o;obtain rfl:bb=true:=hb L1.vi.ag;obtain⟨fr3,ow3⟩:=L1.fresh.own s3 λb hb=>L1.own b (YD hb);have e7:=eq_false h7';refine⟨p,G3,⟨A1,O1,m1,vl1,vs1,vi1,ch2,v1,a1,n1,us1,⟨P3,I1,f1,N1,fr3,L1.own⟩⟩,λd kx r e x⟨q0,q6,q10,q11⟩hk=>?_⟩;rw[hvL]at q0 hsn;rw[ak];simp only[go_sem,↓aa,reduceCtorEq,ZA,ZB,ZC,ZD,ZE,ZF,ZG,ZH,↓reduceIte,↓aE,DE,q0,q6,q10,q11,↓hsn,hn,hil,hi30,b1,b2,b3,b4,↓zc,↓hrL,↓z1,e7,↓z3];exact hk _ (by simp only[go_sem,↓aa,reduceCtorEq,ZA,ZB,ZC,ZD,ZE,ZF,ZG,ZH,↓reduceIte,q0,q6,q10,hvL,and_self])
   .have L1:LI pk H G1 (λ_=>False) dp vp q A1 O1 m1 vl1 vs1 vi1 ch1 v0 a1 n1 us1 (i+1+1):=⟨P1.swap C1,I1,f1,N1,fr1,λb hb=>hb.elim (λhb=>Yq L.fresh.n (hq b hb)) λhb=>own1 b (YD hb)⟩;obtain⟨G3,bb,z3o,P3,s3,hb⟩:=KY (cp:=aO Tryz.prog) (fuel:=fuel) T hc L1.pd L1.vi L1.vi.s8 (by omega);have z3:=λ{d}{k}=>z3o (d+4) k;clear z3o;obtain rfl:bb=true:=hb L1.vi.ag;obtain⟨fr3,ow3⟩:=L1.fresh.own s3 λb hb=>L1.own b (YD hb);refine⟨q,G3,⟨A1,O1,m1,vl1,vs1,vi1,ch1,v0,a1,n1,us1,⟨P3,I1,f1,N1,fr3,L1.own⟩⟩,λd kx r e x⟨q0,q6,q10,q11⟩hk=>?_⟩;rw[hvL]at q0 hsn;rw[ak];simp only[go_sem,↓aa,reduceCtorEq,ZA,ZB,ZC,ZD,ZE,ZF,ZG,ZH,↓reduceIte,↓aE,DE,q0,q6,q10,q11,↓hsn,hn,hil,hi30,b1,b2,b3,b4,↓zc,↓hrL,↓z1,↓z3];exact hk _ (by simp only[go_sem,↓aa,reduceCtorEq,ZA,ZB,ZC,ZD,ZE,ZF,ZG,ZH,↓reduceIte,q0,q6,q10,hvL,and_self])) (min ds.length 30) 0 p0 G0 (by omega) h0;refine⟨G',L.fresh,λd kx e x q0 q6 q10 q11 hk=>?_⟩;refine z d kx fuel e x (by omega) ⟨q0,q6,q10,q11⟩ λr e'⟨q0,q6,q10,q11⟩=>?_;have hsn:=λ{id}{f}=>hl.row.sn (id:=id) (f:=f);rw[ak];have b1:nn (min ds.length 30):=by unfold nn;omega
 by_cases h30:ds.length<30
 .have e1:min ds.length 30=ds.length:=by omega
  have e2:¬ds.length<ds.length:=YC3 _;rw[e1]at q11 b1;simp only[go_sem,↓aa,reduceCtorEq,ZA,ZB,ZC,ZD,ZE,ZF,ZG,ZH,↓reduceIte,↓aE,DE,q0,q11,↓hsn,hn,b1,e2];exact hk _
 .have e1:min ds.length 30=30:=by omega
  rw[e1]at q11 b1;by_cases h31:ds.length=30
  .have e2:=by omega
   simp only[go_sem,↓aa,reduceCtorEq,ZA,ZB,ZC,ZD,ZE,ZF,ZG,ZH,↓reduceIte,↓aE,DE,q0,q11,↓hsn,hn,b1,e2];exact hk _
  .have e2:30<ds.length:=by omega
   simp only[go_sem,↓aa,reduceCtorEq,ZA,ZB,ZC,ZD,ZE,ZF,ZG,ZH,↓reduceIte,↓aE,DE,q0,q11,↓hsn,hn,b1,e2,YC3];exact hk _
theorem yp(T:aB t)(hc:aP t)(F:bH pk unpk)(hp:t 110=some (.nat (dj pk)))(hu:t 85=some (.nat (dF unpk)))(hwk:t 7=some (.nat mS))(hw:H.wf){lv}{ds}{rm}(hl:rB H lv ds)(hrm:rm<256)(hfu:1000000<fuel)(d)(k)(x)(hx:∀H',ah H H'->k (.bool true) H'=x):aj (aU (aO Tryz.prog) t fuel (d+12)) (.func 10 []) [lv,.int 4 rm] H k=x:=by
 obtain⟨G1,dp,O1,z1o,D1,f1,o1⟩:=KQ (cp:=aO Tryz.prog) (fuel:=fuel) (n:=193+rm%20) (r:=400) (T.iv hc) hw (by omega) (by omega) (by unfold nn;omega);obtain⟨G2,G3,A,a,k',us,vp,O',vl,vs,vi,z2o,z3o,f3,S,I,g1,g2,g3,own⟩:=uj (cp:=aO Tryz.prog) T hc F hp hu (by omega) (by omega) (by omega) f1 D1 o1 hfu;obtain⟨G4,p,z4o,f4,C,hv⟩:=zU (cp:=aO Tryz.prog) (fuel:=fuel) T f3.wf (by omega) (YC 8) (by omega);have hq:∀b,CQ p .aD b->G3.n<=b:=λb hb=>by rw[Kq.1 hb];omega
 obtain⟨G5,f5,z5⟩:=MW T hc F hp hl ⟨A,O',mz 8,vl,vs,vi,c0,.aD,a,k',us,PD.new S f4 C hq,I,g1,⟨rfl,λs hs=>by cases hs⟩,f3.trans f4,λb hb=>hb.elim (λhb=>Yq f3.n (hq b hb)) (own b)⟩ hfu;have z0:=λ{d}{k}{G}=>sF (fuel:=fuel) hwk (cp:=aO Tryz.prog) d k G;have z1:=λ{k}=>z1o (d+10) k;have z2:=λ{k}=>z2o (d+3) k;have z3:=λ{k}=>z3o (d+2) k;have z4:=λ{k}=>z4o (d+9) k;have j0:=λ{id}{k}=>aN hl.row.one (id:=id) (k:=k);have rl:∀{id}{f},gk id (.rem 256) rm 20 f=f (rm%20):=λ{id f}=>iC (by omega) (by omega) (by omega);have e1:rm%20%18446744073709551616=rm%20:=by omega
 have e2:(193+rm%20)%18446744073709551616=193+rm%20:=by omega
 rw[aJ T.k5 rfl rfl];simp only[go_sem,↓aa,reduceCtorEq,ZA,ZB,ZC,ZD,ZE,ZF,ZG,ZH,↓reduceIte,↓aE,c5,adb,ade,↓j0,↓z0,↓rl,e1,e2,↓z1];simp only[go_sem,↓aa,reduceCtorEq,ZA,ZB,ZC,ZD,ZE,ZF,ZG,ZH,↓reduceIte,↓aE,adf,adg,adh,↓z2,↓z3,↓z4];simp only[go_sem,↓aa,reduceCtorEq,ZA,ZB,ZC,ZD,ZE,ZF,ZG,ZH,↓reduceIte,↓aE,adi,adj];refine z5 (d+1) _ _ _ ?_ ?_ ?_ ?_ λe'=>?_;all_goals first|(simp only[go_sem,↓aa,reduceCtorEq,ZA,ZB,ZC,ZD,ZE,ZF,ZG,ZH,↓reduceIte])|skip
 exact hx _ f5
end
end Go.Ev
end
section
namespace Go.Ev
open Go.Deep Go.ChangeShapes Go.WideShapes Go.RowKit
theorem Cw{n:Int}:(n%(2^IntKind.u8.bits:Nat)).toNat<256:=by have h1:(0:Int)<=n%(2^IntKind.u8.bits:Nat):=Int.emod_nonneg _ (by simp[IntKind.bits]);have h2:n%(2^IntKind.u8.bits:Nat)<(2^IntKind.u8.bits:Nat):=Int.emod_lt_of_pos _ (by omega);simp only[IntKind.bits]at h1 h2⊢;omega
theorem Iv{α:Type}{len}{p}{i}{x:α}(hi:((WZ len).map p)[i]?=some x):i<len/\x=p i:=by rw[Ys]at hi;obtain⟨q,h3,rfl⟩:=Option.map_eq_some_iff.1 hi;obtain⟨h4,h5⟩:=YX.1 h3;rw[List.getElem_range]at h5;simp_all
theorem tp:∀l:List D3,(Ed l).length=l.length*3|[]=>rfl|x::l=>by show(ME x++Ed l).length=_;rw[YB,tp l,YG,Wf];show 3+_=_;omega
theorem MF{l}{i j}{x}(h:l[i]?=some x)(hj:j<3):(Ed l)[i*3+j]?=(ME x)[j]?:=by rw[<-rV h,Yy,if_pos hj,WG]
section
variable{H:Type}{enc:TypeId×Value->H}{P:Program}{w:World}
theorem Ea{t q:TypeId}{k0 k1 k2:Field}{fuel:Nat}{v:Value}{x:DataW H×List MemPlace}(ht:P.underlying t=some (.slice q))(hq:P.underlying q=some (.struct #[k0,k1,k2]))(hq3:P.cellsOf q=3)(ko0:k0.offset=0)(ko1:k1.offset=1)(ko2:k2.offset=2)(kc0:P.cellsOf k0.type=1)(kc1:P.cellsOf k1.type=1)(kc2:P.cellsOf k2.type=1)(ku0:P.underlying k0.type=some (.int .u8))(ku1:P.underlying k1.type=some (.int .u8))(ku2:P.underlying k2.type=some (.int .u8))(h:DataW.trod enc P w 0 (λ_=>true) true fuel t [v]=some x)(hnf:w.noneFrozen x.2):∃ds,rB (eR w) (uH w.heap.size v) ds:=by
 obtain⟨h1,h2⟩:=Jo ht hq3 (by omega) h hnf (λ_ _ _ _ _ hb=>(show False from hb).elim);rcases h2 with h2|⟨b,o,len,c,row,hl0,hl,hv,hb,hbn,hx⟩;.exact⟨[],⟨⟨rfl,λx hx=>(by cases hx),YH ⟨h2,rfl⟩⟩,λx hx=>(by cases hx),by simp⟩⟩
 have each:∀i,i<len->∃p:D3,(row[o+i*3]?=some (.int 4 p.1)/\row[o+i*3+1]?=some (.int 4 p.2.1)/\row[o+i*3+2]?=some (.int 4 p.2.2))/\p.1<256/\p.2.1<256/\p.2.2<256:=λi hi=>by obtain⟨cs,n,y,hlen,hcs,htr,hnf'⟩:=hx i hi;obtain⟨xs,n',_,hy,_,hxl,hf⟩:=DataW.trod_struct hq htr;match cs,hlen,xs,hxl with|[w0,w1,w2],_,[y0,y1,y2],_=>have a0:=hf 0 k0 rfl;have a1:=hf 1 k1 rfl;have a2:=hf 2 k2 rfl;simp[ko0,kc0]at a0;simp[ko1,kc1]at a1;simp[ko2,kc2]at a2;obtain⟨n0,e0,_,x0⟩:=DataW.trod_int ku0 a0;obtain⟨n1,e1,_,x1⟩:=DataW.trod_int ku1 a1;obtain⟨n2,e2,_,x2⟩:=DataW.trod_int ku2 a2;cases e0;cases e1;cases e2;have r0:=hcs 0 _ rfl;have r1:=hcs 1 _ rfl;have r2:=hcs 2 _ rfl;rw[sD x0]at r0;rw[sD x1]at r1;rw[sD x2]at r2;exact⟨(_,_,_),⟨r0,r1,r2⟩,Cw,Cw,Cw⟩
 obtain⟨p,hp⟩:=choose_lt each;have hlen:((WZ len).map p).length=len:=by rw[Yi,List.length_range]
 have hget:∀i,i<len->((WZ len).map p)[i]?=some (p i):=λi hi=>by rw[Ys,List.getElem?_range hi];rfl
 have hlast:o+len*3<=row.length:=by have:=(YX.1 (hp (len-1) (by omega)).1.2.2).1;omega
 refine⟨(WZ len).map p,⟨⟨tp _,λz hz=>?_,YD ⟨b,o,c,0,row,by rw[hv,hlen],YD hb,hbn,λh=>h,by rw[hlen];exact hlast,?_⟩⟩,λz hz=>?_,by omega⟩⟩;.obtain⟨y,-,hz⟩:=List.mem_flatMap.1 hz;rcases YS.1 hz with rfl|hz;rfl;rcases YS.1 hz with rfl|hz;rfl;rw[YL.1 hz];rfl
 .refine Ql λk=>?_;rw[hlen,Yy];by_cases hk:k<len*3
  .rw[if_pos hk,WG];obtain⟨i,j,hj,rfl⟩:∃i j,j<3/\k=i*3+j:=⟨k/3,k%3,by omega,by omega⟩;have hi:i<len:=by omega
   rw[MF (hget i hi) hj];obtain⟨⟨r0,r1,r2⟩,-⟩:=hp i hi;match j,hj with|0,_=>exact r0|1,_=>exact r1|2,_=>exact r2
  .rw[if_neg hk,WM (by rw[tp,hlen];omega)]
 .obtain⟨i,hi⟩:=QG hz;obtain⟨h3,rfl⟩:=Iv hi;exact(hp i h3).2
end
end Go.Ev
end
