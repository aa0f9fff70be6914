/- VC: a part of the evaluator,of its logic,or of the laws' walk in it. -/
import Derived.Test.YtalmhjlkdhlbiaaGreatDoorVB
open Nat renaming le_refl → YA,zero_le → Yd,le_trans → Yn,le_of_lt → QN
open List renaming getElem?_eq_getElem → YB,length_append → YC,length_cons → YF,getD_eq_getElem?_getD → YH,mem_cons_of_mem → YI,mem_cons_self → YJ,mem_singleton → YO,mem_cons → YP,eq_nil_of_length_eq_zero → YR,nil_append → YT,append_nil → YV,getElem?_eq_some_iff → YX,mem_of_getElem? → YY,take_of_length_le → Ya,cons_append → Yb,mem_map → Yc,replicate → Yg,getElem_mem → Yl,length_take → Yp,mem_append → Yv,map_append → WE,mem_of_mem_take → WN,length_pos_iff → WX,length_replicate → Wb,mem_filter → Wo,getElem?_of_mem → QF,mem_append_left → QH,nodup_append → QJ,map_congr_left → QL,take_add_one → QY,mem_replicate → YA1,length_set → YI4,findIdx?_cons → YM1,take_sublist → YN0
open Or renaming inr → YD,inl → YG
open Option renaming getD_some → WH
set_option linter.unusedVariables false
set_option linter.unusedSimpArgs false
set_option linter.unusedSectionVars false
set_option maxHeartbeats 8000000
open Nat renaming reduceAdd→ZA,reduceSub→ZB,reduceMul→ZC,reduceEqDiff→ZD,reduceLT→ZE,reduceDiv→ZF,reduceMod→ZG,reduceLeDiff→ZH
section
namespace Go.Ev
structure LX (A:AD) (ss:List (List UInt8)):Prop where
 at_:∀ i (h:i<ss.length),A.read (145+i)=tx ss[i]
section
variable {cp:RC->ai} {t:Nat->Option cF} {fuel:Nat} {H:Heap} {O:Nat->Prop} {pk:List UInt8->List (List UInt8)} {unpk:List (List UInt8)->Option (List UInt8)}
theorem IJ (T:aG t) (hc:bg t) (hu:t 89=some (.nat (fC unpk))) {dp:Nat} {A:AD} {ss:List (List UInt8)} {tt:List UInt8} (hD:cU H dp A O) (ho:A.off=false) (hA:193<=A.len) (hA2:A.len<=1024) (hn:ss.length<=48) (h0:ss≠[]) (h32:∀ s ∈ ss,s.length=32) (hT:LX A ss) (hs:∀ k,k<ss.length->unpk (ss.take k)=none) (hb:unpk ss=some tt) (hfu:1000<fuel):
 ∃ H',(∀ (d:Nat) (k:K),aj (aQ cp t fuel (d+4)) (.func 86 []) [.ptr dp 0] H k=k (.cV [tv tt,.int 3 0]) H')/\ae H H':=by
 have hl0:=WX.2 h0
 have n48:nn 48:=by unfold nn;omega
 have rd:∀ (i) (v) (G),i<ss.length->ae H G->Gr H G v 1 i ((ss.take i).map tv)->∃ v' G',ae H G'/\Gr H G' v' 1 (i+1) ((ss.take (i+1)).map tv)/\∀ (d) (kx) (kn) (e) (x),aa s000 e = .ptr dp 0->aa s004 e=v->
  (unpk (ss.take (i+1))=none->∀ e',aa s000 e' = .ptr dp 0->aa s004 e'=v'->kn e' G'=x)->(unpk (ss.take (i+1))=some tt->∀ e',aa s002 e'=tv tt->aa s003 e' = .int 3 0->kx 0 e' G'=x)->(unpk (ss.take (i+1))=none\/unpk (ss.take (i+1))=some tt)->gZ IW fuel (aQ cp t fuel (d+3)) e G kn kx=x:=by
  intro i v G hil f g
  have hrd:=hT.at_ i hil
  have h32i:=h32 _ (Yl hil)
  have htk:ss.take (i+1)=ss.take i ++ [ss[i]]:=by rw [QY,YB hil];rfl
  obtain ⟨G1,z1,f1⟩:=sh (cp:=cp) (fuel:=fuel) (a:=145+i) (T.jT hc) (hD.fresh f) ho (by omega)
  have z1:=λ{d} {k}=>z1 d k
  rw [hrd,VA]at z1
  generalize ss[i]=s at htk z1 h32i
  have w1:=f1.wf
  obtain ⟨G2,hG2,f2,p2,n2⟩:=Heap.aU w1 (.cells [tv s])
  obtain ⟨v',G3,hap,g3,f3,-,-⟩:=Gr.app (cx:=2) (sx:=0) (f.trans (f1.trans f2)) ((g.fresh f1).fresh f2) p2 rfl (λz hz=>by rw [YO.1 hz];rfl) (by omega)
  have bC:(ss.take (i+1)).map tv=(ss.take i).map tv ++ [tv s]:=by rw [htk,WE];rfl
  rw [<- bC]at g3
  have hsn:=λ{id} {f}=>g.sn (id:=id) (f:=f)
  refine ⟨v',G3,f3,g3,λd kx kn e x q0 q4 hkn hkx hor=>?_⟩
  have a1:nn i:=by unfold nn;omega
  have a2:i<9223372036854775808:=by omega
  have a3:i<48:=by omega
  have a4:(145+i)%18446744073709551616=145+i:=by omega
  have i1:=λ{id} {k}=>aI g3.one (id:=id) (k:=k)
  have w3:=f3.wf
  obtain ⟨-,-,⟨-,g3'⟩|⟨b,c,sz,rfl,-,-,gb,-,-⟩⟩:=g3
  .omega
  have hcl:∀ {k},aj (aQ cp t fuel (d+3)) (.func 178 []) [.slice b 0 (i+1) c sz] G3 k=k (Lx (unpk (ss.take (i+1)))) G3:=λ{k}=>by
   rw [lO hu rfl rfl,YV,uk gb (by rw [Yp];omega) (by omega) (λx hx=>by rw [h32 x (WN hx)];omega)]
  simp only [tv]at z1 hG2
  rcases hor with hor|hor
  .rw [hor]at hcl
   simp only [go_sem,IW,q0,q4,↓hsn,a1,a2,a3,a4,n48,↓z1,w1,hG2,↓hap,↓hcl]
   refine hkn hor _ ?_ ?_
   .exact q0
   .rfl
  .rw [hor]at hcl
   simp only [go_sem,IW,q0,q4,↓hsn,a1,a2,a3,a4,n48,↓z1,w1,hG2,↓hap,↓hcl]
   refine hkx hor _ ?_ ?_
   .simp only [go_sem,tv]
   .rfl
 obtain ⟨n,hn'⟩:∃ n,ss.length=n+1:=⟨ss.length-1,by omega⟩
 obtain ⟨v1,G1,⟨f1,g1⟩,z1⟩:=bV (n:=n)
  (I:=λi v G=>ae H G/\Gr H G v 1 i ((ss.take i).map tv)) (S:=λi v e=>aa s000 e = .ptr dp 0/\aa s004 e=v) (λi v G hin ⟨f,g⟩=>by
   obtain ⟨v',G',f',g',z⟩:=rd i v G (by omega) f g
   refine ⟨v',G',⟨f',g'⟩,λd kx r e x ⟨q0,q4⟩ hk=>?_⟩
   rw [ak]
   have hno:=hs (i+1) (by omega)
   exact z d kx _ e x q0 q4 (λ_ e' q0 q4=>hk e' ⟨q0,q4⟩) (λh=>by rw [hno]at h;cases h) (YG hno)) n 0 .aB H (by omega) ⟨ae.refl hD.wf,Gr.aB⟩
 obtain ⟨v2,G2,f2,g2,z2⟩:=rd n v1 G1 (by omega) f1 g1
 have hfull:unpk (ss.take (n+1))=some tt:=by rw [Ya (by omega)];exact hb
 refine ⟨G2,λd k=>?_,f2⟩
 rw [aR T.k43 rfl rfl]
 simp only [go_sem,c43,U7,U8]
 refine z1 d _ fuel _ _ (by omega) ⟨?_,?_⟩ λr e' ⟨q0,q4⟩=>?_
 .rfl
 .rfl
 rw [ak]
 refine z2 d _ _ e' _ q0 q4 (λh=>by rw [hfull]at h;cases h) (λ_ e'' q2 q3=>?_) (YD hfull)
 simp only [go_sem,q2,q3]
end
end Go.Ev
end
section
namespace Go.Ev
section
variable {cp:RC->ai} {t:Nat->Option cF} {fuel:Nat} {H:Heap} {O:Nat->Prop} {pk:List UInt8->List (List UInt8)} {unpk:List (List UInt8)->Option (List UInt8)}
set_option maxRecDepth 4000 in
theorem IG (T:aG t) (hc:bg t) (F:bX pk unpk) (hu:t 89=some (.nat (fC unpk)))
 {dp a n:Nat} {A:AD} {us:List Wr} {m:MT} (hD:cU H dp A O) (C:qy A pk a n us) (h0:(A.recover n us).2=0) (ho:(A.recover n us).1.off=false) (hA:193<=(A.recover n us).1.len) (hA2:(A.recover n us).1.len<=1024) (Y:gk m m.live.length (A.recover n us).1.len) (Z:lg m) (hT:LX (A.recover n us).1 (pk (nums (nw m)))) (hfu:1000000<fuel):
 ∃ H' O' vp vl vs vi,(∀ (d:Nat) (k:K),aj (aQ cp t fuel (d+9)) (.func 36 []) [.ptr dp 0] H k=k (.cV [.ptr vp 0,.int 3 0]) H')/\Step H O H' O'/\cU H' dp (A.recover n us).1 O'/\H'.get vp = .cells (vc m vl vs vi dp false)/\vp<H'.n/\¬ O' vp/\H.n<=vp/\gj H' (bM O' vp) m vl vs vi/\∀ X:Nat->Prop,(∀ b,X b->b<H.n)->gj H' (λb=>X b\/bM O' vp b) m vl vs vi:=by
 obtain ⟨G1,O1,z1,s1,D1⟩:=BG (cp:=cp) (fuel:=fuel) T hc F hu hD C (by omega)
 rw [h0]at z1
 have z1:=λ{d} {k}=>z1 (d+1) k
 generalize hB:(A.recover n us).1=B at ho hA hA2 Y hT D1 ⊢
 have htl:=Y.text hA2
 have hsz:=F.size (nums (nw m)) (by omega)
 obtain ⟨G2,z2,f2⟩:=IJ (cp:=cp) (fuel:=fuel) T hc hu D1 ho hA hA2 (by omega) (F.pos _ (by omega)) (F.len _ (by omega)) hT (λk hk=>F.short _ k (by omega) hk) (F.back _ (by omega)) (by omega)
 have z2:=λ{d} {k}=>z2 (d+4) k
 have D2:=D1.fresh f2
 obtain ⟨G3,vl,vs,vi,z3,f3,hM⟩:=CY (cp:=cp) (fuel:=fuel) T f2.wf (Y.mono hA2) Z (by omega)
 have z3:=λ{d} {k}=>z3 d k
 have M3:=hM O1 (λb hb=>D2.lt b hb)
 have M3a:=hM (λb=>b<G2.n) (λb hb=>hb)
 have w3:=f3.wf
 have D3:=D2.fresh f3
 obtain ⟨G4,hG4,f4,p4,n4⟩:=Heap.aU w3 (.cells [.aB,.aB,.int 7 0,.int 7 0,.int 7 0,.int 7 0,.int 3 0,.int 3 0,.aB])
 have b4:G3.n<G4.n:=by omega
 have w4:=f4.wf
 obtain ⟨G5,hG5,f5,p5,n5,w5,k5⟩:=Heap.bd f4 (YA _) b4 (.cells (aS m vl vs vi))
 have D5:=D3.fresh f5
 have M5:=M3.fresh f5
 have wm5:G5.mark.wf:=by exact w5
 obtain ⟨G6x,G6,z6,hu6,hl6,f6⟩:=qO ⟨G5.mark,λd k=>sd (cp:=cp) (fuel:=fuel) (T.jT hc) (D5.fresh (ae.DW w5)),ae.refl wm5⟩
 have z6:=λ{d} {k}=>z6 (d+7) k
 have w6:=f6.wf
 have M6:=M5.fresh f6
 obtain ⟨G7,z7,f7⟩:=uj (cp:=cp) (fuel:=fuel) (blocks:=m.live.length) (n:=B.len) T w6 M6 Z (by have:=Z.live.1;unfold nn;omega) (by unfold nn;omega) (by omega)
 have z7:=λ{d} {k}=>z7 (d+3) k
 rw [Jt.2 Y]at z7
 have w7:=f7.wf
 have M7:=M6.fresh f7
 have f57:=f6.trans f7
 have p7:=(f57.same _ (by omega)).trans p5
 obtain ⟨G8,hG8,f8,p8,n8⟩:=Heap.aU w7 (.cells (vc m vl vs vi dp false))
 have D8:=(D5.fresh f57).fresh f8
 have hlt:=D1.lt
 have f18:=f2.trans (f3.trans (f5.trans (f57.trans f8)))
 have m2:=f2.n
 have m3:=f3.n
 have m57:=f57.n
 have sl:=λ{id} {f}=>M3.live.sn (id:=id) (f:=f)
 have ll:m.live.length<9223372036854775808:=by have:=Z.live.1;omega
 have j1:=λ{id} {k}=>aI M3.live.one (id:=id) (k:=k)
 have j2:=λ{id} {k}=>aI (let ⟨_,h,_⟩:=M3.ah;h.one) (id:=id) (k:=k)
 have j3:=λ{id} {k}=>aI M3.cD.one (id:=id) (k:=k)
 refine ⟨G8,O1,G7.n,vl,vs,vi,λd k=>?_,s1.trans f18.step,D8,p8,by omega,λh=>by have:=hlt _ h;omega,by have:=s1.n;omega,(M7.kT λb hb h=>h.elim id λe=>by omega).fresh f8,λX hX=>(((M3a.fresh f5).fresh f57).kT λb hb h=>by
  have hs1:=s1.n
  rcases h with h|h|h
  .have:=hX b h;omega
  .exact D2.lt b h
  .omega).fresh f8⟩
 simp only [aS,cg,tv]at z2 z3 hG5 p5 p7 z7
 simp only [vc,aS,cg,Yb,YT]at hG8
 rw [aR T.k18 rfl rfl]
 simp only [go_sem,c18,UQ,UR,US,UT,↓z1,↓z2]
 simp only [go_sem,UU,↓z3,w3,hG4,p4,b4,w4,↓j1,↓j2,↓j3,hG5]
 simp only [go_sem,UW,p5,↓sl,ll,↓z6,hu6,hl6,↓z7]
 simp only [go_sem,UX,UY,p7,w7,↓j1,↓j2,↓j3,hG8]
end
end Go.Ev
end
section
namespace Go.Ev
def Dx (ss:List (List UInt8)):Nat->List Wr
 | 0=>[]
 | i+1=>Dx ss i ++ [(145+i,tx (ss.getD i []))]
theorem uW (ss):∀ i,(Dx ss i).length=i
 | 0=>rfl
 | i+1=>by simp only [Dx,YC,uW ss i];rfl
theorem A7 {ss}:∀ {i} {w},w ∈ Dx ss i->∃ j,j<i/\w=(145+j,tx (ss.getD j []))
 | 0,w,h=>by cases h
 | i+1,w,h=>by
  rcases Yv.1 h with h|h
  .obtain ⟨j,hj,e⟩:=A7 h
   exact ⟨j,by omega,e⟩
  .exact ⟨i,by omega,YO.1 h⟩
theorem NU {ss}:∀ {i j},j<i->((145+j,tx (ss.getD j [])):Wr) ∈ Dx ss i
 | 0,j,h=>by omega
 | i+1,j,h=>by
  simp only [Dx]
  by_cases hj:j=i
  .simp_all
  .exact QH _ (NU (by omega))
theorem tj {ss}:∀ i,((Dx ss i).map (·.1)).Nodup
 | 0=>List.nodup_nil
 | i+1=>by
  simp only [Dx,WE]
  refine QJ.2 ⟨tj i,by simp,λx hx y hy=>?_⟩
  obtain ⟨w,hw,rfl⟩:=Yc.1 hx
  obtain ⟨j,hj,rfl⟩:=A7 hw
  rw [YO.1 (by simp_all:y ∈ [145+i])]
  omega
def mz (b:Nat):MT:=⟨Yg b 0,[],rj⟩
theorem tu (b):(mz b).live.length=b:=Wb
theorem TB (b):nz (Yg b 0)=[]:=by
 unfold nz
 simp
theorem Oq {b n} (h1:1<=b) (h2:b<=8):gk (mz b) b n:=
 ⟨⟨h1,h2,tu b,λp hp=>YG (YA1.1 hp).2,by show (nz (Yg b 0)).Nodup;rw [TB];simp⟩,Yd _,trivial,by exact ⟨rfl,rfl,rfl,rfl⟩⟩
theorem Bm {b} (h2:b<=8):lg (mz b):=
 ⟨⟨by rw [tu];omega,λp hp=>by rw [(YA1.1 hp).2];unfold nn;omega⟩,by show 0<1000;omega,λs hs=>(by cases hs),kF⟩
section
variable {cp:RC->ai} {t:Nat->Option cF} {fuel:Nat} {H:Heap} {O:Nat->Prop} {pk:List UInt8->List (List UInt8)} {unpk:List (List UInt8)->Option (List UInt8)}
theorem Kt (T:aG t) {vS:V} {dp:Nat} {ss:List (List UInt8)} (hw:H.wf) (hS:Row H O vS 1 ss.length (ss.map tv)) (hn:ss.length<1000) (hfu:1000<fuel):
 ∃ G' v',ae H G'/\Gr H G' v' 2 ss.length (cC (Dx ss ss.length))/\∀ (d:Nat) (kx:Nat->KE) (e:Env) (x:R),aa s000 e = .ptr dp 0->aa s010 e = .aB->aa s051 e=vS->aa s052 e = .int 3 ss.length->aa s053 e = .int 3 0->
  (∀ e',aa s000 e' = .ptr dp 0->aa s010 e'=v'->kx 2 e' G'=x)->jF Cu fuel (aQ cp t fuel d) kx fuel e H=x:=by
 have nl:nn ss.length:=by unfold nn;omega
 obtain ⟨v',G',⟨f',g'⟩,z⟩:=bV (c:=Cu)
  (I:=λi v G=>ae H G/\Gr H G v 2 i (cC (Dx ss i)))
  (S:=λi v e=>aa s000 e = .ptr dp 0/\aa s010 e=v/\aa s051 e=vS/\aa s052 e = .int 3 ss.length/\aa s053 e = .int 3 i) (λi v G hil ⟨f,g⟩=>by
   obtain ⟨b,o,c,z,rfl,hbn,-,hrd⟩:=Row.open hS hil
   have hrd:=λ{id} {k}=>(hrd (f.same _ hbn)).2 (x:=tv ss[i]) (by simp [hil]) (id:=id) (k:=k)
   rw [Nat.mul_one]at hrd
   have hst:Dx ss (i+1)=Dx ss i ++ [(145+i,tx ss[i])]:=by simp only [Dx,YH,YB hil,WH]
   generalize ss[i]=s at hrd hst
   simp only [tv]at hrd
   have w0:=f.wf
   obtain ⟨G1,hG1,f1,p1,n1⟩:=Heap.aU w0 (.cells [.int 3 (145+i),.str s.length (enc s)])
   obtain ⟨v',G2,hap,g2,f2,-,-⟩:=Gr.app (cx:=2) (sx:=0) (f.trans f1) (g.fresh f1) p1 rfl (λz hz=>by rcases YP.1 hz with rfl|hz;rfl;rw [YO.1 hz];rfl) (by omega)
   have a1:nn i:=by unfold nn;omega
   have a2:i<9223372036854775808:=by omega
   have a3:(i+1)%18446744073709551616=i+1:=by omega
   have a4:(145+i)%18446744073709551616=145+i:=by omega
   refine ⟨v',G2,⟨f2,by rw [hst,eG];exact g2⟩,λd kx r e x ⟨q0,q10,q51,q52,q53⟩ hk=>?_⟩
   rw [ak]
   simp only [go_sem,Cu,q10,q51,q52,q53,hil,nl,a1,a2,a3,a4,↓hrd,w0,hG1,↓hap]
   refine hk _ ?_
   simp only [go_sem,q0,q51,q52,and_self]) ss.length 0 .aB H (by omega) ⟨ae.refl hw,Gr.aB⟩
 refine ⟨G',v',f',g',λd kx e x q0 q10 q51 q52 q53 hk=>z d kx fuel e x (by omega) ⟨q0,q10,q51,q52,q53⟩ λr e' ⟨q0,q10,q51,q52,q53⟩=>?_⟩
 have e6:¬ ss.length<ss.length:=by omega
 rw [ak]
 simp only [go_sem,Cu,q52,q53,nl,e6]
 exact hk _ q0 q10
set_option maxRecDepth 4000 in
theorem B6 (T:aG t) (hc:bg t) (F:bX pk unpk) (hp:t 123=some (.nat (eD pk))) {H0:Heap} {dp b n r:Nat} (h1:193<=n) (h2:n<=1024) (hr:n<=r) (b1:1<=b) (b2:b<=8) (fr:ae H0 H) (hD:cU H dp ⟨n,r,0,false,[],[]⟩ O) (own:∀ b,O b->H0.n<=b) (hfu:1000000<fuel):
 ∃ H' A' O',(∀ (d:Nat) (k:K),aj (aQ cp t fuel (d+8)) (.func 74 []) [.ptr dp 0,.int 3 b] H k=k (.int 3 0) H')/\ae H0 H'/\cU H' dp A' O'/\(∀ b,O' b->H0.n<=b)/\(∃ a n us,JD pk A' a n us)/\A'.aV=0/\A'.len=n/\A'.room=r/\LX A' (pk (nums (nw (mz b)))):=by
 generalize hF0:(⟨n,r,0,false,[],[]⟩:AD)=F0 at hD
 have e0:F0.len=n:=by rw [<- hF0]
 have e1:F0.off=false:=by rw [<- hF0]
 have e2:F0.aV=0:=by rw [<- hF0]
 have e3:F0.es=[]:=by rw [<- hF0]
 have e4:F0.us=[]:=by rw [<- hF0]
 have e5:F0.room=r:=by rw [<- hF0]
 obtain ⟨G1,O1,z1,s1,D1⟩:=Dg (cp:=cp) (fuel:=fuel) T hc hD e1 (by omega) (by omega) (by rw [e3];decide) (by rw [e4];decide) (YD (by rw [e3,e5];show 0<r;omega)) (by omega)
 obtain ⟨J,j2,j3,j4⟩:=JD.start (pk:=pk) (by omega) (by omega) e1 (by rw [e3];exact nE.nil) e2
 rw [j3]at z1
 obtain ⟨q1,q2,q3,q4⟩:=j4
 generalize (F0.runs [[(0,tx (fI 0 0))]]).1=B at D1 J j2 q1 q2 q3 q4
 have hl:=q1.trans e0
 have hrr:=q2.trans e5
 obtain ⟨fr1,own1⟩:=fr.own s1 own
 have w1:=fr1.wf
 have z1:=λ{d} {k}=>z1 d k
 obtain ⟨G2,f2,o2,-,n2,z2⟩:=Bl (x:=.int 3 0) (n:=b) rfl w1 rfl (by omega) (YA _) (a:=.s s040)
 have M2:gj G2 (λ_=>False) (mz b) (.slice G1.n 0 b (b+1) 0) .aB .aB:=⟨by
  have:=o2.toRow (O:=λ_=>False) (λb h=>h.elim)
  unfold dh
  rw [tu]
  show Row G2 _ _ 1 b ((Yg b 0).map (V.int 3))
  rw [List.map_replicate]
  exact this,⟨[],⟨rfl,λx hx=>(by cases hx),YG ⟨YG rfl,rfl⟩⟩,rfl,λi s h=>(by cases i<;>cases h)⟩,⟨rfl,λx hx=>(by cases hx),YG ⟨YG rfl,rfl⟩⟩⟩
 have hYok:gk (mz b) (mz b).live.length 1024:=by rw [tu];exact Oq b1 b2
 have henc:=hYok.enc
 have htl:=hYok.text (YA _)
 obtain ⟨G3,vS,z3,f3,hv1,hS⟩:=xE (cp:=cp) (fuel:=fuel) T F hp f2.wf M2 (Bm b2) (by omega)
 rw [henc]at z3 hS
 have hS:=hS rfl
 simp only at hS
 have z3:=λ{d} {k}=>z3 d k
 have hsz:=F.size (nums (nw (mz b))) (by omega)
 have h32:=F.len (nums (nw (mz b))) (by omega)
 have hpos:=F.pos (nums (nw (mz b))) (by omega)
 generalize pk (nums (nw (mz b)))=ss at hS hsz h32 hpos ⊢
 have hss:=by omega
 obtain ⟨G4,vw,f4,g4,z4⟩:=Kt (fuel:=fuel) (dp:=dp) T f3.wf (hS.toRow (O:=λ_=>False) (λb h=>h.elim)) (by omega) (by omega)
 have f24:=f2.trans (f3.trans f4)
 have hmem:∀ w ∈ Dx ss ss.length,145<=w.1/\w.1<n/\w.2.1=32/\um w.2:=λw hw=>by
  obtain ⟨j,hj,rfl⟩:=A7 hw
  have:(ss.getD j []).length=32:=h32 _ (by rw [YH,YB hj];exact Yl _)
  exact ⟨by show 145<=145+j;omega,by show 145+j<n;omega,this,iC _⟩
 have hwsAt:mB G4 vw (Dx ss ss.length) O1:=by
  obtain ⟨p1,p2,⟨p3,p4⟩|⟨b,c,s,p3,p4,p5,p6,p7,p8⟩⟩:=g4
  .exact absurd (YR p4) hpos
  .exact YD ⟨b,c,s,by rw [uW];exact p3,p6,p8,λhb=>by have:=D1.lt b hb;have:=f2.n;have:=f3.n;omega⟩
 have D4:=D1.fresh f24
 obtain ⟨G5,O5,z5,s5,D5⟩:=tV (cp:=cp) (fuel:=fuel) T hc F hp D4 J.BD.can hwsAt (λw hw=>⟨by have:=(hmem w hw).2.1;omega,by rw [(hmem w hw).2.2.1];omega,(hmem w hw).2.2.2⟩) (by rw [uW];omega) (by omega)
 have z5:=λ{d} {k}=>z5 d k
 have hok:=λw hw=>(hmem w hw).2.2.2
 have hcode:=J.code F j2 (by omega) hok
 have hdid:=J.eM F j2 hok
 have hmay:hU B.len [] (Dx ss ss.length)=true:=Bk (λw hw=>⟨⟨(hmem w hw).1,by rw [hl];exact (hmem w hw).2.1,(hmem w hw).2.2.1⟩,λh=>(by cases h)⟩) (tj _)
 have h0:(B.eM pk 0 (Dx ss ss.length)).2=0:=by
  rw [hcode];unfold Ev.code
  rw [uW,hmay]
  have:=WX.2 hpos
  rw [if_neg (by omega),if_neg (by omega),if_neg (by simp)]
 rw [h0]at z5
 obtain ⟨fr5,own5⟩:=(fr1.trans f24).own s5 own1
 refine ⟨G5,_,O5,λd k=>?_,fr5,D5,own5,hdid.jd,hdid.aV,hdid.len.trans hl,hdid.room.trans hrr,⟨λi hi=>?_⟩⟩
 .have hL:∀ {d} {k},aj (aQ cp t fuel (d+1)) (.func 92 []) [.ptr dp 0] H k=k (.int 3 n) H:=λ{d k}=>by rw [sd (T.jT hc) hD,e0]
  have c1:nn n:=by unfold nn;omega
  have c2:nn b:=by unfold nn;omega
  have c3:nn 193:=by unfold nn;omega
  have c4:nn 1:=by unfold nn;omega
  have c5:nn 8:=by unfold nn;omega
  have c6:¬ n<193:=by omega
  have c7:¬ b<1:=by omega
  have c8:¬ 8<b:=by omega
  have ssn:=λ{id} {f}=>hS.sn (id:=id) (f:=f)
  have c9:ss.length<9223372036854775808:=by omega
  simp only [aS,cg,mz,rj]at z3
  rw [aR T.k37 rfl rfl]
  simp only [go_sem,c37,UZ,↓hL,c1,c2,c3,c4,c5,c6,c7,c8]
  simp only [go_sem,U0,U1,↓z1,↓z2,↓z3]
  simp only [go_sem,U2,U3,U4,↓ssn,c9]
  refine z4 (d+7) _ _ _ ?_ ?_ ?_ ?_ ?_ λe' q0 q10=>?_
  .rfl
  .rfl
  .rfl
  .rfl
  .rfl
  simp only [go_sem,U5,U6,q0,q10,↓z5]
 .have hy:=(hdid.yes h0).1 (145+i) (by omega)
  have hin:=NU (ss:=ss) hi
  have:=eS (es:=B.es) (tj ss.length) hin
  rw [AD.read,hy,this,YH,YB hi]
  rfl
end
end Go.Ev
end
section
namespace Go.Ev
section
variable {cp:RC->ai} {t:Nat->Option cF} {fuel:Nat} {H:Heap}
end
end Go.Ev
end
section
namespace Go.Ev
theorem th {a b}:Du a b↔eK a b=true:=by
 unfold Du eK
 simp
section
variable {cp:RC->ai} {t:Nat->Option cF} {fuel:Nat} {H:Heap}
end
end Go.Ev
end
section
namespace Go.Ev
section
variable {cp:RC->ai} {t:Nat->Option cF} {fuel:Nat} {H:Heap}
end
end Go.Ev
end
section
namespace Go.Ev
section
variable {cp:RC->ai} {t:Nat->Option cF} {fuel:Nat} {H:Heap}
end
end Go.Ev
end
section
namespace Go.Ev
section
variable {cp:RC->ai} {t:Nat->Option cF} {fuel:Nat} {H:Heap}
end
end Go.Ev
end
section
namespace Go.Ev
def rf (l:List Tx) (cs:List Wr):Nat->List Tx
 | 0=>l
 | i+1=>(rf l cs i).set (cs.getD i (0,(0,0))).1 (cs.getD i (0,(0,0))).2
theorem II {l} {cs}:∀ i,(rf l cs i).length=l.length
 | 0=>rfl
 | i+1=>by simp only [rf,YI4,II i]
section
variable {cp:RC->ai} {t:Nat->Option cF} {fuel:Nat} {H:Heap}
end
end Go.Ev
end
section
namespace Go.Ev
section
variable {cp:RC->ai} {t:Nat->Option cF} {fuel:Nat} {H:Heap}
end
end Go.Ev
end
section
namespace Go.Ev
def ie (c n:Nat):List UInt8:=Yg n (UInt8.ofNat c)
theorem fA {c n}:(ie c n).length=n:=Wb
theorem GM {c n}:ie c (n+1)=ie c n ++ [UInt8.ofNat c]:=List.replicate_succ'
theorem K3 {c i} (h:c<256):HN (enc (ie c i)) i 1 c=enc (ie c (i+1)):=by
 have h1:=iC (ie c i)
 rw [fA]at h1
 have h2:enc (ie c i) >>> (8*(i+1))=0:=by
  rw [wu,List.drop_eq_nil_of_le (by rw [fA];omega)]
  rfl
 rw [GM,iB,fA]
 unfold HN
 rw [h2,Nat.mod_eq_of_lt h1]
 simp only [enc]
 have h3:(UInt8.ofNat c).toNat=c:=by simp_all
 rw [h3]
def dT (c:Nat):Tx:=(32,enc (ie c 32))
theorem Vd (c):um (dT c):=by
 have:=iC (ie c 32)
 exact this
section
variable {cp:RC->ai} {t:Nat->Option cF} {fuel:Nat} {H:Heap}
end
end Go.Ev
end
section
namespace Go.Ev
section
variable {cp:RC->ai} {t:Nat->Option cF} {fuel:Nat} {H:Heap}
end
end Go.Ev
end
section
namespace Go.Ev
theorem lV:∀ {l} {i} {g},l[i]? = some g->((bz l).drop (i*2)).take 2=bq g
 | [],i,g,h=>by simp_all
 | a :: l,0,g,h=>by
  simp at h
  subst h
  rfl
 | a :: l,i+1,g,h=>by
  have:=lV (by simpa using h)
  rw [show (i+1)*2=i*2+2 by omega]
  exact this
section
variable {H0 H G:Heap} {dp vp a n p:Nat} {A:AD} {O:Nat->Prop} {m:MT} {vl vs vi v:V}
end
section
variable {cp:RC->ai} {t:Nat->Option cF} {fuel:Nat} {H:Heap}
end
end Go.Ev
end
section
namespace Go.Ev
theorem Dk (cs):(dw cs).Nodup:=List.Pairwise.filter _ List.nodup_range
theorem Ks {cs} {i} (h:i ∈ dw cs):193<=i/\i<cs.length/\cs[i]? = some 0:=by
 unfold dw at h
 rw [Wo,List.mem_range,decide_eq_true_eq]at h
 exact ⟨h.2.1,h.1,h.2.2⟩
theorem wD {m} {n i} {cs} (h:i ∈ iD m n cs):193<=i/\i<n/\∀ l ∈ dR m,i ∉ l:=by
 obtain ⟨h1,h2,h3⟩:=Ks (WN h)
 unfold gA at h2 h3
 rw [dO]at h2
 rw [rO h2,Option.some.injEq,List.count_eq_zero]at h3
 refine ⟨h1,h2,λl hl hi=>h3 ?_⟩
 unfold nz
 rw [Wo,List.mem_flatten]
 exact ⟨⟨l,hl,hi⟩,by simp;omega⟩
theorem wE {m} {n} {cs}:(iD m n cs).Nodup:=(Dk _).sublist (YN0 _ _)
theorem Dh {m} {n} {cs} (h:¬ (dw (gA m n)).length<fy cs cs.length):(iD m n cs).length=fy cs cs.length:=by
 unfold iD
 simp_all
theorem Bw {cs} {fr}:∀ {i j},j<i->(Bv cs fr i)[j]? = some (if (cs.getD j (0,(32,0))).2=(32,0) then 0 else fr.getD (fy cs j) 0)
 | 0,j,h=>by omega
 | i+1,j,h=>by
  simp only [Bv]
  by_cases hj:j<i
  .rw [List.getElem?_append_left (by rw [sf];omega)]
   exact Bw hj
  .obtain rfl:j=i:=by omega
   rw [List.getElem?_append_right (by rw [sf];omega),sf,Nat.sub_self]
   rfl
theorem JG {cs} {fr} {w}:∀ {i},w ∈ El cs fr i->∃ j,j<i/\(cs.getD j (0,(32,0))).2≠(32,0)/\w=(fr.getD (fy cs j) 0,(cs.getD j (0,(32,0))).2)
 | 0,h=>by cases h
 | i+1,h=>by
  rcases Yv.1 h with h|h
  .obtain ⟨j,h1,h2⟩:=JG h
   exact ⟨j,by omega,h2⟩
  .split at h
   .cases h
   .rename_i hne
    exact ⟨i,by omega,hne,YO.1 h⟩
theorem OY {cs:List Wr} {fr}:∀ {i j},j<i->(cs.getD j (0,(32,0))).2≠(32,0)->((fr.getD (fy cs j) 0,(cs.getD j (0,(32,0))).2):Wr) ∈ El cs fr i
 | 0,j,h,_=>by omega
 | i+1,j,h,hne=>by
  simp only [El]
  by_cases hj:j<i
  .exact QH _ (OY hj hne)
  .obtain rfl:j=i:=by omega
   simp_all
theorem Hq {cs:List Wr} {i j} (h:j<i) (hne:(cs.getD j (0,(32,0))).2≠(32,0)):fy cs j<fy cs i:=by
 have h1:fy cs (j+1)=fy cs j+1:=by simp only [fy,if_neg hne]
 have h2:=xe (cs:=cs) (i:=j+1) h
 omega
theorem Em {cs} {fr}:∀ {i},fy cs i<=fr.length->(El cs fr i).map (·.1)=fr.take (fy cs i)
 | 0,_=>rfl
 | i+1,h=>by
  simp only [El,fy]at h ⊢
  rw [WE,Em (by omega)]
  by_cases hz:(cs.getD i (0,(32,0))).2=(32,0)
  .simp_all
  .rw [if_neg hz]at h
   rw [if_neg hz,if_neg hz,QY,YH,YB (show fy cs i<fr.length by omega)]
   rfl
structure eo (m:MT) (n:Nat) (cs:List Wr):Prop where
 room:¬ (dw (gA m n)).length<fy cs cs.length
 ok:∀ c ∈ cs,c.2.1=32/\um c.2
theorem eo.fr {m:MT} {n:Nat} {cs:List Wr} (h:eo m n cs) {j:Nat} (hj:j<cs.length) (hne:(cs.getD j (0,(32,0))).2≠(32,0)):∃ q,(iD m n cs)[fy cs j]? = some q/\(iD m n cs).getD (fy cs j) 0=q/\q ∈ iD m n cs:=by
 have h1:=Dh h.room
 have h2:=Hq hj hne
 have h3:fy cs j<(iD m n cs).length:=by omega
 exact ⟨(iD m n cs)[fy cs j],YB h3,by rw [YH,YB h3];rfl,Yl h3⟩
def pW (m:MT) (n:Nat) (cs:List Wr):List Wr:=El cs (iD m n cs) cs.length
def pA (m:MT) (n:Nat) (cs:List Wr):List Nat:=Bv cs (iD m n cs) cs.length
theorem eo.w {m:MT} {n:Nat} {cs:List Wr} (h:eo m n cs) {w:Wr} (hw:w ∈ pW m n cs):193<=w.1/\w.1<n/\w.2.1=32/\um w.2/\∀ l ∈ dR m,w.1 ∉ l:=by
 obtain ⟨j,hj,hne,rfl⟩:=JG hw
 obtain ⟨q,h1,h2,h3⟩:=h.fr hj hne
 obtain ⟨g1,g2,g3⟩:=wD h3
 have hc:cs.getD j (0,(32,0)) ∈ cs:=by rw [YH,YB hj];exact Yl hj
 obtain ⟨k1,k2⟩:=h.ok _ hc
 rw [h2]
 exact ⟨g1,g2,k1,k2,g3⟩
theorem eo.nodup {m:MT} {n:Nat} {cs:List Wr} (h:eo m n cs):((pW m n cs).map (·.1)).Nodup:=by
 unfold pW
 rw [Em (by rw [Dh h.room];exact YA _)]
 exact wE.sublist (YN0 _ _)
theorem eo.len {m:MT} {n:Nat} {cs:List Wr}:(pW m n cs).length<=cs.length:=by
 unfold pW
 rw [Bx]
 exact qP _ _
theorem eo.read {m:MT} {n:Nat} {cs:List Wr} (h:eo m n cs) {A':AD} (hA:∀ w ∈ pW m n cs,A'.read w.1=w.2) {j:Nat} (hj:j<cs.length):∃ q,(pA m n cs)[j]? = some q/\iZ A' q=(cs.getD j (0,(32,0))).2/\(q=0\/193<=q/\q<n/\(q ∈ iD m n cs)/\(iD m n cs)[fy cs j]? = some q/\(cs.getD j (0,(32,0))).2≠(32,0)):=by
 unfold pA
 rw [Bw hj]
 by_cases hz:(cs.getD j (0,(32,0))).2=(32,0)
 .rw [if_pos hz]
  exact ⟨0,rfl,by rw [hz];rfl,YG rfl⟩
 .rw [if_neg hz]
  obtain ⟨q,h1,h2,h3⟩:=h.fr hj hz
  obtain ⟨g1,g2,g3⟩:=wD h3
  have hin:=hA _ (OY (fr:=iD m n cs) hj hz)
  rw [h2]at hin ⊢
  refine ⟨q,rfl,?_,YD ⟨g1,g2,h3,h1,hz⟩⟩
  unfold iZ
  rw [if_neg (by omega)]
  exact hin
end Go.Ev
end
section
namespace Go.Ev
theorem sN.pl {t:Tk} {last:Gd} {b n:Nat} (h:sN t last b n):∀ q ∈ t.cD,q=0\/193<=q/\q<n:=by
 unfold sN at h
 split at h
 .rw [h.2.2.2];exact λq hq=>by cases hq
 .exact h.2.2.2.2.2.pl
theorem gk.pl {m:MT} {b n:Nat} (h:gk m b n):∀ l ∈ dR m,∀ q ∈ l,q=0\/193<=q/\q<n:=by
 intro l hl q hq
 unfold dR at hl
 rcases YP.1 hl with rfl|hl
 .exact h.live.pl q hq
 rcases YP.1 hl with rfl|hl
 .exact h.tok.pl q hq
 .obtain ⟨s,hs,rfl⟩:=Yc.1 hl
  exact (h.ah.mem hs).pl q hq
structure Ci where
 e0:Nat
 m1:MT
 bw:List Wr
structure Chg (pk:List UInt8->List (List UInt8)) (A:AD) (m':MT) (bw:List Wr) (g:Nat->Option Tx):Prop where
 tab:∀ i (h:i<(pk (nums (nw m'))).length),(g (145+i)).getD (32,0)=tx (pk (nums (nw m')))[i]
 wr:∀ w ∈ bw,(g w.1).getD (32,0)=w.2
 other:∀ q,193<=q->q ∉ bw.map (·.1)->(g q).getD (32,0)=A.read q
variable {pk:List UInt8->List (List UInt8)} {unpk:List (List UInt8)->Option (List UInt8)}
theorem J5 (F:bX pk unpk) {nb} {A} {m'} {bw} (hlo:193<=A.len) (hi:A.len<=1024) (Y:gk m' nb A.len) (h8:m'.live.length=nb) (hbw:∀ w ∈ bw,193<=w.1/\w.1<A.len/\w.2.1=32/\um w.2) (hnd:(bw.map (·.1)).Nodup) (hbl:bw.length<=12):
 (oO m').2=0/\(Q5 pk A m' bw).length<=60/\hU A.len [] (Q5 pk A m' bw)=true/\(∀ w ∈ Q5 pk A m' bw,um w.2)/\Chg pk A m' bw (find (laid A.es (Q5 pk A m' bw))):=by
 have hY:=Y.mono hi
 have henc:=by
  have:gk m' m'.live.length 1024:=by rw [h8];omega
  exact this.enc
 have htl:=Y.text hi
 have hsz:=F.size (nums (nw m')) (by omega)
 have h32:=F.len (nums (nw m')) (by omega)
 unfold Q5
 rw [henc]
 generalize hss:pk (nums (nw m'))=ss at hsz h32
 have hl:=rR A ss ss.length
 have hd:∀ w ∈ iw A ss ss.length,145<=w.1/\w.1<193/\w.2.1=32/\um w.2:=λw hw=>by
  obtain ⟨j,hj,rfl⟩:=od hw
  have:(ss.getD j []).length=32:=h32 _ (by rw [YH,YB hj];exact Yl _)
  exact ⟨by omega,by omega,this,iC _⟩
 have hnd':((iw A ss ss.length ++ bw).map (·.1)).Nodup:=by
  rw [WE]
  refine QJ.2 ⟨qF _,hnd,λx hx y hy=>?_⟩
  obtain ⟨w,hw,rfl⟩:=Yc.1 hx
  obtain ⟨v,hv,rfl⟩:=Yc.1 hy
  have:=(hd w hw).2.1
  have:=(hbw v hv).1
  omega
 refine ⟨rfl,by simp only [YC];omega,Bk (λw hw=>⟨?_,λh=>(by cases h)⟩) hnd',λw hw=>(Yv.1 hw).elim (λh=>(hd w h).2.2.2) λh=>(hbw w h).2.2.2,⟨λi h=>?_,λw hw=>?_,λq h1 h2=>?_⟩⟩
 .rcases Yv.1 hw with h|h
  .obtain ⟨a1,a2,a3,-⟩:=hd w h;exact ⟨a1,by omega,a3⟩
  .obtain ⟨a1,a2,a3,-⟩:=hbw w h;exact ⟨by omega,a2,a3⟩
 .subst hss
  rw [iU,dC (λhk=>by obtain ⟨v,hv,e⟩:=Yc.1 hk;have:=(hbw v hv).1;omega)]
  have:=Ka (B:={A with es:=laid A.es (iw A (pk (nums (nw m'))) (pk (nums (nw m'))).length)}) (λk _=>rfl) h
  rw [YH,YB h,WH]at this
  exact this
 .rw [iU,eS hnd hw]
  rfl
 .rw [iU,dC h2,dC (λhk=>by obtain ⟨v,hv,e⟩:=Yc.1 hk;have:=(hd v hv).2.1;omega)]
  rfl
theorem Chg.congr {A:AD} {m':MT} {bw:List Wr} {g g':Nat->Option Tx} (h:Chg pk A m' bw g) (e:∀ k,145<=k->g' k=g k) (hb:∀ w ∈ bw,193<=w.1):Chg pk A m' bw g':=
 ⟨λi hi=>by rw [e _ (by omega)];exact h.tab i hi,λw hw=>by rw [e _ (by have:=hb w hw;omega)];exact h.wr w hw,λq h1 h2=>by rw [e _ (by omega)];exact h.other q h1 h2⟩
end Go.Ev
end
section
namespace Go.Ev
theorem XX {l} {x}:x ∈ nz l↔x ∈ l/\x≠0:=by
 unfold nz
 simp
theorem jA:∀ {l:List Nat},(nz l).Nodup ↔ ∀ (i j x:Nat),i<j->l[i]? = some x->l[j]? = some x->x=0
 | []=>by simp [nz]
 | p :: l=>by
  rw [Jx]
  by_cases p0:p=0
  .rw [if_pos p0,jA]
   constructor
   .intro h i j x hij hi hj
    cases i with
    | zero=>simp_all
    | succ i=>
     cases j with
     | zero=>omega
     | succ j=>exact h i j x (by omega) (by simp_all) (by simpa using hj)
   .intro h i j x hij hi hj
    exact h (i+1) (j+1) x (by omega) (by simp_all) (by simp_all)
  .rw [if_neg p0,List.nodup_cons,jA,XX]
   constructor
   .rintro ⟨h0,h⟩ i j x hij hi hj
    cases j with
    | zero=>omega
    | succ j=>
     cases i with
     | zero=>
      simp at hi hj
      exact absurd ⟨YY (by rw [hi];exact hj),p0⟩ h0
     | succ i=>exact h i j x (by omega) (by simp_all) (by simp_all)
   .intro h
    refine ⟨λhm=>?_,λi j x hij hi hj=>h (i+1) (j+1) x (by omega) (by simp_all) (by simpa using hj)⟩
    obtain ⟨j,hj⟩:=QF hm.1
    exact p0 (h 0 (j+1) p (by omega) rfl (by simp_all))
theorem gY.snoc {b n:Nat} {s:Sn}:∀ {ss:List Sn} {last:Gd},gY b n last ss->Du s.g (yS last ss)->iO s.cD b n->gY b n last (ss ++ [s])
 | [],last,_,h1,h2=>⟨h1,h2,trivial⟩
 | a :: ss,last,h,h1,h2=>⟨h.1,h.2.1,gY.snoc h.2.2 h1 h2⟩
theorem gY.take {b n:Nat}:∀ {ss:List Sn} {last:Gd} (k:Nat),gY b n last ss->gY b n last (ss.take k)
 | ss,last,0,_=>by rw [List.take_zero];trivial
 | [],last,k+1,_=>by rw [List.take_nil];trivial
 | a :: ss,last,k+1,h=>⟨h.1,h.2.1,gY.take k h.2.2⟩
theorem wQ {s}:∀ {ss} {last},yS last (ss ++ [s])=s.g
 | [],last=>rfl
 | a :: ss,last=>wQ (last:=a.g)
theorem uZ (m):(eH m).g=yS (0,0) m.ah:=by
 rcases hn:m.ah.length with _|q
 .rw [l7 hn,YR hn]
  rfl
 .have hs:m.ah[q]? = some m.ah[q]:=YB (by omega)
  rw [l5 hs hn]
  have:m.ah=m.ah.take q ++ [m.ah[q]]:=by
   have h1:=QY (l:=m.ah) (i:=q)
   rw [Ya (by omega),hs]at h1
   exact h1
  generalize m.ah[q]=s at this
  rw [this,wQ]
theorem sC (last) (b n):sN rj last b n:=by exact ⟨rfl,rfl,rfl,rfl⟩
theorem gh {m} (h:Go.Ev.lg m):∀ s ∈ m.ah,jm s.g:=λs hs=>(h.ah s hs).1
section
variable {pk:List UInt8->List (List UInt8)} {A:AD} {a n:Nat} {us:List Wr} {m:MT}
end
end Go.Ev
end
section
namespace Go.Ev
theorem xO.get {cs:List Wr} {b:Nat} (h:xO cs b) {j:Nat} (hj:j<cs.length):(cs.getD j (0,(0,0))).1<b/\(cs.getD j (0,(32,0)))=cs.getD j (0,(0,0)):=by
 rw [YH,YH,YB hj]
 exact ⟨(h.lt _ (Yl hj)).1,rfl⟩
theorem mj {cs} {b} {l at_} (h:xO cs b) (hl:l.length=b):∀ {i},i<=cs.length->∀ {k x},(ij l cs at_ i)[k]? = some x->(∃ j,j<i/\(cs.getD j (0,(0,0))).1=k/\x=at_.getD j 0)\/(l[k]? = some x/\∀ j,j<i->(cs.getD j (0,(0,0))).1≠k)
 | 0,_,k,x,hx=>YD ⟨hx,λj hj=>by omega⟩
 | i+1,hi,k,x,hx=>by
  simp only [ij]at hx
  rw [List.getElem?_set]at hx
  by_cases hk:(cs.getD i (0,(0,0))).1=k
  .rw [if_pos hk,if_pos (by simp_all)]at hx
   cases hx
   exact YG ⟨i,by omega,hk,rfl⟩
  .rw [if_neg hk]at hx
   rcases mj h hl (by omega) hx with ⟨j,h1,h2,h3⟩|⟨h1,h2⟩
   .exact YG ⟨j,by omega,h2,h3⟩
   .refine YD ⟨h1,λj hj=>?_⟩
    by_cases hji:j<i
    .simp_all
    .obtain rfl:j=i:=by omega
     omega
theorem eo.at_ {m:MT} {n:Nat} {cs:List Wr} (P:eo m n cs) {j:Nat} (hj:j<cs.length):(pA m n cs).getD j 0=0\/((cs.getD j (0,(32,0))).2≠(32,0)/\(iD m n cs)[fy cs j]? = some ((pA m n cs).getD j 0)/\193<=(pA m n cs).getD j 0/\(pA m n cs).getD j 0<n/\∀ l ∈ dR m,(pA m n cs).getD j 0 ∉ l):=by
 have hg:(pA m n cs).getD j 0=if (cs.getD j (0,(32,0))).2=(32,0) then 0 else (iD m n cs).getD (fy cs j) 0:=by
  unfold pA
  rw [YH,Bw hj]
  rfl
 rw [hg]
 by_cases hz:(cs.getD j (0,(32,0))).2=(32,0)
 .rw [if_pos hz];exact YG rfl
 .rw [if_neg hz]
  obtain ⟨q,h1,h2,h3⟩:=P.fr hj hz
  obtain ⟨g1,g2,g3⟩:=wD h3
  rw [h2]
  exact YD ⟨hz,h1,g1,g2,g3⟩
theorem KQ {l:List Nat} (h:l.Nodup) {i j x:Nat} (hi:l[i]? = some x) (hj:l[j]? = some x):i=j:=by
 obtain ⟨h1,e1⟩:=YX.1 hi
 obtain ⟨h2,e2⟩:=YX.1 hj
 exact (List.getElem_inj h).1 (e1.trans e2.symm)
theorem uX {nb:Nat} {m:MT} {n:Nat} {cs:List Wr} {l:List Nat} (hl:iO l nb n) (hlm:l ∈ dR m\/∀ q ∈ l,q=0) (P:eo m n cs) (ch:xO cs nb):iO (ij l cs (pA m n cs) cs.length) nb n:=by
 refine ⟨hl.lo,hl.hi,by rw [zG];exact hl.len,λq hq=>?_,jA.2 λi j x hij hi hj=>?_⟩
 .obtain ⟨k,hk⟩:=QF hq
  rcases mj ch hl.len (YA _) hk with ⟨j,h1,-,h3⟩|⟨h1,-⟩
  .rcases P.at_ h1 with h|⟨-,-,h4,h5,-⟩
   .exact YG (h3.trans h)
   omega
  .exact hl.pl q (YY h1)
 .have hno:∀ {q k},l[k]? = some q->(∀ l ∈ dR m,q ∉ l)->q=0:=λ{q k} h1 h2=>by
   rcases hlm with h|h
   .exact absurd (YY h1) (h2 l h)
   .exact h q (YY h1)
  rcases mj ch hl.len (YA _) hi with ⟨a,a1,a2,a3⟩|⟨a1,a2⟩
  .rcases mj ch hl.len (YA _) hj with ⟨b,b1,b2,b3⟩|⟨b1,b2⟩
   .rcases P.at_ a1 with h|⟨h2,h3,-⟩
    .exact a3.trans h
    .rcases P.at_ b1 with h'|⟨h2',h3',-⟩
     .exact b3.trans h'
     .rw [<- a3]at h3
      rw [<- b3]at h3'
      have hab:=KQ wE h3 h3'
      exfalso
      rcases Nat.lt_trichotomy a b with hh|hh|hh
      .have:=Hq hh h2;omega
      .subst hh;omega
      .have:=Hq hh h2';omega
   .rcases P.at_ a1 with h|⟨-,-,-,-,h5⟩
    .exact a3.trans h
    .rw [<- a3]at h5
     exact hno b1 h5
  .rcases mj ch hl.len (YA _) hj with ⟨b,b1,b2,b3⟩|⟨b1,b2⟩
   .rcases P.at_ b1 with h|⟨-,-,-,-,h5⟩
    .exact b3.trans h
    .rw [<- b3]at h5
     exact hno a1 h5
   .exact jA.1 hl.nd i j x hij a1 b1
theorem rW {m} {n} {cs} {l} {A'} (P:eo m n cs) (ch:xO cs 8) (hA:∀ w ∈ pW m n cs,A'.read w.1=w.2):∀ {i},i<=cs.length->(ij l cs (pA m n cs) i).map (iZ A')=rf (l.map (iZ A')) cs i
 | 0,_=>rfl
 | i+1,hi=>by
  simp only [ij,rf]
  rw [List.map_set,rW P ch hA (by omega)]
  obtain ⟨q,h1,h2,-⟩:=P.read hA (j:=i) (by omega)
  rw [YH (l:=pA m n cs),h1,WH,h2,(ch.get (by omega)).2]
theorem xO.one {nb b:Nat} {d:Tx} (hb:b<nb) (hd:d.1=32) (hk:um d):xO [(b,d)] nb:=⟨λc hc=>by rw [YO.1 hc];exact ⟨hb,hd,hk⟩,λi hi=>by simp at hi⟩
section
variable {pk:List UInt8->List (List UInt8)} {A:AD} {a n:Nat} {us:List Wr} {m:MT}
end
end Go.Ev
end
section
namespace Go.Ev
variable {cp:RC->ai} {t:Nat->Option cF} {fuel:Nat} {H:Heap} {pk:List UInt8->List (List UInt8)} {unpk:List (List UInt8)->Option (List UInt8)}
end Go.Ev
end
section
namespace Go.Ev
open Go.Proofs
theorem Dc {k}:∀ {L:List (List Nat)},(∀ l ∈ L,l.length<=k)->L.flatten.length<=L.length*k
 | [],_=>Yd _
 | l :: L,h=>by
  have h1:=h l (YJ ..)
  have h2:=Dc λx hx=>h x (YI _ hx)
  rw [List.flatten_cons,YC,YF,Nat.add_mul]
  omega
theorem Ti {m} (h:lg m):(dR m).flatten.length<1000000:=by
 have h1:∀ l ∈ dR m,l.length<=100:=λl hl=>by
  rcases YP.1 hl with rfl|hl
  .exact QN h.live.1
  rcases YP.1 hl with rfl|hl
  .exact QN h.tok.2.2.2.2.1
  .obtain ⟨s,hs,rfl⟩:=Yc.1 hl
   exact QN (h.ah s hs).2.1
 have h2:=Dc h1
 have h3:(dR m).length=m.ah.length+2:=by unfold dR;simp
 have:=h.num
 omega
theorem TD {l} {i x} (h:Jy l) (hx:x<1024):Jy (l.set i x):=⟨by rw [YI4];exact h.1,λp hp=>by
 rcases List.mem_or_eq_of_mem_set hp with hp|rfl
 .exact h.2 p hp
 .unfold nn;omega⟩
theorem OI {m} (h:lg m):Jy (eH m).cD:=by
 rcases hn:m.ah.length with _|q
 .rw [l7 hn]
  exact ⟨by rw [Wb];exact h.live.1,λp hp=>by rw [(YA1.1 hp).2];unfold nn;omega⟩
 .have hs:m.ah[q]? = some m.ah[q]:=YB (by omega)
  rw [l5 hs hn]
  exact (h.ah _ (Yl _)).2
theorem X0 {m} {n b} {d} (h:lg m) (hn:n<=1024):lg (LM m n b d):=by
 refine ⟨TD h.live ?_,h.num,h.ah,h.tok⟩
 rw [YH]
 rcases hx:(Bv [(b,d)] (iD m n [(b,d)]) 1)[0]? with _|x
 .simp
 .exact OX (NN hn) 1 x (YY hx)
theorem XZ {m} {g} (h:lg m) (hg:jm g) (hl:m.ah.length<900):lg (Q9 m g):=⟨h.live,by show (m.ah ++ [_]).length<1000;rw [YC];show m.ah.length+1<1000;omega,λs hs=>(Yv.1 hs).elim (h.ah s) λe=>by rw [YO.1 e];exact ⟨hg,h.live⟩,kF⟩
theorem XY {m} {q} (h:lg m):lg (Er {m with tok:=rj } q):=by
 have h2:lg ({m with ah:=m.ah.take q,tok:=rj }:MT):=⟨h.live,by rw [Yp];have:=h.num;omega,λs hs=>h.ah s (WN hs),kF⟩
 exact ⟨OI h2,h2.num,h2.ah,kF⟩
section
variable (pk:List UInt8->List (List UInt8)) (A:AD) (a:Nat) (m:MT) (o:Ci)
def Ci.E:Nat:=if o.e0≠0 then o.e0 else (sH pk A a o.m1 o.bw).2
def Ci.A1:AD:=if o.e0≠0 then A else (sH pk A a o.m1 o.bw).1
def Ci.M:MT:=if o.e0≠0 then m else I6 pk A a m o.m1 o.bw
def Ci.L:Bool:=if o.e0≠0 then false else Q4 pk A a o.m1 o.bw
end
def snO (m:MT) (g:Gd):Ci:=⟨if eK g (eH m).g=false then 2 else if 20<=m.ah.length then 3 else 0,Q9 m g,[]⟩
instance ZI (m:MT) (n b:Nat) (d:Tx):Decidable (lI m n b d):=inferInstanceAs (Decidable (_<_))
section
variable {t:Nat->Option cF} {fuel:Nat} {H:Heap} {pk:List UInt8->List (List UInt8)} {unpk:List (List UInt8)->Option (List UInt8)}
variable {dp vp a n:Nat} {A:AD} {O:Nat->Prop} {m:MT} {vl vs vi:V} {us:List Wr}
def Rb (pk:List UInt8->List (List UInt8)) (t:Nat->Option cF) (fuel dd:Nat) (H:Heap) (dp vp a:Nat) (A:AD) (O:Nat->Prop) (m:MT) (vl vs vi:V) (o:Ci) (f:V) (args:List V):Prop:=
 ∃ H' O',(∀ (d:Nat) (k:K),aj (aQ (aO Tryz.prog) t fuel (d+dd)) f args H k=k (.int 3 (o.E pk A a)) H')/\rz H H' dp vp O O' m vl vs vi (o.A1 pk A a) (o.M pk A a m) (o.L pk A a)
theorem aa5 (c):tx (ie c 32)=dT c:=by rfl
theorem Un (T:aG t) (hc:bg t) (F:bX pk unpk) (hp:t 123=some (.nat (eD pk))) (S:VP H dp vp a n A O m vl vs vi) {g} (hg:jm g) (hl:m.ah.length<900) (hfu:1000000<fuel):
 Rb pk t fuel 9 H dp vp a A O m vl vs vi (snO m g) (.func 44 []) [.ptr vp 0,.agg (bq g)]:=by
 obtain ⟨H',O',z,hd⟩:=Ll T hc F hp S hg (XZ S.ok hg hl) hfu
 refine ⟨H',O',λd k=>?_,?_⟩
 .rw [z]
  unfold Ci.E snO
  rcases h1:eK g (eH m).g with _|_
  .simp
  simp_all
 .unfold Ci.A1 Ci.M Ci.L snO
  rcases h1:eK g (eH m).g with _|_
  .simp_all
  simp_all
end
end Go.Ev
end

