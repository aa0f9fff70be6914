/- VC: a part of the evaluator,of its logic,or of the laws' walk in it. -/
import Derived.Test.YtnndgkcpacpleaaGreatDoorVB
open List renaming getElem?_eq_getElem → YA,length_append → YC,getD_eq_getElem?_getD → YF,length_cons → YH,mem_cons_of_mem → YI,mem_cons_self → YJ,nil_append → YK,cons_append → YL,map_cons → YP,eq_nil_of_length_eq_zero → YQ,append_nil → YR,mem_of_getElem? → YS,mem_singleton → YU,take_of_length_le → YV,getElem_mem → YW,replicate → YZ,mem_cons → Yb,map_nil → Yc,mem_map → Yi,getElem?_append_right → Ym,mem_append → Yn,getElem?_eq_some_iff → Yo,getElem?_append_left → Yp,length_map → Ys,map_append → WB,drop_zero → WH,length_drop → WM,length_pos_iff → WW,mem_of_mem_take → Wc,findIdx?_eq_some_iff_getElem → Wh,mem_filter → Wl,map_congr_left → Wu,take_add_one → Ww,drop_append_of_le_length → Wx,take_append_of_le_length → Wy,length_replicate → Wz,mem_append_left → QC,map_replicate → QP,getElem?_of_mem → QT,nodup_append → QV,take_left' → Qk,length_set → YA0,take_take → YE4,mem_replicate → YF2,replicate_succ' → YK1,findIdx?_cons → YM3,take_sublist → YN4
open Nat renaming le_refl → YB,lt_of_lt_of_le → YD,zero_le → Yf,le_trans → Yr,zero_add → WJ,add_zero → WL,add_mul → Wi,sub_self → QR,le_of_lt → QY
open Or renaming inr → YE,inl → YG
open Bool renaming false_eq_true → YT,not_true → Ql,true_eq_false → YE3,and_true → YH0
open Option renaming getD_some → Yl,getD_none → Wq
set_option linter.unusedVariables false
set_option linter.unusedSimpArgs false
set_option linter.unusedSectionVars false
set_option maxHeartbeats 8000000
open Nat renaming reduceAdd→ZA,reduceSub→ZB,reduceMul→ZC,reduceEqDiff→ZD,reduceLT→ZE,reduceDiv→ZF,reduceMod→ZG,reduceLeDiff→ZH
section
namespace Go.Ev
structure MK (A:AD) (ss:List (List UInt8)):Prop where
 at_:∀ i (h:i<ss.length),A.read (145+i)=tx ss[i]
section
variable {cp:RC->ah} {t:Nat->Option cP} {fuel:Nat} {H:Heap} {O:Nat->Prop} {pk:List UInt8->List (List UInt8)} {unpk:List (List UInt8)->Option (List UInt8)}
theorem Ls (T:aA t) (hc:aY t) (hu:t 119=some (.nat (ev unpk))) {dp:Nat} {A:AD} {ss:List (List UInt8)} {tt:List UInt8} (hD:cN H dp A O) (ho:A.off=false) (hA:193<=A.len) (hA2:A.len<=1024) (hn:ss.length<=48) (h0:ss≠[]) (h32:∀ s ∈ ss,s.length=32) (hT:MK A ss) (hs:∀ k,k<ss.length->unpk (ss.take k)=none) (hb:unpk ss=some tt) (hfu:1000<fuel):
 ∃ H',(∀ (d:Nat) (k:K),aj (aN cp t fuel (d+4)) (.func 90 []) [.ptr dp 0] H k=k (.cH [tv tt,.int 3 0]) H')/\af H H':=by
 have hl0:=WW.2 h0
 have n48:nn 48:=by unfold nn;omega
 have rd:∀ (i) (v) (G),i<ss.length->af H G->Gr H G v 1 i ((ss.take i).map tv)->∃ v' G',af H G'/\Gr H G' v' 1 (i+1) ((ss.take (i+1)).map tv)/\∀ (d) (kx) (kn) (e) (x),ae s000 e = .ptr dp 0->ae s004 e=v->
  (unpk (ss.take (i+1))=none->∀ e',ae s000 e' = .ptr dp 0->ae s004 e'=v'->kn e' G'=x)->(unpk (ss.take (i+1))=some tt->∀ e',ae s002 e'=tv tt->ae s003 e' = .int 3 0->kx 0 e' G'=x)->(unpk (ss.take (i+1))=none\/unpk (ss.take (i+1))=some tt)->eR LH fuel (aN cp t fuel (d+3)) e G kn kx=x:=by
  intro i v G hil f g
  have hrd:=hT.at_ i hil
  have h32i:=h32 _ (YW hil)
  have htk:ss.take (i+1)=ss.take i ++ [ss[i]]:=by rw [Ww,YA hil];rfl
  obtain ⟨G1,z1,f1⟩:=pQ (cp:=cp) (fuel:=fuel) (a:=145+i) (T.jh hc) (hD.fresh f) ho (by omega)
  have z1:=λ{d} {k}=>z1 d k
  rw [hrd,Zk]at z1
  generalize ss[i]=s at htk z1 h32i
  have w1:=f1.wf
  obtain ⟨G2,hG2,f2,p2,n2⟩:=Heap.aO w1 (.cells [tv s])
  obtain ⟨v',G3,hap,g3,f3,-,-⟩:=Gr.app (cx:=2) (sx:=0) (f.trans (f1.trans f2)) ((g.fresh f1).fresh f2) p2 rfl (λz hz=>by rw [YU.1 hz];rfl) (by omega)
  have hrow:(ss.take (i+1)).map tv=(ss.take i).map tv ++ [tv s]:=by rw [htk,WB];rfl
  rw [<- hrow]at g3
  have hsn:=λ{id} {f}=>g.sn (id:=id) (f:=f)
  refine ⟨v',G3,f3,g3,λd kx kn e x q0 q4 hkn hkx hor=>?_⟩
  have a1:nn i:=by unfold nn;omega
  have a2:i<9223372036854775808:=by omega
  have a3:i<48:=by omega
  have a4:(145+i)%18446744073709551616=145+i:=by omega
  have i1:=λ{id} {k}=>aI g3.one (id:=id) (k:=k)
  have w3:=f3.wf
  obtain ⟨-,-,⟨-,g3'⟩|⟨b,c,sz,rfl,-,-,gb,-,-⟩⟩:=g3
  .omega
  have hcl:∀ {k},aj (aN cp t fuel (d+3)) (.func 238 []) [.slice b 0 (i+1) c sz] G3 k=k (OE (unpk (ss.take (i+1)))) G3:=λ{k}=>by
   rw [oO hu rfl rfl,YR,uL gb (by rw [List.length_take];omega) (by omega) (λx hx=>by rw [h32 x (Wc hx)];omega)]
  simp only [tv]at z1 hG2
  rcases hor with hor|hor
  .rw [hor]at hcl
   simp only [go_sem,LH,q0,q4,↓hsn,a1,a2,a3,a4,n48,↓z1,w1,hG2,↓hap,↓hcl]
   refine hkn hor _ ?_ ?_
   .exact q0
   .rfl
  .rw [hor]at hcl
   simp only [go_sem,LH,q0,q4,↓hsn,a1,a2,a3,a4,n48,↓z1,w1,hG2,↓hap,↓hcl]
   refine hkx hor _ ?_ ?_
   .simp only [go_sem,tv]
   .rfl
 obtain ⟨n,hn'⟩:∃ n,ss.length=n+1:=⟨ss.length-1,by omega⟩
 obtain ⟨v1,G1,⟨f1,g1⟩,z1⟩:=bA (n:=n)
  (I:=λi v G=>af H G/\Gr H G v 1 i ((ss.take i).map tv)) (S:=λi v e=>ae s000 e = .ptr dp 0/\ae s004 e=v) (λi v G hin ⟨f,g⟩=>by
   obtain ⟨v',G',f',g',z⟩:=rd i v G (by omega) f g
   refine ⟨v',G',⟨f',g'⟩,λd kx r e x ⟨q0,q4⟩ hk=>?_⟩
   rw [ak]
   have hno:=hs (i+1) (by omega)
   exact z d kx _ e x q0 q4 (λ_ e' q0 q4=>hk e' ⟨q0,q4⟩) (λh=>by rw [hno]at h;cases h) (YG hno)) n 0 .az H (by omega) ⟨af.refl hD.wf,Gr.az⟩
 obtain ⟨v2,G2,f2,g2,z2⟩:=rd n v1 G1 (by omega) f1 g1
 have hfull:unpk (ss.take (n+1))=some tt:=by rw [YV (by omega)];exact hb
 refine ⟨G2,λd k=>?_,f2⟩
 rw [aJ T.k45 rfl rfl]
 simp only [go_sem,c45,XY,XZ]
 refine z1 d _ fuel _ _ (by omega) ⟨?_,?_⟩ λr e' ⟨q0,q4⟩=>?_
 .rfl
 .rfl
 rw [ak]
 refine z2 d _ _ e' _ q0 q4 (λh=>by rw [hfull]at h;cases h) (λ_ e'' q2 q3=>?_) (YE hfull)
 simp only [go_sem,q2,q3]
end
end Go.Ev
end
section
namespace Go.Ev
section
variable {cp:RC->ah} {t:Nat->Option cP} {fuel:Nat} {H:Heap} {O:Nat->Prop} {pk:List UInt8->List (List UInt8)} {unpk:List (List UInt8)->Option (List UInt8)}
set_option maxRecDepth 4000 in
theorem yS (T:aA t) (hc:aY t) (F:cD pk unpk) (hu:t 119=some (.nat (ev unpk)))
 {dp a n:Nat} {A:AD} {us:List Wr} {m:MT} (hD:cN H dp A O) (C:qW A pk a n us) (h0:(A.recover n us).2=0) (ho:(A.recover n us).1.off=false) (hA:193<=(A.recover n us).1.len) (hA2:(A.recover n us).1.len<=1024) (Y:iX m m.live.length (A.recover n us).1.len) (Z:rP m) (hT:MK (A.recover n us).1 (pk (bj (nB m)))) (hfu:1000000<fuel):
 ∃ H' O' vp vl vs vi,(∀ (d:Nat) (k:K),aj (aN cp t fuel (d+9)) (.func 18 []) [.ptr dp 0] H k=k (.cH [.ptr vp 0,.int 3 0]) H')/\Step H O H' O'/\cN H' dp (A.recover n us).1 O'/\H'.get vp = .cells (vc m vl vs vi dp false)/\vp<H'.n/\¬ O' vp/\H.n<=vp/\ku H' (bQ O' vp) m vl vs vi/\∀ X:Nat->Prop,(∀ b,X b->b<H.n)->ku H' (λb=>X b\/bQ O' vp b) m vl vs vi:=by
 obtain ⟨G1,O1,z1,s1,D1⟩:=CR (cp:=cp) (fuel:=fuel) T hc F hu hD C (by omega)
 rw [h0]at z1
 have z1:=λ{d} {k}=>z1 (d+1) k
 generalize hB:(A.recover n us).1=B at ho hA hA2 Y hT D1 ⊢
 have htl:=Y.text hA2
 have hsz:=F.size (bj (nB m)) (by omega)
 obtain ⟨G2,z2,f2⟩:=Ls (cp:=cp) (fuel:=fuel) T hc hu D1 ho hA hA2 (by omega) (F.pos _ (by omega)) (F.len _ (by omega)) hT (λk hk=>F.short _ k (by omega) hk) (F.back _ (by omega)) (by omega)
 have z2:=λ{d} {k}=>z2 (d+4) k
 have D2:=D1.fresh f2
 obtain ⟨G3,vl,vs,vi,z3,f3,hM⟩:=Fw (cp:=cp) (fuel:=fuel) T f2.wf (Y.mono hA2) Z (by omega)
 have z3:=λ{d} {k}=>z3 d k
 have M3:=hM O1 (λb hb=>D2.lt b hb)
 have M3a:=hM (λb=>b<G2.n) (λb hb=>hb)
 have w3:=f3.wf
 have D3:=D2.fresh f3
 obtain ⟨G4,hG4,f4,p4,n4⟩:=Heap.aO w3 (.cells [.az,.az,.int 7 0,.int 7 0,.int 7 0,.int 7 0,.int 3 0,.int 3 0,.az])
 have b4:G3.n<G4.n:=by omega
 have w4:=f4.wf
 obtain ⟨G5,hG5,f5,p5,n5,w5,k5⟩:=Heap.aU f4 (YB _) b4 (.cells (aW m vl vs vi))
 have D5:=D3.fresh f5
 have M5:=M3.fresh f5
 have wm5:G5.mark.wf:=by exact w5
 obtain ⟨G6x,G6,z6,hu6,hl6,f6⟩:=pG ⟨G5.mark,λd k=>sH (cp:=cp) (fuel:=fuel) (T.jh hc) (D5.fresh (af.Sr w5)),af.refl wm5⟩
 have z6:=λ{d} {k}=>z6 (d+7) k
 have w6:=f6.wf
 have M6:=M5.fresh f6
 obtain ⟨G7,z7,f7⟩:=uK (cp:=cp) (fuel:=fuel) (blocks:=m.live.length) (n:=B.len) T w6 M6 Z (by have:=Z.live.1;unfold nn;omega) (by unfold nn;omega) (by omega)
 have z7:=λ{d} {k}=>z7 (d+3) k
 rw [Mm.2 Y]at z7
 have w7:=f7.wf
 have M7:=M6.fresh f7
 have f57:=f6.trans f7
 have p7:=(f57.same _ (by omega)).trans p5
 obtain ⟨G8,hG8,f8,p8,n8⟩:=Heap.aO w7 (.cells (vc m vl vs vi dp false))
 have D8:=(D5.fresh f57).fresh f8
 have hlt:=D1.lt
 have f18:=f2.trans (f3.trans (f5.trans (f57.trans f8)))
 have m2:=f2.n
 have m3:=f3.n
 have m57:=f57.n
 have sl:=λ{id} {f}=>M3.live.sn (id:=id) (f:=f)
 have ll:m.live.length<9223372036854775808:=by have:=Z.live.1;omega
 have j1:=λ{id} {k}=>aI M3.live.one (id:=id) (k:=k)
 have j2:=λ{id} {k}=>aI (let ⟨_,h,_⟩:=M3.aa;h.one) (id:=id) (k:=k)
 have j3:=λ{id} {k}=>aI M3.cF.one (id:=id) (k:=k)
 refine ⟨G8,O1,G7.n,vl,vs,vi,λd k=>?_,s1.trans f18.step,D8,p8,by omega,λh=>by have:=hlt _ h;omega,by have:=s1.n;omega,(M7.jX λb hb h=>h.elim id λe=>by omega).fresh f8,λX hX=>(((M3a.fresh f5).fresh f57).jX λb hb h=>by
  have hs1:=s1.n
  rcases h with h|h|h
  .have:=hX b h;omega
  .exact D2.lt b h
  .omega).fresh f8⟩
 simp only [aW,bq,tv]at z2 z3 hG5 p5 p7 z7
 simp only [vc,aW,bq,YL,YK]at hG8
 rw [aJ T.k9 rfl rfl]
 simp only [go_sem,c9,ada,adb,ade,adf,↓z1,↓z2]
 simp only [go_sem,adg,↓z3,w3,hG4,p4,b4,w4,↓j1,↓j2,↓j3,hG5]
 simp only [go_sem,adh,p5,↓sl,ll,↓z6,hu6,hl6,↓z7]
 simp only [go_sem,adi,adj,p7,w7,↓j1,↓j2,↓j3,hG8]
end
end Go.Ev
end
section
namespace Go.Ev
def Gp (ss:List (List UInt8)):Nat->List Wr
 | 0=>[]
 | i+1=>Gp ss i ++ [(145+i,tx (ss.getD i []))]
theorem vO (ss):∀ i,(Gp ss i).length=i
 | 0=>rfl
 | i+1=>by simp only [Gp,YC,vO ss i];rfl
theorem Cg {ss}:∀ {i} {w},w ∈ Gp ss i->∃ j,j<i/\w=(145+j,tx (ss.getD j []))
 | 0,w,h=>by cases h
 | i+1,w,h=>by
  rcases Yn.1 h with h|h
  .obtain ⟨j,hj,e⟩:=Cg h
   exact ⟨j,by omega,e⟩
  .exact ⟨i,by omega,YU.1 h⟩
theorem RZ {ss}:∀ {i j},j<i->((145+j,tx (ss.getD j [])):Wr) ∈ Gp ss i
 | 0,j,h=>by omega
 | i+1,j,h=>by
  simp only [Gp]
  by_cases hj:j=i
  .simp_all
  .exact QC _ (RZ (by omega))
theorem tS {ss}:∀ i,((Gp ss i).map (·.1)).Nodup
 | 0=>List.nodup_nil
 | i+1=>by
  simp only [Gp,WB]
  refine QV.2 ⟨tS i,by simp,λx hx y hy=>?_⟩
  obtain ⟨w,hw,rfl⟩:=Yi.1 hx
  obtain ⟨j,hj,rfl⟩:=Cg hw
  rw [YU.1 (by simp_all:y ∈ [145+i])]
  omega
def mz (b:Nat):MT:=⟨YZ b 0,[],Bf⟩
theorem yd (b):(mz b).live.length=b:=Wz
theorem VH (b):nz (YZ b 0)=[]:=by
 unfold nz
 simp
theorem Sx {b n} (h1:1<=b) (h2:b<=8):iX (mz b) b n:=
 ⟨⟨h1,h2,yd b,λp hp=>YG (YF2.1 hp).2,by show (nz (YZ b 0)).Nodup;rw [VH];simp⟩,Yf _,trivial,by exact ⟨rfl,rfl,rfl,rfl⟩⟩
theorem Sy {b} (h2:b<=8):rP (mz b):=
 ⟨⟨by rw [yd];omega,λp hp=>by rw [(YF2.1 hp).2];unfold nn;omega⟩,by show 0<1000;omega,λs hs=>(by cases hs),yM⟩
section
variable {cp:RC->ah} {t:Nat->Option cP} {fuel:Nat} {H:Heap} {O:Nat->Prop} {pk:List UInt8->List (List UInt8)} {unpk:List (List UInt8)->Option (List UInt8)}
theorem NA (T:aA t) {vS:V} {dp:Nat} {ss:List (List UInt8)} (hw:H.wf) (hS:Row H O vS 1 ss.length (ss.map tv)) (hn:ss.length<1000) (hfu:1000<fuel):
 ∃ G' v',af H G'/\Gr H G' v' 2 ss.length (bC (Gp ss ss.length))/\∀ (d:Nat) (kx:Nat->KE) (e:Env) (x:R),ae s000 e = .ptr dp 0->ae s010 e = .az->ae s051 e=vS->ae s052 e = .int 3 ss.length->ae s053 e = .int 3 0->
  (∀ e',ae s000 e' = .ptr dp 0->ae s010 e'=v'->kx 2 e' G'=x)->jQ P3 fuel (aN cp t fuel d) kx fuel e H=x:=by
 have nl:nn ss.length:=by unfold nn;omega
 obtain ⟨v',G',⟨f',g'⟩,z⟩:=bA (c:=P3)
  (I:=λi v G=>af H G/\Gr H G v 2 i (bC (Gp ss i)))
  (S:=λi v e=>ae s000 e = .ptr dp 0/\ae s010 e=v/\ae s051 e=vS/\ae s052 e = .int 3 ss.length/\ae s053 e = .int 3 i) (λi v G hil ⟨f,g⟩=>by
   obtain ⟨b,o,c,z,rfl,hbn,-,hrd⟩:=Row.open hS hil
   have hrd:=λ{id} {k}=>(hrd (f.same _ hbn)).2 (x:=tv ss[i]) (by simp [hil]) (id:=id) (k:=k)
   rw [Nat.mul_one]at hrd
   have hst:Gp ss (i+1)=Gp ss i ++ [(145+i,tx ss[i])]:=by simp only [Gp,YF,YA hil,Yl]
   generalize ss[i]=s at hrd hst
   simp only [tv]at hrd
   have w0:=f.wf
   obtain ⟨G1,hG1,f1,p1,n1⟩:=Heap.aO w0 (.cells [.int 3 (145+i),.str s.length (enc s)])
   obtain ⟨v',G2,hap,g2,f2,-,-⟩:=Gr.app (cx:=2) (sx:=0) (f.trans f1) (g.fresh f1) p1 rfl (λz hz=>by rcases Yb.1 hz with rfl|hz;rfl;rw [YU.1 hz];rfl) (by omega)
   have a1:nn i:=by unfold nn;omega
   have a2:i<9223372036854775808:=by omega
   have a3:(i+1)%18446744073709551616=i+1:=by omega
   have a4:(145+i)%18446744073709551616=145+i:=by omega
   refine ⟨v',G2,⟨f2,by rw [hst,er];exact g2⟩,λd kx r e x ⟨q0,q10,q51,q52,q53⟩ hk=>?_⟩
   rw [ak]
   simp only [go_sem,P3,q10,q51,q52,q53,hil,nl,a1,a2,a3,a4,↓hrd,w0,hG1,↓hap]
   refine hk _ ?_
   simp only [go_sem,q0,q51,q52,and_self]) ss.length 0 .az H (by omega) ⟨af.refl hw,Gr.az⟩
 refine ⟨G',v',f',g',λd kx e x q0 q10 q51 q52 q53 hk=>z d kx fuel e x (by omega) ⟨q0,q10,q51,q52,q53⟩ λr e' ⟨q0,q10,q51,q52,q53⟩=>?_⟩
 have e6:¬ ss.length<ss.length:=by omega
 rw [ak]
 simp only [go_sem,P3,q52,q53,nl,e6]
 exact hk _ q0 q10
set_option maxRecDepth 4000 in
theorem Dl (T:aA t) (hc:aY t) (F:cD pk unpk) (hp:t 102=some (.nat (gI pk))) {H0:Heap} {dp b n r:Nat} (h1:193<=n) (h2:n<=1024) (hr:n<=r) (b1:1<=b) (b2:b<=8) (fr:af H0 H) (hD:cN H dp ⟨n,r,0,false,[],[]⟩ O) (own:∀ b,O b->H0.n<=b) (hfu:1000000<fuel):
 ∃ H' A' O',(∀ (d:Nat) (k:K),aj (aN cp t fuel (d+8)) (.func 14 []) [.ptr dp 0,.int 3 b] H k=k (.int 3 0) H')/\af H0 H'/\cN H' dp A' O'/\(∀ b,O' b->H0.n<=b)/\(∃ a n us,JD pk A' a n us)/\A'.aZ=0/\A'.len=n/\A'.room=r/\MK A' (pk (bj (nB (mz b)))):=by
 generalize hF0:(⟨n,r,0,false,[],[]⟩:AD)=F0 at hD
 have e0:F0.len=n:=by rw [<- hF0]
 have e1:F0.off=false:=by rw [<- hF0]
 have e2:F0.aZ=0:=by rw [<- hF0]
 have e3:F0.es=[]:=by rw [<- hF0]
 have e4:F0.us=[]:=by rw [<- hF0]
 have e5:F0.room=r:=by rw [<- hF0]
 obtain ⟨G1,O1,z1,s1,D1⟩:=FT (cp:=cp) (fuel:=fuel) T hc hD e1 (by omega) (by omega) (by rw [e3];decide) (by rw [e4];decide) (YE (by rw [e3,e5];show 0<r;omega)) (by omega)
 obtain ⟨J,j2,j3,j4⟩:=JD.start (pk:=pk) (by omega) (by omega) e1 (by rw [e3];exact nZ.nil) e2
 rw [j3]at z1
 obtain ⟨q1,q2,q3,q4⟩:=j4
 generalize (F0.runs [[(0,tx (fX 0 0))]]).1=B at D1 J j2 q1 q2 q3 q4
 have hl:=q1.trans e0
 have hrr:=q2.trans e5
 obtain ⟨fr1,own1⟩:=fr.own s1 own
 have w1:=fr1.wf
 have z1:=λ{d} {k}=>z1 d k
 obtain ⟨G2,f2,o2,-,n2,z2⟩:=Cv (x:=.int 3 0) (n:=b) rfl w1 rfl (by omega) (YB _) (a:=.s s040)
 have M2:ku G2 (λ_=>False) (mz b) (.slice G1.n 0 b (b+1) 0) .az .az:=⟨by
  have:=o2.toRow (O:=λ_=>False) (λb h=>h.elim)
  unfold ee
  rw [yd]
  show Row G2 _ _ 1 b ((YZ b 0).map (V.int 3))
  rw [QP]
  exact this,⟨[],⟨rfl,λx hx=>(by cases hx),YG ⟨YG rfl,rfl⟩⟩,rfl,λi s h=>(by cases i<;>cases h)⟩,⟨rfl,λx hx=>(by cases hx),YG ⟨YG rfl,rfl⟩⟩⟩
 have hYok:iX (mz b) (mz b).live.length 1024:=by rw [yd];exact Sx b1 b2
 have henc:=hYok.enc
 have htl:=hYok.text (YB _)
 obtain ⟨G3,vS,z3,f3,hv1,hS⟩:=yK (cp:=cp) (fuel:=fuel) T F hp f2.wf M2 (Sy b2) (by omega)
 rw [henc]at z3 hS
 have hS:=hS rfl
 simp only at hS
 have z3:=λ{d} {k}=>z3 d k
 have hsz:=F.size (bj (nB (mz b))) (by omega)
 have h32:=F.len (bj (nB (mz b))) (by omega)
 have hpos:=F.pos (bj (nB (mz b))) (by omega)
 generalize pk (bj (nB (mz b)))=ss at hS hsz h32 hpos ⊢
 have hss:=by omega
 obtain ⟨G4,vw,f4,g4,z4⟩:=NA (fuel:=fuel) (dp:=dp) T f3.wf (hS.toRow (O:=λ_=>False) (λb h=>h.elim)) (by omega) (by omega)
 have f24:=f2.trans (f3.trans f4)
 have hmem:∀ w ∈ Gp ss ss.length,145<=w.1/\w.1<n/\w.2.1=32/\vk w.2:=λw hw=>by
  obtain ⟨j,hj,rfl⟩:=Cg hw
  have:(ss.getD j []).length=32:=h32 _ (by rw [YF,YA hj];exact YW _)
  exact ⟨by show 145<=145+j;omega,by show 145+j<n;omega,this,jA _⟩
 have hwsAt:mU G4 vw (Gp ss ss.length) O1:=by
  obtain ⟨p1,p2,⟨p3,p4⟩|⟨b,c,s,p3,p4,p5,p6,p7,p8⟩⟩:=g4
  .exact absurd (YQ p4) hpos
  .exact YE ⟨b,c,s,by rw [vO];exact p3,p6,p8,λhb=>by have:=D1.lt b hb;have:=f2.n;have:=f3.n;omega⟩
 have D4:=D1.fresh f24
 obtain ⟨G5,O5,z5,s5,D5⟩:=uy (cp:=cp) (fuel:=fuel) T hc F hp D4 J.HB.can hwsAt (λw hw=>⟨by have:=(hmem w hw).2.1;omega,by rw [(hmem w hw).2.2.1];omega,(hmem w hw).2.2.2⟩) (by rw [vO];omega) (by omega)
 have z5:=λ{d} {k}=>z5 d k
 have hok:=λw hw=>(hmem w hw).2.2.2
 have hcode:=J.code F j2 (by omega) hok
 have hdid:=J.eG F j2 hok
 have hmay:iq B.len [] (Gp ss ss.length)=true:=Cu (λw hw=>⟨⟨(hmem w hw).1,by rw [hl];exact (hmem w hw).2.1,(hmem w hw).2.2.1⟩,λh=>(by cases h)⟩) (tS _)
 have h0:(B.eG pk 0 (Gp ss ss.length)).2=0:=by
  rw [hcode];unfold Ev.code
  rw [vO,hmay]
  have:=WW.2 hpos
  rw [if_neg (by omega),if_neg (by omega),if_neg (by simp)]
 rw [h0]at z5
 obtain ⟨fr5,own5⟩:=(fr1.trans f24).own s5 own1
 refine ⟨G5,_,O5,λd k=>?_,fr5,D5,own5,hdid.jd,hdid.aZ,hdid.len.trans hl,hdid.room.trans hrr,⟨λi hi=>?_⟩⟩
 .have hL:∀ {d} {k},aj (aN cp t fuel (d+1)) (.func 74 []) [.ptr dp 0] H k=k (.int 3 n) H:=λ{d k}=>by rw [sH (T.jh hc) hD,e0]
  have cq1:nn n:=by unfold nn;omega
  have cq2:nn b:=by unfold nn;omega
  have cq3:nn 193:=by unfold nn;omega
  have cq4:nn 1:=by unfold nn;omega
  have cq5:nn 8:=by unfold nn;omega
  have cq6:¬ n<193:=by omega
  have cq7:¬ b<1:=by omega
  have cq8:¬ 8<b:=by omega
  have ssn:=λ{id} {f}=>hS.sn (id:=id) (f:=f)
  have cq9:ss.length<9223372036854775808:=by omega
  simp only [aW,bq,mz,Bf]at z3
  rw [aJ T.k7 rfl rfl]
  simp only [go_sem,c7,ac2,↓hL,cq1,cq2,cq3,cq4,cq5,cq6,cq7,cq8]
  simp only [go_sem,ac3,ac4,↓z1,↓z2,↓z3]
  simp only [go_sem,ac5,ac6,ac7,↓ssn,cq9]
  refine z4 (d+7) _ _ _ ?_ ?_ ?_ ?_ ?_ λe' q0 q10=>?_
  .rfl
  .rfl
  .rfl
  .rfl
  .rfl
  simp only [go_sem,ac8,ac9,q0,q10,↓z5]
 .have hy:=(hdid.yes h0).1 (145+i) (by omega)
  have hin:=RZ (ss:=ss) hi
  have:=fu (es:=B.es) (tS ss.length) hin
  rw [AD.read,hy,this,YF,YA hi]
  rfl
end
end Go.Ev
end
section
namespace Go.Ev
structure Cn where
 iT:List Tx
 g:Gd
 hid:Bool
structure CH where
 live:List Tx
 size:Nat
 aa:List Cn
def zT (n:Nat):List Tx:=YZ n (32,0) ++ YZ (8-n) (0,0)
theorem kZ {n} (h:n<=8):(zT n).length=8:=by unfold zT;simp_all
def dr (c:Cn):List V:=c.iT.map sv ++ [.int 7 c.g.1,.int 7 c.g.2,.bool c.hid]
def dS (l:List Cn):List V:=l.flatMap dr
structure Bp (c:CH):Prop where
 l8:c.live.length=8
 s1:1<=c.size
 s8:c.size<=8
 n:c.aa.length<1000
 v8:∀ s ∈ c.aa,s.iT.length=8
 g:∀ s ∈ c.aa,ld s.g
theorem jr {α:Type} {l:List α} (h:l.length=8):∃ x0 x1 x2 x3 x4 x5 x6 x7,l=[x0,x1,x2,x3,x4,x5,x6,x7]:=by
 rcases l with _|⟨x0,_|⟨x1,_|⟨x2,_|⟨x3,_|⟨x4,_|⟨x5,_|⟨x6,_|⟨x7,_|⟨x8,l⟩⟩⟩⟩⟩⟩⟩⟩⟩<;>simp at h
 simp
theorem iJ {c} (h:c.iT.length=8):(dr c).length=11:=by unfold dr;simp_all
theorem Ak:∀ {l},(∀ s ∈ l,s.iT.length=8)->(dS l).length=l.length*11
 | [],_=>rfl
 | s :: l,h=>by
  show (dr s ++ dS l).length=_
  rw [YC,Ak λt ht=>h t (YI _ ht),iJ (h s (YJ ..)),YH]
  omega
theorem pn:∀ {l} {i} {s},(∀ s ∈ l,s.iT.length=8)->l[i]? = some s->((dS l).drop (i*11)).take 11=dr s
 | [],i,s,_,h=>by simp_all
 | a :: l,0,s,h8,h=>by
  simp at h
  subst h
  show ((dr a ++ dS l).drop (0*11)).take 11=_
  rw [Nat.zero_mul,WH,Qk (iJ (h8 _ (YJ ..)))]
 | a :: l,i+1,s,h8,h=>by
  have:=pn (λt ht=>h8 t (YI _ ht)) (by simpa using h)
  show ((dr a ++ dS l).drop ((i+1)*11)).take 11=_
  rw [show (i+1)*11=(dr a).length+i*11 by rw [iJ (h8 _ (YJ ..))];omega,<- List.drop_drop,List.drop_left' rfl]
  omega
theorem Ng (a b):dS (a ++ b)=dS a ++ dS b:=List.flatMap_append
theorem Nf (c):∀ y ∈ dr c,y.one=true:=λy hy=>by
 rcases Yn.1 hy with hy|hy
 .obtain ⟨x,_,rfl⟩:=Yi.1 hy;rfl
 .rcases Yb.1 hy with rfl|hy
  .rfl
  .rcases Yb.1 hy with rfl|hy
   .rfl
   .rw [YU.1 hy];rfl
def hZ:Heap:=.mk 0 0 .e
def tC (c:CH) (v:V):List V:=c.live.map sv ++ [.int 3 c.size,v]
structure jK (H:Heap) (cp:Nat) (c:CH) (v:V):Prop where
 wf:H.wf
 get:H.get cp = .cells (tC c v)
 cn:cp<H.n
 own:Own hZ H v 11 c.aa.length (dS c.aa)
 off:js v cp
 ok:Bp c
def CB (v:V) (b:Nat):Prop:=∃ o n c s,v = .slice b o n c s
def CQ (cp:Nat) (v:V) (b:Nat):Prop:=b=cp\/CB v b
theorem Own.cb {H G:Heap} {v:V} {sz n b:Nat} {row:List V} (h:Own H G v sz n row) (hb:CB v b):H.n<=b/\b<G.n:=by
 obtain ⟨o,n',c,s,e⟩:=hb
 exact h.db e
theorem jK.lt {H:Heap} {cp:Nat} {c:CH} {v:V} (h:jK H cp c v):∀ b,CQ cp v b->b<H.n:=λb hb=>hb.elim (λe=>by rw [e];exact h.cn) λe=>(h.own.cb e).2
theorem jK.cG {H H':Heap} {cp:Nat} {c:CH} {v:V} {P P':Nat->Prop} (h:jK H cp c v) (s:Step H P H' P') (hd:∀ b,CQ cp v b->¬ P b):jK H' cp c v/\∀ b,CQ cp v b->¬ P' b:=by
 refine ⟨⟨s.wf,(s.same _ h.cn (hd _ (YG rfl))).1.trans h.get,YD h.cn s.n,?_,h.off,h.ok⟩,λb hb=>(s.same _ (h.lt b hb) (hd b hb)).2⟩
 obtain ⟨h1,h2,h3|⟨b,c,z,r,g1,g2,g3,g4,g5⟩⟩:=h.own
 .exact ⟨h1,h2,YG h3⟩
 .exact ⟨h1,h2,YE ⟨b,c,z,r,g1,(s.same b g5 (hd b (YE ⟨_,_,_,_,g1⟩))).1.trans g2,g3,g4,YD g5 s.n⟩⟩
theorem jK.fresh {H H':Heap} {cp:Nat} {c:CH} {v:V} (h:jK H cp c v) (f:af H H'):jK H' cp c v:=(h.cG (f.step (O:=λ_=>False)) λ_ _ h=>h).1
theorem jK.row {H:Heap} {cp:Nat} {c:CH} {v:V} (h:jK H cp c v):Row H (λ_=>False) v 11 c.aa.length (dS c.aa):=h.own.toRow λb h=>h.elim
section
variable {cp:RC->ah} {t:Nat->Option cP} {fuel:Nat} {H:Heap}
theorem Lv (T:aA t) {n B:Nat} {G0:Heap} {b0:V} (f0:af H G0) (hn:n<=8) (hB:H.n<=B) (hBn:B<G0.n) (gB:G0.get B = .cells ((zT 0).map sv)) (hfu:1000<fuel):
 ∃ G',af H G'/\G'.get B = .cells ((zT n).map sv)/\(∀ j,j<G0.n->j≠B->G'.get j=G0.get j)/\G0.n<=G'.n/\∀ (d:Nat) (kx:Nat->KE) (e:Env) (x:R),ae s002 e=b0->ae s003 e = .ptr B 0->ae s005 e = .int 3 n->ae s006 e = .int 3 0->
  (∀ e',ae s002 e'=b0->ae s003 e' = .ptr B 0->kx 1 e' G'=x)->jQ wO fuel (aN cp t fuel d) kx fuel e G0=x:=by
 have nl:nn n:=by unfold nn;omega
 obtain ⟨_,G',⟨f',g',k',n'⟩,z⟩:=bA (c:=wO) (fuel:=fuel) (n:=n)
  (I:=λi _ G=>af H G/\G.get B = .cells ((zT i).map sv)/\(∀ j,j<G0.n->j≠B->G.get j=G0.get j)/\G0.n<=G.n)
  (S:=λi _ e=>ae s002 e=b0/\ae s003 e = .ptr B 0/\ae s005 e = .int 3 n/\ae s006 e = .int 3 i) (λi _ G hil ⟨f,g,k,hn'⟩=>by
   have w0:=f.wf
   have hset:((zT i).map sv).set i (.str 32 0)=(zT (i+1)).map sv:=by
    unfold zT
    rw [show (8-i)=(8-(i+1))+1 by omega]
    rw [WB,WB,QP,QP,QP,QP,List.set_append_right _ _ (by simp),Wz,QR,List.replicate_succ,List.set_cons_zero,YK1,List.append_assoc]
    rfl
   have hlen:((zT i).map sv).length=8:=by rw [Ys,kZ (by omega)]
   generalize (zT i).map sv=X at g hset hlen
   obtain ⟨G1,hG1,f1,p1,n1⟩:=Heap.aO w0 (.bytes 32 0)
   have w1:=f1.wf
   have g1:=(f1.same _ (by omega)).trans g
   have b1:B<G1.n:=by omega
   obtain ⟨G2,hG2,f2,p2,n2,w2,k2⟩:=Heap.aU (f.trans f1) hB b1 (.cells (X.set i (.str 32 0)))
   have a1:nn i:=by unfold nn;omega
   have a2:i<9223372036854775808:=by omega
   have a3:(i+1)%18446744073709551616=i+1:=by omega
   have a4:i<X.length:=by omega
   have a5:i<8:=by omega
   refine ⟨(),G2,⟨f2,by rw [<- hset];exact p2,λj hj hne=>by rw [k2 _ hne,f1.same _ (by omega)];exact k j hj hne,by omega⟩,λd kx r e x ⟨q2,q3,q5,q6⟩ hk=>?_⟩
   rw [ak]
   simp only [go_sem,wO,q3,q5,q6,hil,nl,a1,a2,a3,a4,a5,w0,hG1,p1,g1,w1,b1,hG2]
   exact hk _ (by simp only [go_sem,q2,q3,q5,and_self])) n 0 () G0 (by omega) ⟨f0,gB,λ_ _ _=>rfl,YB _⟩
 refine ⟨G',f',g',k',n',λd kx e x q2 q3 q5 q6 hk=>z d kx fuel e x (by omega) ⟨q2,q3,q5,q6⟩ λr e' ⟨q2,q3,q5,q6⟩=>?_⟩
 have e6:¬ n<n:=by omega
 rw [ak]
 simp only [go_sem,wO,q5,q6,nl,e6]
 exact hk _ q2 q3
theorem rO (T:aA t) {n} (hw:H.wf) (hn:n<=8) (hfu:1000<fuel):
 ∃ H',(∀ (d) (k),aj (aN cp t fuel (d+1)) (.func 318 []) [.int 3 n] H k=k (.agg ((zT n).map sv)) H')/\af H H':=by
 obtain ⟨G1,hG1,f1,p1,n1⟩:=Heap.aO hw (.cells [.str 0 0,.str 0 0,.str 0 0,.str 0 0,.str 0 0,.str 0 0,.str 0 0,.str 0 0])
 have w1:=f1.wf
 obtain ⟨G2,hG2,f2,p2,n2⟩:=Heap.aO w1 (.cells [.str 0 0,.str 0 0,.str 0 0,.str 0 0,.str 0 0,.str 0 0,.str 0 0,.str 0 0])
 have f12:=f1.trans f2
 obtain ⟨G3,f3,g3,k3,n3,z3⟩:=Lv (b0:=.ptr H.n 0) T f12 hn (by omega) (by omega) p2 hfu
 have q3:G3.get H.n = .cells [.str 0 0,.str 0 0,.str 0 0,.str 0 0,.str 0 0,.str 0 0,.str 0 0,.str 0 0]:=by rw [k3 _ (by omega) (by omega),f2.same _ (by omega)];omega
 have hlen:((zT n).map sv).length=8:=by rw [Ys,kZ hn]
 have hone:∀ y ∈ (zT n).map sv,y.one=true:=λy hy=>by obtain ⟨x,_,rfl⟩:=Yi.1 hy;rfl
 generalize (zT n).map sv=X at g3 hlen hone ⊢
 have b3:H.n<G3.n:=by omega
 have w3:=f3.wf
 obtain ⟨G4,hG4,f4,p4,n4,w4,k4⟩:=Heap.aU f3 (YB _) b3 (.cells X)
 refine ⟨G4,λd k=>?_,f4⟩
 obtain ⟨x0,x1,x2,x3,x4,x5,x6,x7,rfl⟩:=jr hlen
 have i0:=λ{id} {k}=>aI (hone x0 (by simp)) (id:=id) (k:=k)
 have i1:=λ{id} {k}=>aI (hone x1 (by simp)) (id:=id) (k:=k)
 have i2:=λ{id} {k}=>aI (hone x2 (by simp)) (id:=id) (k:=k)
 have i3:=λ{id} {k}=>aI (hone x3 (by simp)) (id:=id) (k:=k)
 have i4:=λ{id} {k}=>aI (hone x4 (by simp)) (id:=id) (k:=k)
 have i5:=λ{id} {k}=>aI (hone x5 (by simp)) (id:=id) (k:=k)
 have i6:=λ{id} {k}=>aI (hone x6 (by simp)) (id:=id) (k:=k)
 have i7:=λ{id} {k}=>aI (hone x7 (by simp)) (id:=id) (k:=k)
 rw [aJ T.ad4 rfl rfl]
 simp only [go_sem,acw,hw,hG1,w1,hG2]
 refine z3 d _ _ _ ?_ ?_ ?_ ?_ λe' q2 q3'=>?_
 .rfl
 .rfl
 .rfl
 .rfl
 simp only [go_sem,q2,q3',g3,q3,w3,b3,hG4,↓i0,↓i1,↓i2,↓i3,↓i4,↓i5,↓i6,↓i7,↓dW,p4]
theorem kC (T:aA t) {c} {v} {p} (C:jK H p c v) (d) (k):aj (aN cp t fuel (d+1)) (.func 192 []) [.ptr p 0] H k=k (.bool false) H:=by
 have g:=C.get
 obtain ⟨x0,x1,x2,x3,x4,x5,x6,x7,e⟩:=jr C.ok.l8
 have h1:¬ c.size=0:=by have:=C.ok.s1;omega
 simp only [tC,e,YP,Yc,YL,YK]at g
 rw [aJ T.k96 rfl rfl]
 simp only [go_sem,c96,g,h1]
theorem MZ (T:aA t) {c} {v} {p b l x} (C:jK H p c v) (hb:nn b) (hl:l<1000000) (d) (k):aj (aN cp t fuel (d+1)) (.func 408 []) [.ptr p 0,.int 3 b,.str l x] H k=k (.bool (decide (b<c.size) && decide (l=32))) H:=by
 have g:=C.get
 obtain ⟨x0,x1,x2,x3,x4,x5,x6,x7,e⟩:=jr C.ok.l8
 have h1:nn c.size:=by have:=C.ok.s8;unfold nn;omega
 have h2:l<9223372036854775808:=by omega
 simp only [tC,e,YP,Yc,YL,YK]at g
 rw [aJ T.aet rfl rfl]
 by_cases c1:b<c.size<;>by_cases c2:l=32<;>
  simp only [go_sem,ZE,acL,g,h1,h2,hb,c1,c2,Yf,decide_true,decide_false,YH0,Bool.and_false]
end
end Go.Ev
end
section
namespace Go.Ev
theorem Own.Y1 {G:Heap} {v w x:V} {sz n m:Nat} {row new:List V} (hw:G.wf) (h:Own hZ G v sz n row) (hN:∀ {id:Nat} {f:Nat->List V->R},cT id sz G x f=f m new) (hl:new.length=m*sz) (hone:∀ v ∈ new,v.one=true) (hb:n+m<1000000):
 ∃ v' G',(∀ {id:Nat} {ph:cU} {e:Env} {k:K} {a y:Arg},ay a e=v->ay y e=x->aL (.app false sz a y) id ph e G k=k v' G')/\Own hZ G' v' sz (n+m) (row ++ new)/\G'.wf/\(∀ j,j<G.n->js v j->G'.get j=G.get j)/\G.n<=G'.n/\(∀ j,j<G.n->js v j->js v' j)/\∀ lo,lo<=G.bz->lo<=G.n->(∀ b,CB v b->lo<=b)->lo<=G'.bz/\∀ b,CB v' b->lo<=b:=by
 by_cases hm:m=0
 .subst hm
  have hr:new=[]:=YQ (by omega)
  subst hr
  refine ⟨v,G,λ{id ph e k a y} ha hx=>?_,by rw [YR];exact h,hw,λj _ _=>rfl,YB _,λj _ h=>h,λ_ h _ h'=>⟨h,h'⟩⟩
  rw [cW,ha,hx,hN]
  obtain ⟨_,_,⟨rfl,_⟩|⟨b,c,s,r,rfl,_⟩⟩:=h
  .rw [eC,if_pos rfl]
  .rw [cw,if_pos rfl]
 have hne:∀ j,j<G.n->∀ c s l,js (.slice G.n 0 l c s) j:=λj hj c s l b o n c' s' he=>by cases he;omega
 have hcb:∀ lo,lo<=G.n->∀ c s l b,CB (.slice G.n 0 l c s) b->lo<=b:=λlo h c s l b ⟨_,_,_,_,e⟩=>by cases e;exact h
 obtain ⟨h1,h2,⟨rfl,rfl⟩|⟨b,c,s,rest,rfl,g2,g3,g5,g6⟩⟩:=h
 .have hr:row=[]:=YQ (by omega)
  subst hr
  refine ⟨.slice G.n 0 m 0 sz,G.new (.cells new),λ{id ph e k a y} ha hx=>?_,⟨by simp [hl],by simpa using hone,YE ⟨G.n,0,sz,[],by rw [WJ],?_,YE ⟨rfl,rfl,rfl⟩,Yf _,by rw [Heap.aM];omega⟩⟩,by rw [Heap.aX];exact hw,λj hj _=>?_,by rw [Heap.aM];omega,λj hj _=>hne j hj _ _ _,λlo a a2 _=>⟨by rw [Heap.nQ];exact a,hcb lo a2 _ _ _⟩⟩
  .rw [cW,ha,hx,hN,eC,if_neg hm,bT hone,if_pos (by omega),cE hw]
  .rw [Heap.aD hw,if_pos rfl,YR];rfl
  .rw [Heap.aD hw,if_neg (by omega)]
 .have hlr:∀ {id:Nat} {g:List V->R},ec id G b 0 (n*sz) g=g row:=λ{id g}=>by
   rw [pE,g2,fR,fk (Yf _),eP (by simp [h1])]
   rw [WH,<- h1,Qk rfl]
  have hlen:(row ++ new).length=(n+m)*sz:=by rw [YC,h1,hl,Wi]
  have hon:∀ v ∈ row ++ new,v.one=true:=λv hv=>(Yn.1 hv).elim (h2 v) (hone v)
  rcases g3 with rfl|⟨rfl,rfl,rfl⟩
  .refine ⟨.slice G.n 0 (n+m) 0 sz,G.new (.cells (row ++ new)),λ{id ph e k a y} ha hx=>?_,⟨hlen,hon,YE ⟨G.n,0,sz,[],rfl,?_,YE ⟨rfl,rfl,rfl⟩,Yf _,by rw [Heap.aM];omega⟩⟩,by rw [Heap.aX];exact hw,λj hj _=>?_,by rw [Heap.aM];omega,λj hj _=>hne j hj _ _ _,λlo a a2 _=>⟨by rw [Heap.nQ];exact a,hcb lo a2 _ _ _⟩⟩
   .rw [cW,ha,hx,hN,cw,if_neg hm,iE (by omega),bT hone,if_pos (by omega),hlr,bT h2,cE hw]
   .rw [Heap.aD hw,if_pos rfl,YR]
   .rw [Heap.aD hw,if_neg (by omega)]
  .rw [YR]at g2
   have hw2:(G.put b .dead).wf:=by rw [Heap.bF];exact hw
   refine ⟨.slice G.n 0 (n+m) 0 s,(G.put b .dead).new (.cells (row ++ new)),λ{id ph e k a y} ha hx=>?_,⟨hlen,hon,YE ⟨G.n,0,s,[],rfl,?_,YE ⟨rfl,rfl,rfl⟩,Yf _,by rw [Heap.aM,Heap.aR];omega⟩⟩,by rw [Heap.aX];exact hw2,λj hj ho=>?_,by rw [Heap.aM,Heap.aR];omega,λj hj _=>hne j hj _ _ _,λlo a a2 hcbv=>⟨?_,hcb lo a2 _ _ _⟩⟩
   .rw [cW,ha,hx,hN,cw,if_neg hm,mb,bT hone,if_pos (by omega),g2,fR,if_pos h1,fm hw g6,cE hw2,Heap.aR]
   .rw [Heap.aD hw2,if_pos (by rw [Heap.aR]),YR]
   .rw [Heap.aD hw2,if_neg (by rw [Heap.aR];omega),Heap.aE hw g6,if_neg (ho _ _ _ _ _ rfl)]
   .rw [Heap.nQ];exact Heap.eY a (hcbv b ⟨_,_,_,_,rfl⟩)
def iA (c:CH):Cn:=c.aa.getLast?.getD ⟨zT c.size,(0,0),false⟩
theorem mD {c} {q} {s} (hs:c.aa[q]? = some s) (hq:c.aa.length=q+1):iA c=s:=by
 unfold iA
 grind
theorem mE {c} (h:c.aa.length=0):iA c=⟨zT c.size,(0,0),false⟩:=by
 unfold iA
 simp_all
theorem Sh {c} (h:Bp c):(iA c).iT.length=8/\ld (iA c).g:=by
 rcases hn:c.aa.length with _|q
 .rw [mE hn]
  exact ⟨kZ h.s8,by simp,by simp⟩
 .have hs:c.aa[q]? = some c.aa[q]:=YA (by omega)
  rw [mD hs hn]
  exact ⟨h.v8 _ (YW _),h.g _ (YW _)⟩
def sK (c:CH) (g:Gd):Nat:=if ef g (iA c).g=false then 2 else if 20<=c.aa.length then 3 else 0
theorem qm {a b}:JW a b↔ef a b=true:=by
 unfold JW ef
 simp
section
variable {cp:RC->ah} {t:Nat->Option cP} {fuel:Nat} {H:Heap}
theorem jK.el {c:CH} {v:V} {p i:Nat} (C:jK H p c v) (hi:i<c.aa.length):∃ b o z s,v = .slice b o c.aa.length z s/\b<H.n/\∀ {G:Heap},G.get b=H.get b->∀ {id:Nat} {k:List V->R},tZ id (G.get b) (o+i*11) 11 k=k (dr c.aa[i]):=by
 obtain ⟨b,o,z,s,h1,h2,-,h4⟩:=C.row.open hi
 refine ⟨b,o,z,s,h1,h2,λ{G} hG {id k}=>?_⟩
 rw [(h4 hG).1,pn C.ok.v8 (YA hi)]
set_option maxRecDepth 4000 in
theorem Jq (T:aA t) {c} {v} {p} (C:jK H p c v) (hfu:1000<fuel):
 ∃ H',(∀ (d) (k),aj (aN cp t fuel (d+2)) (.func 410 []) [.ptr p 0] H k=k (.agg (dr (iA c))) H')/\af H H':=by
 have hn:=C.ok.n
 obtain ⟨x0,x1,x2,x3,x4,x5,x6,x7,e⟩:=jr C.ok.l8
 obtain ⟨G1,hG1,f1,p1,n1⟩:=Heap.aO C.wf (.cells [.str 0 0,.str 0 0,.str 0 0,.str 0 0,.str 0 0,.str 0 0,.str 0 0,.str 0 0,.int 7 0,.int 7 0,.bool false])
 have w:=C.wf
 have w1:=f1.wf
 have C1:=C.fresh f1
 have g:=C1.get
 simp only [tC,e,YP,Yc,YL,YK,sv]at g
 have sn:=λ{id} {f}=>C.own.sn (id:=id) (f:=f)
 have a1:=by omega
 have a2:nn c.aa.length:=by unfold nn;omega
 have a3:nn 0:=by unfold nn;omega
 have b1:H.n<G1.n:=by omega
 rcases hq:c.aa.length with _|q
 .rw [mE hq]
  obtain ⟨G2,z2,f2⟩:=rO (cp:=cp) T w1 C.ok.s8 hfu
  have z2:=λ{d} {k}=>z2 d k
  have p2:=(f2.same _ b1).trans p1
  have w2:=f2.wf
  have b2:H.n<G2.n:=by have:=f2.n;omega
  obtain ⟨y0,y1,y2,y3,y4,y5,y6,y7,ez⟩:=jr (kZ C.ok.s8)
  rw [ez]at z2 ⊢
  simp only [YP,Yc,sv]at z2
  obtain ⟨G3,hG3,f3,p3,n3,w3,k3⟩:=Heap.aU (f1.trans f2) (YB _) b2 (.cells (dr ⟨[y0,y1,y2,y3,y4,y5,y6,y7],(0,0),false⟩))
  simp only [dr,YP,Yc,YL,YK,sv]at hG3 p3 ⊢
  have a4:=by omega
  rw [hq]at sn a1 a2
  refine ⟨G3,λd k=>?_,f3⟩
  rw [aJ T.aaP rfl rfl]
  simp only [go_sem,ZE,Z4,w,hG1,g,a1,a2,a4,↓z2,p2,w2,b2,hG3,↓dW]
 .have hlt:q<c.aa.length:=by omega
  have hs:=YA hlt
  obtain ⟨b,o,z,s,hv,hbn,hrd⟩:=C.el hlt
  have hrd:=λ{id} {k}=>hrd (f1.same _ hbn) (id:=id) (k:=k)
  rw [mD hs hq]
  have h8:=C.ok.v8 _ (YW hlt)
  generalize c.aa[q]=sn' at hrd h8
  obtain ⟨y0,y1,y2,y3,y4,y5,y6,y7,ey⟩:=jr h8
  obtain ⟨G3,hG3,f3,p3,n3,w3,k3⟩:=Heap.aU f1 (YB _) b1 (.cells (dr sn'))
  simp only [dr,ey,YP,Yc,YL,YK,sv]at hG3 p3 hrd ⊢
  have a5:nn q:=by unfold nn;omega
  have a6:q<9223372036854775808:=by omega
  have a7:(q+1+18446744073709551615)%18446744073709551616=q:=by omega
  have a8:q+1<9223372036854775808:=by omega
  have a9:0<q+1:=by omega
  have a10:q<q+1:=by omega
  have a11:nn (q+1):=by grind
  rw [hq]at sn hv
  subst hv
  refine ⟨G3,λd k=>?_,f3⟩
  rw [aJ T.aaP rfl rfl]
  simp only [go_sem,Z4,w,hG1,g,↓sn,a3,a6,a7,a8,a9,a10,a11,↓hrd,p1,w1,b1,hG3,↓dW,p3]
theorem Jt (T:aA t) {c:CH} {v:V} {p:Nat} {g:Gd} (C:jK H p c v) (hg:ld g) (hfu:1000<fuel):
 ∃ H',(∀ (d:Nat) (k:K),aj (aN cp t fuel (d+3)) (.func 322 []) [.ptr p 0,.agg (aS g)] H k=k (.int 3 (sK c g)) H')/\af H H':=by
 have hn:=C.ok.n
 obtain ⟨l8,lg⟩:=Sh C.ok
 have w:=C.wf
 obtain ⟨G0,hG0,f0,p0,n0⟩:=Heap.aO w (.cells (aS g))
 have C0:=C.fresh f0
 have z0:=λ{d} {k}=>kC (cp:=cp) (fuel:=fuel) T C0 d k
 obtain ⟨G1,z1,f1⟩:=Jq (cp:=cp) T C0 hfu
 have z1:=λ{d} {k}=>z1 d k
 have w1:=f1.wf
 obtain ⟨G2,hG2,f2,p2,n2⟩:=Heap.aO w1 (.cells [.int 7 0,.int 7 0])
 have b2:G1.n<G2.n:=by omega
 have w2:=f2.wf
 obtain ⟨G3,hG3,f3,p3,n3,w3,k3⟩:=Heap.aU f2 (YB _) b2 (.cells (aS (iA c).g))
 have q3:G3.get H.n = .cells (aS g):=by rw [f3.same _ (by have:=f1.n;omega),f1.same _ (by omega)];exact p0
 have wm3:G3.mark.wf:=by exact w3
 obtain ⟨G4x,G4,z4,hu4,hl4,f4⟩:=pG ⟨G3.mark,λd k=>mi (cp:=cp) (fuel:=fuel) T hg.1 lg.1 d k,af.refl wm3⟩
 have z4:=λ{d} {k}=>z4 d k
 have p4:=(f4.same _ (by omega)).trans p3
 have q4:=(f4.same _ (by have:=f1.n;omega)).trans q3
 have w4:=f4.wf
 have z5:=λ{d} {k}=>mi (cp:=cp) (fuel:=fuel) (H:=G4) T hg.2 lg.2 d k
 obtain ⟨G5,hG5,f5,p5,n5⟩:=Heap.aO w4 (.cells [.int 3 (jc g.1 (iA c).g.1),.int 3 (jc g.2 (iA c).g.2)])
 have z6:=λ{d} {k}=>CA (cp:=cp) (fuel:=fuel) (c:=3) (s:=0) T p5 (by omega) d k
 have f05:=f0.trans (f1.trans (f3.trans (f4.trans f5)))
 have C5:=C.fresh f05
 obtain ⟨x0,x1,x2,x3,x4,x5,x6,x7,e⟩:=jr C.ok.l8
 have g5:=C5.get
 simp only [tC,e,YP,Yc,YL,YK,sv]at g5
 have sn:=λ{id} {f}=>C.own.sn (id:=id) (f:=f)
 have e3:=vT g (iA c).g
 unfold SX at e3
 have a1:c.aa.length<9223372036854775808:=by omega
 have a2:nn c.aa.length:=by unfold nn;omega
 have a3:nn 20:=by unfold nn;omega
 obtain ⟨y0,y1,y2,y3,y4,y5,y6,y7,ey⟩:=jr l8
 unfold sK
 generalize iA c=lc at *
 simp only [dr,ey,YP,Yc,YL,YK,sv]at z1
 simp only [aS]at hG0 hG3 p3 q3 p4 q4
 refine ⟨G5,λd k=>?_,f05⟩
 rw [aJ T.ad5 rfl rfl]
 rw [qm]at e3
 rcases hab:ef g lc.g with _|_
 .rw [hab]at e3
  have e4:(dA (.le 9223372036854775808 18446744073709551616) (if jc g.1 lc.g.1=0 then jc g.2 lc.g.2 else jc g.1 lc.g.1) 0=true)=True:=by rw [e3];simp
  simp only [go_sem,UU,aS,w,hG0,↓z0,↓z1,w1,hG2,p2,b2,w2,hG3,q3,p3,↓z4,hu4,hl4,p4,q4,↓z5,w4,hG5,↓z6,e4]
 .rw [hab]at e3
  have e4:(dA (.le 9223372036854775808 18446744073709551616) (if jc g.1 lc.g.1=0 then jc g.2 lc.g.2 else jc g.1 lc.g.1) 0=true)=False:=by rw [e3];simp
  by_cases h20:20<=c.aa.length
  .simp only [go_sem,UU,aS,w,hG0,↓z0,↓z1,w1,hG2,p2,b2,w2,hG3,q3,p3,↓z4,hu4,hl4,p4,q4,↓z5,w4,hG5,↓z6,e4,g5,↓sn,a1,a2,a3,h20,YE3]
  .simp only [go_sem,UU,aS,w,hG0,↓z0,↓z1,w1,hG2,p2,b2,w2,hG3,q3,p3,↓z4,hu4,hl4,p4,q4,↓z5,w4,hG5,↓z6,e4,g5,↓sn,a1,a2,a3,h20,YE3]
theorem U5 {c} {v} (h:Bp c):(tC c v).length=10:=by unfold tC;rw [YC,Ys,h.l8];rfl
def OS (c:CH) (b:Nat) (x:Tx):CH:=if b<c.size/\x.1=32 then {c with live:=c.live.set b x } else c
theorem jK.put {c c':CH} {v:V} {p:Nat} {l:List V} (C:jK H p c v) (hc:Bp c') (hs:c'.aa=c.aa) (e:l=tC c' v):jK (H.put p (.cells l)) p c' v/\Step H (CQ p v) (H.put p (.cells l)) (CQ p v):=by
 subst e
 refine ⟨⟨by rw [Heap.bF];exact C.wf,by rw [Heap.aE C.wf C.cn,if_pos rfl],by rw [Heap.aR];exact C.cn,by rw [hs];exact C.own.mK C.wf C.cn C.off,C.off,hc⟩,Step.jV C.wf C.cn (YG rfl)⟩
theorem abE {c} {b} {x} (h:Bp c):Bp (OS c b x):=by
 unfold OS
 split
 .exact ⟨by rw [YA0];exact h.l8,h.s1,h.s8,h.n,h.v8,h.g⟩
 omega
theorem EO (T:aA t) {c} {v} {p b l x} (C:jK H p c v) (hb:nn b) (hl:l<1000000):
 ∃ H',(∀ (d) (k),aj (aN cp t fuel (d+2)) (.func 320 []) [.ptr p 0,.int 3 b,.str l x] H k=k (.int 3 (if b<c.size/\l=32 then 0 else 2)) H')/\Step H (CQ p v) H' (CQ p v)/\jK H' p (OS c b (l,x)) v:=by
 have z0:=λ{d} {k}=>kC (cp:=cp) (fuel:=fuel) T C d k
 have z1:=λ{d} {k}=>MZ (cp:=cp) (fuel:=fuel) (x:=x) T C hb hl d k
 by_cases h:b<c.size/\l=32
 .obtain ⟨h1,h2⟩:=h
  subst h2
  have hs8:=C.ok.s8
  have hw:OS c b (32,x)={c with live:=c.live.set b (32,x)}:=by unfold OS;simp_all
  have hset:(tC c v).set b (.str 32 x)=tC (OS c b (32,x)) v:=by
   rw [hw]
   unfold tC
   rw [List.set_append_left _ _ (by rw [Ys,C.ok.l8];omega),List.map_set]
   rfl
  have hlen:=U5 (v:=v) C.ok
  have g:=C.get
  have hCn:=C.cn
  have hCw:=C.wf
  obtain ⟨C',s'⟩:=C.put (abE C.ok) (by rw [hw]) hset
  generalize tC c v=L at g hlen hset C' s'
  generalize hG:H.put p (.cells (L.set b (.str 32 x)))=G at C' s'
  have a1:b<L.length:=by omega
  have a2:b<8:=by omega
  have a3:b<9223372036854775808:=by omega
  refine ⟨G,λd k=>?_,s',C'⟩
  simp only [h1,decide_true,YH0]at z1
  rw [aJ T.aaM rfl rfl]
  simp only [go_sem,Z1,↓z0,↓z1,g,a1,a2,a3,hCw,hCn,hG,h1,and_self]
 .have hf:(decide (b<c.size) && decide (l=32))=false:=by
   simp_all
  rw [hf]at z1
  refine ⟨H,λd k=>?_,Step.refl C.wf,by unfold OS;grind⟩
  rw [aJ T.aaM rfl rfl]
  simp only [go_sem,Z1,↓z0,↓z1,h]
end
end Go.Ev
end
section
namespace Go.Ev
theorem yi {v} {b}:js v b ↔ ¬ CB v b:=⟨λh ⟨o,n,c,s,e⟩=>h b o n c s e rfl,λh b' o n c s e hb=>h ⟨o,n,c,s,by simp_all⟩⟩
theorem jK.TM {G G':Heap} {p:Nat} {c c':CH} {v v':V} (C:jK G p c v) (w:G'.wf) (n:G.n<=G'.n) (same:∀ j,j<G.n->js v j->G'.get j=G.get j) (off:∀ j,j<G.n->js v j->js v' j) (lo:∀ lo,lo<=G.bz->lo<=G.n->(∀ b,CB v b->lo<=b)->lo<=G'.bz/\∀ b,CB v' b->lo<=b)
 (own:Own hZ G' v' 11 c'.aa.length (dS c'.aa)) (ok:Bp c'):jK (G'.put p (.cells (tC c' v'))) p c' v'/\Step G (CQ p v) (G'.put p (.cells (tC c' v'))) (CQ p v'):=by
 have hp:p<G'.n:=YD C.cn n
 have ho:js v' p:=off p C.cn C.off
 refine ⟨⟨by rw [Heap.bF];exact w,by rw [Heap.aE w hp,if_pos rfl],by rw [Heap.aR];exact hp,own.mK w hp ho,ho,ok⟩,⟨by rw [Heap.bF];exact w,by rw [Heap.aR];exact n,λb hb hq=>?_,λl h1 h2 h3=>?_⟩⟩
 .have h1:b≠p:=λe=>hq (YG e)
  have h2:js v b:=yi.2 λh=>hq (YE h)
  refine ⟨by rw [Heap.aE w hp,if_neg h1];exact same b hb h2,λh=>?_⟩
  rcases h with h|h
  .exact h1 h
  .exact yi.1 (off b hb h2) h
 .obtain ⟨g1,g2⟩:=lo l h1 h2 λb hb=>h3 b (YE hb)
  exact ⟨Heap.eY g1 (h3 p (YG rfl)),λb hb=>hb.elim (λe=>by rw [e];exact h3 p (YG rfl)) (g2 b)⟩
theorem jK.snoc {G:Heap} {p X:Nat} {c:CH} {v:V} {s:Cn} (C:jK G p c v) (hX:G.get X = .cells (dr s)) (h8:s.iT.length=8) (hg:ld s.g) (hn:c.aa.length<900):
 ∃ v' G',(∀ {id:Nat} {ph:cU} {e:Env} {k:K} {a y:Arg},ay a e=v->ay y e = .slice X 0 1 2 0->aL (.app false 11 a y) id ph e G k=k v' G')/\G'.wf/\p<G'.n/\G'.get p = .cells (tC c v)/\v'.one=true/\jK (G'.put p (.cells (tC {c with aa:=c.aa ++ [s]} v'))) p {c with aa:=c.aa ++ [s]} v'/\Step G (CQ p v) (G'.put p (.cells (tC {c with aa:=c.aa ++ [s]} v'))) (CQ p v'):=by
 obtain ⟨v',G',hop,own,w,same,n,off,lo⟩:=Own.Y1 (w:=v) (x:=.slice X 0 1 2 0) (m:=1) (new:=dr s) C.wf C.own (λ{id f}=>iN hX (iJ h8)) (by rw [iJ h8]) (Nf s) (by omega)
 have own':Own hZ G' v' 11 (c.aa ++ [s]).length (dS (c.aa ++ [s])):=by
  rw [YC,Ng]
  show Own hZ G' v' 11 (c.aa.length+1) (dS c.aa ++ (dr s ++ []))
  rw [YR]
  exact own
 obtain ⟨C',s'⟩:=C.TM (c':={c with aa:=c.aa ++ [s]}) w n same off lo own' ⟨C.ok.l8,C.ok.s1,C.ok.s8,by show (c.aa ++ [s]).length<1000;rw [YC];show c.aa.length+1<1000;omega,λt ht=>(Yn.1 ht).elim (C.ok.v8 t) λh=>by rw [YU.1 h];exact h8,λt ht=>(Yn.1 ht).elim (C.ok.g t) λh=>by rw [YU.1 h];exact hg⟩
 exact ⟨v',G',hop,w,YD C.cn n,(same p C.cn C.off).trans C.get,own.one,C',s'⟩
def TH (c:CH) (g:Gd):CH:=if sK c g=0 then {c with aa:=c.aa ++ [⟨c.live,g,false⟩]} else c
theorem NR {c} {g} (h:sK c g=0):c.aa.length<20:=by
 unfold sK at h
 split at h
 .omega
 simp_all
section
variable {cp:RC->ah} {t:Nat->Option cP} {fuel:Nat} {H:Heap}
set_option maxRecDepth 4000 in
theorem Jw (T:aA t) {c} {v} {p} {g} (C:jK H p c v) (hg:ld g) (hfu:1000<fuel):
 ∃ H' v',(∀ (d) (k),aj (aN cp t fuel (d+4)) (.func 184 []) [.ptr p 0,.agg (aS g)] H k=k (.int 3 (sK c g)) H')/\Step H (CQ p v) H' (CQ p v')/\jK H' p (TH c g) v':=by
 have w:=C.wf
 obtain ⟨G0,hG0,f0,p0,n0⟩:=Heap.aO w (.cells (aS g))
 have C0:=C.fresh f0
 obtain ⟨G1,z1,f1⟩:=Jt (cp:=cp) T C0 hg hfu
 have z1:=λ{d} {k}=>z1 d k
 have C1:=C0.fresh f1
 have p1:=(f1.same _ (by omega)).trans p0
 have f01:=f0.trans f1
 unfold TH
 by_cases h:sK c g=0
 .rw [h]at z1 ⊢
  have hlen:=NR h
  have w1:=C1.wf
  have wm:G1.mark.wf:=by exact w1
  obtain ⟨Gn,G2,hGn,hu2,hl2,f2,p2,n2⟩:=Heap.Sv w1 (.cells (dr ⟨c.live,g,false⟩))
  have C2:=C1.fresh f2
  obtain ⟨v',G3,hop,w3,hp3,g3,j3,C',s'⟩:=C2.snoc p2 C.ok.l8 hg (by omega)
  have j3:=λ{id} {k}=>aI j3 (id:=id) (k:=k)
  have g1:=C1.get
  obtain ⟨x0,x1,x2,x3,x4,x5,x6,x7,e⟩:=jr C.ok.l8
  have f02:=f01.trans f2
  refine ⟨_,v',λd k=>?_,f02.step.trans s',C'⟩
  have p0':=p0
  generalize hG4:G3.put p (.cells (tC {c with aa:=c.aa ++ [⟨c.live,g,false⟩]} v'))=G4
  simp only [aS]at hG0 p0' p1 z1
  simp only [tC,dr,e,YP,Yc,YL,YK,sv]at g1 g3 hGn hG4
  rw [aJ T.k92 rfl rfl]
  simp only [go_sem,c92,aS,w,hG0,p0',p1,↓z1,g1,wm,hGn,hu2,hl2,↓hop,↓j3,g3,w3,hp3,hG4]
 .rw [if_neg h]
  refine ⟨G1,v,λd k=>?_,f01.step,C1⟩
  have p0':=p0
  simp only [aS]at hG0 p0' z1
  rw [aJ T.k92 rfl rfl]
  simp only [go_sem,c92,aS,w,hG0,p0',↓z1,h]
theorem JE:∀ {l} {n},(∀ s ∈ l,s.iT.length=8)->(dS l).take (n*11)=dS (l.take n)
 | [],n,_=>by simp [dS]
 | a :: l,0,_=>by rfl
 | a :: l,n+1,h=>by
  have:=JE (n:=n) λt ht=>h t (YI _ ht)
  show (dr a ++ dS l).take ((n+1)*11)=dr a ++ dS (l.take n)
  rw [show (n+1)*11=(dr a).length+n*11 by rw [iJ (h a (YJ ..))];omega,List.take_length_add_append,this]
end
end Go.Ev
end
section
namespace Go.Ev
def cidx (l:List Cn) (g:Gd):Option Nat:=l.findIdx? λs=>decide (s.g=g)
theorem BP {l} {g} {i} (h:cidx l g=some i):∃ hi:i<l.length,l[i].g=g:=by
 unfold cidx at h
 rw [Wh]at h
 grind
def yX (c:CH) (g:Gd):Nat × Nat:=match cidx c.aa g with
 | none=>(0,5)
 | some i=>if (c.aa.getD i ⟨[],(0,0),false⟩).hid=true then (0,14) else (i,0)
theorem aac {c} {g} (h:(yX c g).2=0):∃ i,∃ hi:i<c.aa.length,yX c g=(i,0)/\c.aa[i].g=g/\c.aa[i].hid=false/\cidx c.aa g=some i:=by
 unfold yX at h ⊢
 rcases hx:cidx c.aa g with _|i
 .simp_all
 .obtain ⟨hi,hg⟩:=BP hx
  grind
theorem Own.zero {H G:Heap} {v:V} {sz n b o n' c s:Nat} {row:List V} (h:Own H G v sz n row) (e:v = .slice b o n' c s):o=0/\n'=n:=by
 obtain ⟨_,_,⟨rfl,_⟩|⟨_,_,_,_,rfl,_⟩⟩:=h<;>cases e
 exact ⟨rfl,rfl⟩
theorem jK.hid {H:Heap} {c:CH} {v:V} {p i:Nat} (C:jK H p c v) (hi:i<c.aa.length):∃ b z s,v = .slice b 0 c.aa.length z s/\b<H.n/\∀ {G:Heap},G.get b=H.get b->∀ {id:Nat} {k:V->R},Du id (G.get b) (i*11+10) k=k (.bool c.aa[i].hid):=by
 obtain ⟨b,o,z,s,h1,h2,-,h4⟩:=C.row.cell (by omega)
 obtain ⟨rfl,-⟩:=C.own.zero h1
 refine ⟨b,z,s,h1,h2,λ{G} hG {id k}=>?_⟩
 have e:=pn C.ok.v8 (YA hi)
 have h8:=C.ok.v8 _ (YW hi)
 have e2:(((dS c.aa).drop (i*11)).take 11)[10]? = some (.bool c.aa[i].hid):=by
  rw [e];unfold dr
  rw [Ym (by rw [Ys,h8];omega),Ys,h8]
  rfl
 rw [List.getElem?_take,if_pos (by omega),List.getElem?_drop]at e2
 have:=h4 hG e2 (id:=id) (k:=k)
 rwa [WJ]at this
section
variable {cp:RC->ah} {t:Nat->Option cP} {fuel:Nat} {H:Heap}
theorem Q5 (T:aA t) {s} {g} {cg} (hw:H.wf) (h8:s.iT.length=8) (gg:H.get cg = .cells (aS g)) (hn:cg<H.n):
 ∃ H',(∀ (d) (k),aj (aN cp t fuel (d+1)) (.func 418 [.ptr cg 0]) [.agg (dr s)] H k=k (.bool (decide (s.g=g))) H')/\af H H':=by
 obtain ⟨G1,hG1,f1,p1,n1⟩:=Heap.aO hw (.cells (dr s))
 have g1:=(f1.same _ hn).trans gg
 refine ⟨G1,λd k=>?_,f1⟩
 obtain ⟨y0,y1,y2,y3,y4,y5,y6,y7,ey⟩:=jr h8
 simp only [dr,ey,YP,Yc,YL,YK,sv]at hG1 p1 ⊢
 simp only [aS]at g1
 rw [ax T.aev rfl rfl]
 simp only [YL,YK]
 by_cases h:s.g=g
 .have e1:=λ{id} {f}=>xD h (id:=id) (f:=f)
  rw [decide_eq_true h]
  simp only [go_sem,Z7,hw,hG1,p1,g1,↓bh,↓e1]
 .have e1:=λ{id} {f}=>JG h (id:=id) (f:=f)
  rw [decide_eq_false h]
  simp only [go_sem,Z7,hw,hG1,p1,g1,↓bh,↓e1,YT]
theorem EJ (T:aA t) {c:CH} {v:V} {p:Nat} {g:Gd} {cg:Nat} (C:jK H p c v) (gg:H.get cg = .cells (aS g)) (hcn:cg<H.n) (hfu:1000<fuel):
 ∃ H',(∀ (d:Nat) (k:K),aj (aN cp t fuel (d+2)) (.func 416 []) [v,.func 418 [.ptr cg 0]] H k=k (.int 3 ((cidx c.aa g).getD 18446744073709551615)) H')/\af H H':=by
 have hn:=C.ok.n
 have nl:nn c.aa.length:=by unfold nn;omega
 have sn:=λ{id} {f}=>C.own.sn (id:=id) (f:=f)
 have a0:c.aa.length<9223372036854775808:=by omega
 have run:=nw (c:=wR) (fuel:=fuel) (ph:=λd=>aN cp t fuel (d+1))
  (I:=λi _ G=>af H G/\∀ (j) (s),j<i->c.aa[j]? = some s->s.g≠g)
  (S:=λi _ e=>ae s000 e=v/\ae s001 e = .func 418 [.ptr cg 0]/\ae s007 e = .int 3 c.aa.length/\ae s010 e = .int 3 i)
  (J:=λq G=>af H G/\cidx c.aa g=some q) (Q:=λq e=>ae s004 e = .int 3 q) (λi _ G hil ⟨f,hno⟩=>by
   obtain ⟨b,o,z,zz,hv,hbn,hrd⟩:=C.el hil
   have hsi:=YA hil
   have hrd:=λ{id} {k}=>hrd (f.same _ hbn) (id:=id) (k:=k)
   have h8:=C.ok.v8 _ (YW hil)
   have hidx:c.aa[i].g=g->cidx c.aa g=some i:=λh=>by
    unfold cidx
    rw [Wh]
    grind
   generalize hsd:c.aa[i]=s at hsi hrd hidx h8
   obtain ⟨G1,z1o,f1⟩:=Q5 (cp:=cp) (fuel:=fuel) T f.wf h8 ((f.same _ hcn).trans gg) (YD hcn f.n)
   have z1:∀ {d} {k:K},_=k (.bool (decide (s.g=g))) G1:=λ{d} {k}=>z1o d k
   clear z1o
   have a1:nn i:=by unfold nn;omega
   have a2:i<9223372036854775808:=by omega
   have a3:(i+1)%18446744073709551616=i+1:=by omega
   by_cases h:s.g=g
   .refine YE ⟨i,G1,⟨f.trans f1,hidx h⟩,λd kx r e y ⟨q0,q1,q7,q10⟩ hk=>?_⟩
    simp only [decide_eq_true h]at z1
    rw [hv]at q0
    rw [ak]
    simp only [go_sem,wR,q0,q1,q7,q10,hil,nl,a1,a2,↓hrd,↓z1]
    refine hk _ ?_
    simp only [go_sem,↓reduceIte]
   .refine YG ⟨(),G1,⟨f.trans f1,λj s' hj hs'=>?_⟩,λd kx r e y ⟨q0,q1,q7,q10⟩ hk=>?_⟩
    .grind
    rw [hv]at q0
    rw [ak]
    simp only [go_sem,wR,q0,q1,q7,q10,hil,nl,a1,a2,a3,↓hrd,↓z1,h,decide_false]
    exact hk _ (by simp only [go_sem,q0,q1,q7,hv,and_self])) c.aa.length 0 () H (by omega) ⟨af.refl C.wf,λj s hj=>by omega⟩
 rcases run with ⟨_,G',⟨f',hno⟩,z⟩|⟨q,G',⟨f',hq⟩,z⟩
 .have Ay:cidx c.aa g=none:=by
   unfold cidx
   rw [List.findIdx?_eq_none_iff]
   intro s hs
   obtain ⟨j,hj,rfl⟩:=List.getElem_of_mem hs
   have:=hno j _ hj (YA hj)
   grind
  rw [Ay]
  refine ⟨G',λd k=>?_,f'⟩
  rw [aJ T.aaR rfl rfl]
  simp only [go_sem,Z6,↓sn,a0]
  refine z d _ fuel _ _ (by omega) ⟨?_,?_,?_,?_⟩ λr e' ⟨q0,q1,q7,q10⟩=>?_
  .rfl
  .rfl
  .rfl
  .rfl
  have e6:¬ c.aa.length<c.aa.length:=by omega
  rw [ak]
  simp only [go_sem,wR,q7,q10,nl,e6,Wq]
 .refine ⟨G',λd k=>?_,f'⟩
  rw [aJ T.aaR rfl rfl]
  simp only [go_sem,Z6,↓sn,a0]
  refine z d _ fuel _ _ (by omega) ⟨?_,?_,?_,?_⟩ λe' q4=>?_
  .rfl
  .rfl
  .rfl
  .rfl
  grind
theorem Jo (T:aA t) {c:CH} {v:V} {p:Nat} {g:Gd} (C:jK H p c v) (hfu:1000<fuel):
 ∃ H' x,(∀ (d:Nat) (k:K),aj (aN cp t fuel (d+3)) (.func 326 []) [.ptr p 0,.agg (aS g)] H k=k (.cH [x,.int 3 (yX c g).2]) H')/\af H H'/\x.one=true/\((yX c g).2=0->∃ b n cc s,v = .slice b 0 n cc s/\x = .ptr b ((yX c g).1*11)):=by
 have hn:=C.ok.n
 have w:=C.wf
 obtain ⟨G0,hG0,f0,p0,n0⟩:=Heap.aO w (.cells (aS g))
 have C0:=C.fresh f0
 have z0:=λ{d} {k}=>kC (cp:=cp) (fuel:=fuel) T C0 d k
 obtain ⟨G2,z2o,f2⟩:=EJ (cp:=cp) T C0 p0 (by omega) hfu
 have z2:=λ{d} {k}=>z2o d k
 have C2:=C0.fresh f2
 have g0:=C0.get
 have g2:=C2.get
 obtain ⟨x0,x1,x2,x3,x4,x5,x6,x7,e⟩:=jr C.ok.l8
 simp only [tC,e,YP,Yc,YL,YK,sv]at g0 g2
 simp only [aS]at hG0
 have a3:nn 0:=by unfold nn;omega
 rcases hi:cidx c.aa g with _|i
 .have hr:yX c g=(0,5):=by unfold yX;rw [hi]
  rw [hi]at z2
  simp only [Wq]at z2
  have a4:dA (.lt 9223372036854775808 18446744073709551616) 18446744073709551615 0=true:=by decide
  refine ⟨G2,.pK,λd k=>?_,f0.trans f2,rfl,λh=>by grind⟩
  rw [hr,aJ T.Vu rfl rfl]
  simp only [go_sem,UX,aS,w,hG0,↓z0,g0,↓z2,a4]
 .rw [hi]at z2
  simp only [Yl]at z2
  obtain ⟨hlt,-⟩:=BP hi
  obtain ⟨b,z,s,hv,hbn,hrd⟩:=C0.hid hlt
  have hrd:=λ{id} {k}=>hrd (f2.same _ hbn) (id:=id) (k:=k)
  have a1:nn i:=by unfold nn;omega
  have a2:i<9223372036854775808:=by omega
  have a4:¬ i<0:=by omega
  have hcf:yX c g=if c.aa[i].hid=true then (0,14) else (i,0):=by unfold yX;grind
  rcases hh:c.aa[i].hid with _|_
  .have hr:yX c g=(i,0):=by grind
   rw [hh]at hrd
   refine ⟨G2,.ptr b (i*11),λd k=>?_,f0.trans f2,rfl,λ_=>⟨b,_,z,s,hv,by rw [hr]⟩⟩
   rw [hv]at g0 g2 z2
   rw [hr,aJ T.Vu rfl rfl]
   simp only [go_sem,UX,aS,w,hG0,↓z0,g0,↓z2,a1,a2,a3,a4,hlt,g2,WJ,↓hrd]
  .have hr:yX c g=(0,14):=by grind
   rw [hh]at hrd
   refine ⟨G2,.pK,λd k=>?_,f0.trans f2,rfl,λh=>by grind⟩
   rw [hv]at g0 g2 z2
   rw [hr,aJ T.Vu rfl rfl]
   simp only [go_sem,UX,aS,w,hG0,↓z0,g0,↓z2,a1,a2,a3,a4,hlt,g2,WJ,↓hrd]
theorem Nh:∀ {l} {i} {s},(∀ s ∈ l,s.iT.length=8)->l[i]? = some s->(dS l).set (i*11+10) (.bool true)=dS (l.set i {s with hid:=true })
 | [],i,s,_,h=>by rfl
 | a :: l,0,s,h8,h=>by
  simp at h
  subst h
  obtain ⟨y0,y1,y2,y3,y4,y5,y6,y7,ey⟩:=jr (h8 a (YJ ..))
  show (dr a ++ dS l).set 10 (.bool true)=dr {a with hid:=true } ++ dS l
  simp only [dr,ey,YP,Yc,YL,YK]
  rfl
 | a :: l,i+1,s,h8,h=>by
  have:=Nh (λt ht=>h8 t (YI _ ht)) (by simpa using h)
  have hl:=iJ (h8 a (YJ ..))
  show (dr a ++ dS l).set ((i+1)*11+10) (.bool true)=dr a ++ dS (l.set i {s with hid:=true })
  grind
end
end Go.Ev
end
section
namespace Go.Ev
section
variable {cp:RC->ah} {t:Nat->Option cP} {fuel:Nat} {H:Heap}
theorem EL (T:aA t) {O} {n} {v} {row} (hw:H.wf) (h:Row H O v 1 n row) (hn:n<1000000):
 ∃ H' v',(∀ (d) (k),aj (aN cp t fuel (d+1)) (.func 420 []) [v] H k=k v' H')/\af H H'/\Own H H' v' 1 n row:=tG T.aew hw h hn
theorem abr (l:List Tx):∀ y ∈ l.map sv,y.one=true:=λy hy=>by obtain ⟨x,_,rfl⟩:=Yi.1 hy;rfl
theorem Jr (T:aA t) {c} {v} {p} {iT:List Tx} (C:jK H p c v) (h8:iT.length=8):
 ∃ H' v',(∀ (d) (k),aj (aN cp t fuel (d+2)) (.func 328 []) [.ptr p 0,.agg (iT.map sv)] H k=k v' H')/\af H H'/\Own H H' v' 1 c.size ((iT.take c.size).map sv):=by
 have w:=C.wf
 have s8:=C.ok.s8
 obtain ⟨G0,hG0,f0,p0,n0⟩:=Heap.aO w (.cells (iT.map sv))
 have C0:=C.fresh f0
 have hR:Row G0 (λ_=>False) (.slice H.n 0 c.size 9 0) 1 c.size ((iT.take c.size).map sv):=⟨by simp_all,abr _,YE ⟨H.n,0,9,0,iT.map sv,rfl,YG p0,by omega,id,by simp_all,by simp⟩⟩
 obtain ⟨G1,v',z1o,f1,o1⟩:=EL (cp:=cp) (fuel:=fuel) T f0.wf hR (by omega)
 have z1:=λ{d} {k}=>z1o d k
 have g0:=C0.get
 obtain ⟨x0,x1,x2,x3,x4,x5,x6,x7,e⟩:=jr C.ok.l8
 obtain ⟨y0,y1,y2,y3,y4,y5,y6,y7,ey⟩:=jr h8
 simp only [tC,e,YP,Yc,YL,YK,sv]at g0
 simp only [ey,YP,Yc,sv]at hG0
 have a1:nn c.size:=by unfold nn;omega
 have a2:c.size<9223372036854775808:=by omega
 refine ⟨G1,v',λd k=>?_,f0.trans f1,o1.sub (by omega)⟩
 rw [aJ T.ad6 rfl rfl,ey]
 simp only [YP,Yc,sv]
 simp only [go_sem,acx,w,hG0,g0,a2,s8,Yf,YB,↓z1,Nat.sub_zero]
theorem Jv (T:aA t) {c} {v} {p} {g} (C:jK H p c v) (hfu:1000<fuel):
 ∃ H' v',(∀ (d:Nat) (k:K),aj (aN cp t fuel (d+4)) (.func 190 []) [.ptr p 0,.agg (aS g)] H k=k (.cH [v',.int 3 (yX c g).2]) H')/\af H H'/\((yX c g).2≠0->v' = .az)/\∀ (i:Nat) (s:Cn),yX c g=(i,0)->c.aa[i]? = some s->Own H H' v' 1 c.size ((s.iT.take c.size).map sv):=by
 have w:=C.wf
 obtain ⟨G0,hG0,f0,p0,n0⟩:=Heap.aO w (.cells (aS g))
 have C0:=C.fresh f0
 obtain ⟨G1,x,z1o,f1,jx,hx⟩:=Jo (cp:=cp) T C0 hfu
 have z1:=λ{d} {k}=>z1o d k
 have C1:=C0.fresh f1
 have f01:=f0.trans f1
 have p0':=p0
 simp only [aS]at hG0 p0' z1
 by_cases h:(yX c g).2=0
 .obtain ⟨i,hi,hr,hgi,hhi,-⟩:=aac h
  obtain ⟨b,n,cc,s,hv,hxx⟩:=hx h
  have hsi:=YA hi
  obtain ⟨b',o,z,zz,hv',hbn,hrd⟩:=C1.el hi
  have hrd:=λ{id} {k}=>hrd rfl (id:=id) (k:=k)
  have h8:=C.ok.v8 _ (YW hi)
  obtain ⟨G2,v',z2o,f2,o2⟩:=Jr (cp:=cp) (fuel:=fuel) T C1 h8
  have z2:=λ{d} {k}=>z2o d k
  simp only [hr]at hxx z1 ⊢
  subst hxx
  have hrd8:∀ {id} {k},tZ id (G1.get b) (i*11) 8 k=k (c.aa[i].iT.map sv):=λ{id k}=>by
   obtain ⟨_,_,⟨hn',_⟩|⟨b2,c2,s2,rest,hv2,gb,_,_,_⟩⟩:=C1.own
   .omega
   .obtain rfl:b=b2:=by rw [hv]at hv2;cases hv2;rfl
    have hat:=pn C.ok.v8 hsi
    have e8:((dS c.aa ++ rest).drop (i*11)).take 8=c.aa[i].iT.map sv:=by
     rw [Wx (by omega),Wy (by rw [WM];omega)]
     have:((dS c.aa).drop (i*11)).take 8=(((dS c.aa).drop (i*11)).take 11).take 8:=by rw [YE4];rfl
     rw [this,hat]
     unfold dr
     rw [Qk (by rw [Ys,h8])]
    rw [gb,iP,fk (by rw [YC];omega),eP (by rw [WM,YC];omega),e8]
  refine ⟨G2,v',λd k=>?_,f01.trans f2,λhne=>absurd rfl hne,λj s' hj hs'=>?_⟩
  .rw [aJ T.k95 rfl rfl]
   simp only [go_sem,c95,aS,w,hG0,p0',↓z1,↓hrd8,↓z2]
  .obtain rfl:i=j:=congrArg Prod.fst hj
   rw [hsi]at hs'
   cases hs'
   exact o2.sub (by have:=f01.n;omega)
 .refine ⟨G1,.az,λd k=>?_,f01,λ_=>rfl,λi s hi=>absurd (by rw [hi]) h⟩
  rw [aJ T.k95 rfl rfl]
  simp only [go_sem,c95,aS,w,hG0,p0',↓z1,h,not_false_eq_true]
theorem oQ (T:aA t) {c:CH} {v:V} {p:Nat} (C:jK H p c v) (hfu:1000<fuel):
 ∃ H' v',(∀ (d:Nat) (k:K),aj (aN cp t fuel (d+2)) (.func 72 []) [.ptr p 0] H k=k v' H')/\af H H'/\Own H H' v' 2 c.aa.length (iw (c.aa.map (·.g))):=by
 have hn:=C.ok.n
 have nl:nn c.aa.length:=by unfold nn;omega
 have z0:=λ{d} {k}=>kC (cp:=cp) (fuel:=fuel) T C d k
 have g:=C.get
 obtain ⟨x0,x1,x2,x3,x4,x5,x6,x7,e⟩:=jr C.ok.l8
 simp only [tC,e,YP,Yc,YL,YK,sv]at g
 have sn:=λ{id} {f}=>C.own.sn (id:=id) (f:=f)
 have a0:c.aa.length<9223372036854775808:=by omega
 obtain ⟨v',G',⟨f',o'⟩,z⟩:=bA (c:=LG) (fuel:=fuel)
  (I:=λi v G=>af H G/\Own H G v 2 i (iw ((c.aa.take i).map (·.g))))
  (S:=λi w e=>ae s003 e=w/\ae s014 e=v/\ae s015 e = .int 3 c.aa.length/\ae s016 e = .int 3 i) (λi u G hil ⟨f,o⟩=>by
   obtain ⟨b,ob,cc,z,hv,hbn,hrd⟩:=C.el hil
   have htk:c.aa.take (i+1)=c.aa.take i ++ [c.aa[i]]:=by rw [Ww,YA hil];rfl
   have hrd:=λ{id} {k}=>hrd (f.same _ hbn) (id:=id) (k:=k)
   have h8:=C.ok.v8 _ (YW hil)
   generalize c.aa[i]=s at htk hrd h8
   obtain ⟨y0,y1,y2,y3,y4,y5,y6,y7,ey⟩:=jr h8
   have w0:=f.wf
   obtain ⟨G1,hG1,f1,p1,n1⟩:=Heap.aO w0 (.cells [.str 0 0,.str 0 0,.str 0 0,.str 0 0,.str 0 0,.str 0 0,.str 0 0,.str 0 0,.int 7 0,.int 7 0,.bool false])
   obtain ⟨G2,hG2,f2,p2,n2,w2,k2⟩:=Heap.aU f1 (YB _) (by omega) (.cells (dr s))
   obtain ⟨G3,hG3,f3,p3,n3⟩:=Heap.aO w2 (.cells (aS s.g))
   have f03:=(f.trans f2).trans f3
   obtain ⟨v',G4,hap,o4,f4,-⟩:=Own.app (w:=u) (x:=.slice G2.n 0 1 2 0) f03 ((o.fresh f2).fresh f3) (λ{id f}=>iN p3 rfl) rfl (Fz _) (by omega)
   have w1:=f1.wf
   have a1:nn i:=by unfold nn;omega
   have a2:i<9223372036854775808:=by omega
   have a3:(i+1)%18446744073709551616=i+1:=by omega
   have a4:G.n<G1.n:=by omega
   refine ⟨v',G4,⟨f4,by rw [htk,WB,sy];simpa [iw] using o4⟩,λd kx r e x ⟨q3,q14,q15,q16⟩ hk=>?_⟩
   simp only [dr,ey,YP,Yc,YL,YK,sv]at hG2 p2 hrd
   simp only [aS]at hG3
   rw [hv]at q14
   rw [ak]
   simp only [go_sem,LG,q3,q14,q15,q16,hil,nl,a1,a2,a3,a4,↓hrd,w0,hG1,p1,w1,hG2,p2,w2,hG3,↓hap]
   refine hk _ ?_
   simp only [go_sem,q14,q15,hv,and_self]) c.aa.length 0 .az H (by omega) ⟨af.refl C.wf,Own.nil⟩
 rw [List.take_length]at o'
 refine ⟨G',v',λd k=>?_,f',o'⟩
 rw [aJ T.k36 rfl rfl]
 simp only [go_sem,c36,↓z0,g,↓sn,a0]
 refine z (d+1) _ fuel _ _ (by omega) ⟨?_,?_,?_,?_⟩ λr e' ⟨q3,q14,q15,q16⟩=>?_
 .rfl
 .rfl
 .rfl
 .rfl
 have e6:¬ c.aa.length<c.aa.length:=by omega
 rw [ak]
 simp only [go_sem,LG,q3,q15,q16,nl,e6]
theorem M1 (T:aA t) {n} (hw:H.wf) (h1:1<=n) (h8:n<=8) (hfu:1000<fuel):
 ∃ H' q,(∀ (d) (k),aj (aN cp t fuel (d+2)) (.func 180 []) [.int 3 n] H k=k (.ptr q 0) H')/\af H H'/\jK H' q ⟨zT n,n,[]⟩ .az/\H.n<=q:=by
 obtain ⟨G1,z1o,f1⟩:=rO (cp:=cp) T hw h8 hfu
 have z1:=λ{d} {k}=>z1o d k
 have w1:=f1.wf
 obtain ⟨G2,hG2,f2,p2,n2⟩:=Heap.aO w1 (.cells (tC ⟨zT n,n,[]⟩ .az))
 have a1:nn n:=by unfold nn;omega
 have a2:nn 1:=by unfold nn;omega
 have a3:nn 8:=by unfold nn;omega
 have a4:¬ n<1:=by omega
 have a5:¬ 8<n:=by omega
 refine ⟨G2,G1.n,λd k=>?_,f1.trans f2,⟨f2.wf,p2,by omega,Own.nil,(λb o n c s e=>(by cases e)),⟨kZ h8,h1,h8,by simp,λs hs=>(by cases hs),λs hs=>(by cases hs)⟩⟩,f1.n⟩
 obtain ⟨y0,y1,y2,y3,y4,y5,y6,y7,ez⟩:=jr (kZ h8)
 simp only [ez,YP,Yc,sv]at z1
 simp only [tC,ez,YP,Yc,YL,YK,sv]at hG2
 rw [aJ T.k90 rfl rfl]
 simp only [go_sem,c90,a1,a2,a3,a4,a5,↓z1,w1,hG2]
end
end Go.Ev
end
section
namespace Go.Ev
def dP (l:List Tx) (cs:List Wr):Nat->List Tx
 | 0=>l
 | i+1=>(dP l cs i).set (cs.getD i (0,(0,0))).1 (cs.getD i (0,(0,0))).2
theorem Lr {l} {cs}:∀ i,(dP l cs i).length=l.length
 | 0=>rfl
 | i+1=>by simp only [dP,YA0,Lr i]
section
variable {cp:RC->ah} {t:Nat->Option cP} {fuel:Nat} {H:Heap}
end
end Go.Ev
end
section
namespace Go.Ev
theorem Rz {id l1 a l2 b} {cls} {l m} {f}:jj id (2 :: cls) (.str l1 a :: l) (.str l2 b :: m) f=if l1=l2/\a=b then jj id cls l m f else f false:=by
 show aF (Nat.beq l1 l2) (aF (Nat.beq a b) (jj id cls l m f) (f false)) (aF false (jj id cls l m f) (f false))=_
 simp only [bB,om,YT,if_false]
 grind
theorem eqV {id} {f}:∀ {a b:List Tx} {n},a.length=n->b.length=n->jj id (YZ n 2) (a.map sv) (b.map sv) f=f (decide (a=b))
 | [],[],0,_,_=>by rfl
 | [],_ :: _,n,h,h'=>by grind
 | _ :: _,[],n,h,h'=>by grind
 | x :: a,y :: b,0,h,_=>by simp_all
 | x :: a,y :: b,n+1,h,h'=>by
  show jj id (2 :: YZ n 2) (.str x.1 x.2 :: a.map sv) (.str y.1 y.2 :: b.map sv) f=_
  rw [Rz,eqV (by simp_all) (by simp_all)]
  by_cases hxy:x=y
  .simp_all
  .rw [if_neg (λh=>hxy (Prod.ext h.1 h.2))]
   simp_all
theorem wV {a}:∀ i,gE a a i=[]
 | 0=>rfl
 | i+1=>by simp only [gE,wV i,if_true,YR]
theorem jK.iT {H:Heap} {c:CH} {v:V} {p i:Nat} (C:jK H p c v) (hi:i<c.aa.length):∃ b z s,v = .slice b 0 c.aa.length z s/\b<H.n/\∀ {G:Heap},G.get b=H.get b->∀ {id:Nat} {k:List V->R},tZ id (G.get b) (i*11) 8 k=k (c.aa[i].iT.map sv):=by
 have hsi:c.aa[i]? = some c.aa[i]:=YA hi
 have h8:=C.ok.v8 _ (YW hi)
 obtain ⟨_,_,⟨hn',h0⟩|⟨b,c2,s2,rest,hv2,gb,_,_,hb⟩⟩:=C.own
 .omega
 refine ⟨b,c2,s2,hv2,hb,λ{G} hG {id k}=>?_⟩
 have hl:=Ak C.ok.v8
 have hat:=pn C.ok.v8 hsi
 have e8:((dS c.aa ++ rest).drop (i*11)).take 8=c.aa[i].iT.map sv:=by
  rw [Wx (by omega),Wy (by rw [WM];omega)]
  have:((dS c.aa).drop (i*11)).take 8=(((dS c.aa).drop (i*11)).take 11).take 8:=by rw [YE4];rfl
  rw [this,hat]
  unfold dr
  rw [Qk (by rw [Ys,h8])]
 rw [hG,gb,iP,fk (by rw [YC];omega),eP (by rw [WM,YC];omega),e8]
section
variable {cp:RC->ah} {t:Nat->Option cP} {fuel:Nat} {H:Heap}
theorem MY (T:aA t) {A B:Nat} {a b:List Tx} (hw:H.wf) (gA:H.get A = .cells (a.map sv)) (hA:A<H.n) (gB:H.get B = .cells (b.map sv)) (hB:B<H.n) (ha:a.length=8) (hb:b.length=8) (hfu:1000<fuel):
 ∃ G' v',af H G'/\Own H G' v' 2 (L0 a b).length (bC (L0 a b))/\∀ (d:Nat) (kx:Nat->KE) (e:Env) (x:R),ae s006 e = .ptr A 0->ae s010 e = .ptr B 0->ae s007 e = .az->ae s062 e = .int 3 0->
  (∀ e',ae s007 e'=v'->kx 1 e' G'=x)->jQ Af fuel (aN cp t fuel d) kx fuel e H=x:=by
 have nl:nn 8:=by unfold nn;omega
 obtain ⟨v',G',⟨f',o'⟩,z⟩:=bA (c:=Af) (fuel:=fuel) (n:=8)
  (I:=λi v G=>af H G/\Own H G v 2 (gE a b i).length (bC (gE a b i)))
  (S:=λi v e=>ae s006 e = .ptr A 0/\ae s010 e = .ptr B 0/\ae s007 e=v/\ae s062 e = .int 3 i) (λi v G hil ⟨f,o⟩=>by
   have hia:i<a.length:=by omega
   have hib:i<b.length:=by omega
   have hg1:a.getD i t0=a[i]:=by grind
   have hg2:b.getD i t0=b[i]:=by grind
   have hst:gE a b (i+1)=gE a b i ++ (if a[i]=b[i] then [] else [(i,b[i])]):=by simp only [gE,hg1,hg2]
   have hcl:=tF a b i
   have gA':=(f.same _ hA).trans gA
   have gB':=(f.same _ hB).trans gB
   have hra:∀ {id} {k},Du id (G.get A) i k=k (sv a[i]):=λ{id k}=>yA (YG gA') (by simp [hia]) rfl
   have hrb:∀ {id} {k},Du id (G.get B) i k=k (sv b[i]):=λ{id k}=>yA (YG gB') (by simp [hib]) rfl
   generalize a[i]=x at hra hst
   generalize b[i]=y at hrb hst
   simp only [sv]at hra hrb
   have w0:=f.wf
   have a1:nn i:=by unfold nn;omega
   have a2:i<9223372036854775808:=by omega
   have a3:(i+1)%18446744073709551616=i+1:=by omega
   by_cases hxy:x=y
   .have e1:(x.1=y.1/\x.2=y.2)=True:=by grind
    have e2:(y.1=x.1/\y.2=x.2)=True:=by grind
    refine ⟨v,G,⟨f,by grind⟩,λd kx r e x ⟨q6,q10,q7,q62⟩ hk=>?_⟩
    rw [ak]
    simp only [go_sem,Af,q6,q10,q62,hil,nl,a1,a2,a3,↓hra,↓hrb,e2,Ql]
    exact hk _ (by simp only [go_sem,q6,q10,q7,and_self])
   .rw [if_neg hxy]at hst
    have e1:(x.1=y.1/\x.2=y.2)=False:=by grind
    have e2:(y.1=x.1/\y.2=x.2)=False:=by grind
    obtain ⟨G3,hG3,f3,p3,n3⟩:=Heap.aO w0 (.cells [.int 3 i,.str y.1 y.2])
    obtain ⟨v',G4,hap,o4,f4,-⟩:=Own.app (w:=v) (x:=.slice G.n 0 1 2 0) (f.trans f3) (o.fresh f3) (λ{id f}=>iN p3 rfl) rfl (λz hz=>by rcases Yb.1 hz with rfl|hz;rfl;rw [YU.1 hz];rfl) (by omega)
    refine ⟨v',G4,⟨f4,by rw [hst,YC,er];exact o4⟩,λd kx r e x ⟨q6,q10,q7,q62⟩ hk=>?_⟩
    rw [ak]
    simp only [go_sem,Af,q6,q10,q7,q62,hil,nl,a1,a2,a3,↓hra,↓hrb,e2,w0,hG3,↓hap]
    refine hk _ ?_
    simp only [go_sem,q6,q10,and_self]) 8 0 .az H (by omega) ⟨af.refl hw,Own.nil⟩
 have hc8:gE a b 8=L0 a b:=by unfold L0;rw [hb]
 rw [hc8]at o'
 refine ⟨G',v',f',o',λd kx e x q6 q10 q7 q62 hk=>z d kx fuel e x (by omega) ⟨q6,q10,q7,q62⟩ λr e' ⟨q6,q10,q7,q62⟩=>?_⟩
 have e6:=by omega
 rw [ak]
 simp only [go_sem,ZE,Af,q62,nl]
 exact hk _ q7
def fp (c:CH) (i:Nat):List Tx:=if i=0 then zT c.size else (c.aa.getD (i-1) ⟨[],(0,0),false⟩).iT
set_option maxRecDepth 4000 in
theorem zk (T:aA t) {c:CH} {v:V} {p i:Nat} (C:jK H p c v) (hi:nn i) (hfu:1000<fuel):
 ∃ H' v',(∀ (d:Nat) (k:K),aj (aN cp t fuel (d+2)) (.func 186 []) [.ptr p 0,.int 3 i] H k=k (.cH [v',.int 3 (if i<c.aa.length then 0 else 5)]) H')/\af H H'/\(¬ i<c.aa.length->v' = .az)/\∀ s,c.aa[i]? = some s->Own H H' v' 2 (L0 (fp c i) s.iT).length (bC (L0 (fp c i) s.iT)):=by
 have hn:=C.ok.n
 have w:=C.wf
 have z0:=λ{d} {k}=>kC (cp:=cp) (fuel:=fuel) T C d k
 have sn:=λ{id} {f}=>C.own.sn (id:=id) (f:=f)
 have a1:c.aa.length<9223372036854775808:=by omega
 have a2:nn c.aa.length:=by unfold nn;omega
 have a3:nn 0:=by unfold nn;omega
 have a4:¬ i<0:=by omega
 have g:=C.get
 obtain ⟨x0,x1,x2,x3,x4,x5,x6,x7,e⟩:=jr C.ok.l8
 simp only [tC,e,YP,Yc,YL,YK,sv]at g
 by_cases hlt:i<c.aa.length
 .have hge:¬ c.aa.length<=i:=by omega
  have hsi:=YA hlt
  rw [if_pos hlt]
  obtain ⟨G1,z1o,f1⟩:=rO (cp:=cp) T w C.ok.s8 hfu
  have z1:=λ{d} {k}=>z1o d k
  clear z1o
  have w1:=f1.wf
  obtain ⟨G2,hG2,f2,p2,n2⟩:=Heap.aO w1 (.cells [.str 0 0,.str 0 0,.str 0 0,.str 0 0,.str 0 0,.str 0 0,.str 0 0,.str 0 0])
  have w2:=f2.wf
  have b2:G1.n<G2.n:=by omega
  obtain ⟨G3,hG3,f3,p3,n3,w3,k3⟩:=Heap.aU f2 (YB _) b2 (.cells ((zT c.size).map sv))
  have f13:=f1.trans f3
  have C3:=C.fresh f13
  have g3:=C3.get
  simp only [tC,e,YP,Yc,YL,YK,sv]at g3
  have base:∃ G4,af H G4/\G3.n<=G4.n/\G4.get G1.n = .cells ((fp c i).map sv)/\(fp c i).length=8/\∀ (d) (kn) (kx) (e) (x),ae s000 e = .ptr p 0->ae s001 e = .int 3 i->ae s006 e = .ptr G1.n 0->
   (∀ e',ae s000 e' = .ptr p 0->ae s001 e' = .int 3 i->ae s006 e' = .ptr G1.n 0->eR LX fuel (aN cp t fuel d) e' G4 kn kx=x)->eR LW fuel (aN cp t fuel d) e G3 kn kx=x:=by
   unfold fp
   by_cases h0:i=0
   .subst h0
    simp only [if_true]
    refine ⟨G3,f13,YB _,p3,kZ C.ok.s8,λd kn kx e x q0 q1 q6 hk=>?_⟩
    have e0:¬ 0<0:=by omega
    simp only [go_sem,LW,q1,a3,e0]
    exact hk _ q0 q1 q6
   .obtain ⟨j,rfl⟩:∃ j,i=j+1:=⟨i-1,by omega⟩
    have hj:j<c.aa.length:=by omega
    simp only [h0,if_false,Nat.add_sub_cancel]
    rw [YF,YA hj,Yl]
    obtain ⟨b,z,s,hv,hbn,hrd⟩:=C3.iT hj
    have hrd:=λ{id} {k}=>hrd rfl (id:=id) (k:=k)
    have h8:=C.ok.v8 _ (YW hj)
    generalize c.aa[j]=s' at hrd h8
    have b3:G1.n<G3.n:=by omega
    obtain ⟨G4,hG4,f4,p4,n4,w4,k4⟩:=Heap.aU f3 (YB _) b3 (.cells (s'.iT.map sv))
    refine ⟨G4,f1.trans f4,by omega,p4,h8,λd kn kx e y q0 q1 q6 hk=>?_⟩
    have e1:0<j+1:=by omega
    have e2:(j+1+18446744073709551615)%18446744073709551616=j:=by unfold nn at hi;omega
    have e3:nn j:=by unfold nn;omega
    have e4:j<9223372036854775808:=by omega
    have e5:=by omega
    obtain ⟨y0,y1,y2,y3,y4,y5,y6,y7,ey⟩:=jr h8
    obtain ⟨u0,u1,u2,u3,u4,u5,u6,u7,eu⟩:=jr (kZ C.ok.s8)
    simp only [ey,eu,YP,Yc,sv]at hrd hG4 p3
    rw [hv]at g3
    simp only [go_sem,LW,q0,q1,q6,a3,hi,e1,e2,e4,hj,g3,WJ,WL,↓hrd,p3,w3,b3,hG4]
    exact hk _ q0 q1 q6
  obtain ⟨G4,f4,n4,p4,hpl,zb⟩:=base
  have C4:=C.fresh f4
  have g4:=C4.get
  simp only [tC,e,YP,Yc,YL,YK,sv]at g4
  obtain ⟨b,z,s,hv,hbn,hrd⟩:=C4.iT hlt
  have hrd:=λ{id} {k}=>hrd rfl (id:=id) (k:=k)
  have h8:=C.ok.v8 _ (YW hlt)
  generalize c.aa[i]=sn' at hsi hrd h8
  have w4:=f4.wf
  obtain ⟨G5,hG5,f5,p5,n5⟩:=Heap.aO w4 (.cells [.str 0 0,.str 0 0,.str 0 0,.str 0 0,.str 0 0,.str 0 0,.str 0 0,.str 0 0])
  have w5:=f5.wf
  have b5:G4.n<G5.n:=by omega
  have hbb:=by omega
  have gb5:=f5.same _ hbn
  obtain ⟨G6,hG6,f6,p6,n6,w6,k6⟩:=Heap.aU f5 (YB _) b5 (.cells (sn'.iT.map sv))
  have q4:=(f6.same _ (by omega)).trans p4
  have hb4:=hi
  have hb5:i<9223372036854775808:=by omega
  have hrep:∀ {id} {f},jj id [2,2,2,2,2,2,2,2] (sn'.iT.map sv) ((fp c i).map sv) f=f (decide (sn'.iT=fp c i)):=λ{id f}=>eqV h8 hpl
  have f46:=f4.trans f6
  by_cases hsame:sn'.iT=fp c i
  .have hnil:L0 (fp c i) sn'.iT=[]:=by rw [hsame];exact wV _
   simp only [decide_eq_true hsame]at hrep
   refine ⟨G6,.az,λd k=>?_,f46,λh=>absurd hlt h,λs' hs'=>by rw [hsi]at hs';cases hs';rw [hnil];exact Own.nil⟩
   generalize fp c i=pv at *
   obtain ⟨y0,y1,y2,y3,y4,y5,y6,y7,ey⟩:=jr h8
   obtain ⟨u0,u1,u2,u3,u4,u5,u6,u7,eu⟩:=jr hpl
   obtain ⟨w0',w1',w2',w3',w4',w5',w6',w7',ew⟩:=jr (kZ C.ok.s8)
   clear hsame hnil
   simp only [ey,eu,ew,YP,Yc,sv]at hrd hG3 hG6 p6 q4 z1 hrep
   rw [aJ T.k93 rfl rfl]
   simp only [go_sem,c93,LU,LV,P8,↓z0,g,↓sn,a1,a2,a3,a4,hi,hge,↓z1,w1,hG2,p2,w2,b2,hG3]
   refine zb (d+1) _ _ _ _ ?_ ?_ ?_ λe' q0 q1 q6=>?_
   .rfl
   .rfl
   .rfl
   rw [hv]at g4
   simp only [go_sem,LX,P9,Q0,Q1,q0,q1,q6,g4,hb5,hlt,WJ,WL,↓hrd,w4,hG5,p5,w5,b5,hG6,p6,q4,↓bh,↓hrep,Ql]
  .simp only [decide_eq_false hsame]at hrep
   obtain ⟨G7,v',f7,o7,z7⟩:=MY (cp:=cp) T w6 q4 (by omega) p6 (by omega) hpl h8 hfu
   refine ⟨G7,v',λd k=>?_,f46.trans f7,λh=>absurd hlt h,λs' hs'=>by rw [hsi]at hs';cases hs';exact o7.sub (by have:=f46.n;omega)⟩
   generalize fp c i=pv at *
   obtain ⟨y0,y1,y2,y3,y4,y5,y6,y7,ey⟩:=jr h8
   obtain ⟨u0,u1,u2,u3,u4,u5,u6,u7,eu⟩:=jr hpl
   obtain ⟨w0',w1',w2',w3',w4',w5',w6',w7',ew⟩:=jr (kZ C.ok.s8)
   clear hsame o7
   simp only [ey,eu,ew,YP,Yc,sv]at hrd hG3 hG6 p6 q4 z1 hrep
   rw [aJ T.k93 rfl rfl]
   simp only [go_sem,c93,LU,LV,P8,↓z0,g,↓sn,a1,a2,a3,a4,hi,hge,↓z1,w1,hG2,p2,w2,b2,hG3]
   refine zb (d+1) _ _ _ _ ?_ ?_ ?_ λe' q0 q1 q6=>?_
   .rfl
   .rfl
   .rfl
   rw [hv]at g4
   simp only [go_sem,LX,P9,q0,q1,q6,g4,hb5,hlt,WJ,WL,↓hrd,w4,hG5,p5,w5,b5,hG6,p6,q4,↓bh,↓hrep,YT]
   refine z7 (d+1) _ _ _ ?_ ?_ ?_ ?_ λe'' q7=>?_
   .exact q6
   .rfl
   .rfl
   .rfl
   simp only [go_sem,Q0,Q1,q7]
 .have hge:c.aa.length<=i:=by omega
  rw [if_neg hlt]
  refine ⟨H,.az,λd k=>?_,af.refl w,λ_=>rfl,λs hs=>absurd (Yo.1 hs).1 hlt⟩
  rw [aJ T.k93 rfl rfl]
  simp only [go_sem,c93,LU,LV,↓z0,g,↓sn,a1,a2,a3,a4,hi,hge]
end
end Go.Ev
end
section
namespace Go.Ev
def hU (c n:Nat):List UInt8:=YZ n (UInt8.ofNat c)
theorem ny {c n}:(hU c n).length=n:=Wz
theorem JV {c n}:hU c (n+1)=hU c n ++ [UInt8.ofNat c]:=YK1
theorem Oc {c i} (h:c<256):KG (enc (hU c i)) i 1 c=enc (hU c (i+1)):=by
 have h1:=jA (hU c i)
 rw [ny]at h1
 have h2:enc (hU c i) >>> (8*(i+1))=0:=by
  rw [xC,List.drop_eq_nil_of_le (by rw [ny];omega)]
  rfl
 rw [JV,iL,ny]
 unfold KG
 rw [h2,Nat.mod_eq_of_lt h1]
 simp only [enc]
 have h3:(UInt8.ofNat c).toNat=c:=by simp_all
 rw [h3]
def dT (c:Nat):Tx:=(32,enc (hU c 32))
theorem X7 (c):vk (dT c):=by
 have:=jA (hU c 32)
 exact this
section
variable {cp:RC->ah} {t:Nat->Option cP} {fuel:Nat} {H:Heap}
end
end Go.Ev
end
section
namespace Go.Ev
structure qK (A:AD) (m:MT) (c:CH):Prop where
 live:m.live.map (dE A)=c.live
 len:m.aa.length=c.aa.length
 sn:∀ (i:Nat) (s:Sn) (s':Cn),m.aa[i]? = some s->c.aa[i]? = some s'->s.g=s'.g/\s.hid=s'.hid/\s.cF.map (dE A)=s'.iT
theorem Gq {g}:∀ {a} {b},a.length=b.length->(∀ (i:Nat) (s) (s'),a[i]? = some s->b[i]? = some s'->s.g=s'.g)->rv a g=cidx b g
 | [],[],_,_=>rfl
 | [],_ :: _,h,_=>by simp_all
 | _ :: _,[],h,_=>by simp_all
 | x :: a,y :: b,h,hs=>by
  have h0:=hs 0 x y rfl rfl
  have ih:=Gq (g:=g) (by simpa using h) λi s s' h1 h2=>hs (i+1) s s' (by simp_all) (by simp_all)
  unfold rv cidx at ih ⊢
  rw [YM3,YM3,h0,ih]
theorem qK.find {A:AD} {m:MT} {c:CH} (h:qK A m c) (g:Gd):jI m g=yX c g:=by
 have hi:=Gq (g:=g) h.len λi s s' h1 h2=>(h.sn i s s' h1 h2).1
 unfold jI yX
 rw [hi]
 rcases hx:cidx c.aa g with _|i
 .rfl
 .obtain ⟨hlt,-⟩:=BP hx
  have hlt':i<m.aa.length:=by rw [h.len];exact hlt
  have:=(h.sn i _ _ (YA hlt') (YA hlt)).2.1
  simp only [YF,YA hlt,YA hlt',Yl,this]
theorem zT8:zT 8=YZ 8 (32,0):=by rfl
section
variable {cp:RC->ah} {t:Nat->Option cP} {fuel:Nat} {H:Heap}
end
end Go.Ev
end
section
namespace Go.Ev
theorem po:∀ {l} {i} {g},l[i]? = some g->((iw l).drop (i*2)).take 2=aS g
 | [],i,g,h=>by simp_all
 | a :: l,0,g,h=>by
  simp at h
  subst h
  rfl
 | a :: l,i+1,g,h=>by
  have:=po (by simpa using h)
  rw [show (i+1)*2=i*2+2 by omega]
  exact this
structure Uv (H0 H:Heap) (dp vp a n:Nat) (A:AD) (O:Nat->Prop) (m:MT) (vl vs vi:V) (p:Nat) (c:CH) (v:V):Prop where
 st:Step H0 (bQ O vp) H (bQ O vp)
 vp:VP H dp vp a n A O m vl vs vi
 ch:jK H p c v
section
variable {H0 H G:Heap} {dp vp a n p:Nat} {A:AD} {O:Nat->Prop} {m:MT} {vl vs vi v:V} {c:CH}
theorem Uv.fresh (h:Uv H0 H dp vp a n A O m vl vs vi p c v) (f:af H G):Uv H0 G dp vp a n A O m vl vs vi p c v:=⟨h.st.trans f.step,h.vp.fresh f,h.ch.fresh f⟩
theorem Uv.step (h:Uv H0 H dp vp a n A O m vl vs vi p c v) (hd:∀ b,CQ p v b->¬ bQ O vp b) (s:Step H (bQ O vp) G (bQ O vp)) (S:VP G dp vp a n A O m vl vs vi):Uv H0 G dp vp a n A O m vl vs vi p c v:=⟨h.st.trans s,S,(h.ch.cG s hd).1⟩
end
section
variable {cp:RC->ah} {t:Nat->Option cP} {fuel:Nat} {H:Heap}
end
end Go.Ev
end
section
namespace Go.Ev
theorem FY (cs):(cZ cs).Nodup:=List.Pairwise.filter _ List.nodup_range
theorem Nz {cs} {i} (h:i ∈ cZ cs):193<=i/\i<cs.length/\cs[i]? = some 0:=by
 unfold cZ at h
 rw [Wl,List.mem_range,decide_eq_true_eq]at h
 exact ⟨h.2.1,h.1,h.2.2⟩
theorem xI {m} {n i} {cs} (h:i ∈ jD m n cs):193<=i/\i<n/\∀ l ∈ c8 m,i ∉ l:=by
 obtain ⟨h1,h2,h3⟩:=Nz (Wc h)
 unfold fW at h2 h3
 rw [dF]at h2
 rw [oR h2,Option.some.injEq,List.count_eq_zero]at h3
 refine ⟨h1,h2,λl hl hi=>h3 ?_⟩
 unfold nz
 rw [Wl,List.mem_flatten]
 exact ⟨⟨l,hl,hi⟩,by simp;omega⟩
theorem xJ {m} {n} {cs}:(jD m n cs).Nodup:=(FY _).sublist (YN4 _ _)
theorem FU {m} {n} {cs} (h:¬ (cZ (fW m n)).length<fT cs cs.length):(jD m n cs).length=fT cs cs.length:=by
 unfold jD
 simp_all
theorem CJ {cs} {fr}:∀ {i j},j<i->(Hl cs fr i)[j]? = some (if (cs.getD j (0,(32,0))).2=(32,0) then 0 else fr.getD (fT cs j) 0)
 | 0,j,h=>by omega
 | i+1,j,h=>by
  simp only [Hl]
  by_cases hj:j<i
  .rw [Yp (by rw [qv];omega)]
   exact CJ hj
  .obtain rfl:j=i:=by omega
   rw [Ym (by rw [qv];omega),qv,QR]
   rfl
theorem Mv {cs} {fr} {w}:∀ {i},w ∈ Hm cs fr i->∃ j,j<i/\(cs.getD j (0,(32,0))).2≠(32,0)/\w=(fr.getD (fT cs j) 0,(cs.getD j (0,(32,0))).2)
 | 0,h=>by cases h
 | i+1,h=>by
  rcases Yn.1 h with h|h
  .obtain ⟨j,h1,h2⟩:=Mv h
   exact ⟨j,by omega,h2⟩
  .split at h
   .cases h
   .rename_i hne
    exact ⟨i,by omega,hne,YU.1 h⟩
theorem Ta {cs:List Wr} {fr}:∀ {i j},j<i->(cs.getD j (0,(32,0))).2≠(32,0)->((fr.getD (fT cs j) 0,(cs.getD j (0,(32,0))).2):Wr) ∈ Hm cs fr i
 | 0,j,h,_=>by omega
 | i+1,j,h,hne=>by
  simp only [Hm]
  by_cases hj:j<i
  .exact QC _ (Ta hj hne)
  .obtain rfl:j=i:=by omega
   simp_all
theorem Ki {cs:List Wr} {i j} (h:j<i) (hne:(cs.getD j (0,(32,0))).2≠(32,0)):fT cs j<fT cs i:=by
 have h1:fT cs (j+1)=fT cs j+1:=by simp only [fT,if_neg hne]
 have h2:=yh (cs:=cs) (i:=j+1) h
 omega
theorem Ho {cs} {fr}:∀ {i},fT cs i<=fr.length->(Hm cs fr i).map (·.1)=fr.take (fT cs i)
 | 0,_=>rfl
 | i+1,h=>by
  simp only [Hm,fT]at h ⊢
  rw [WB,Ho (by omega)]
  by_cases hz:(cs.getD i (0,(32,0))).2=(32,0)
  .simp_all
  .rw [if_neg hz]at h
   rw [if_neg hz,if_neg hz,Ww,YF,YA (show fT cs i<fr.length by omega)]
   rfl
structure eW (m:MT) (n:Nat) (cs:List Wr):Prop where
 room:¬ (cZ (fW m n)).length<fT cs cs.length
 ok:∀ c ∈ cs,c.2.1=32/\vk c.2
theorem eW.fr {m:MT} {n:Nat} {cs:List Wr} (h:eW m n cs) {j:Nat} (hj:j<cs.length) (hne:(cs.getD j (0,(32,0))).2≠(32,0)):∃ q,(jD m n cs)[fT cs j]? = some q/\(jD m n cs).getD (fT cs j) 0=q/\q ∈ jD m n cs:=by
 have h1:=FU h.room
 have h2:=Ki hj hne
 have h3:fT cs j<(jD m n cs).length:=by omega
 exact ⟨(jD m n cs)[fT cs j],YA h3,by rw [YF,YA h3];rfl,YW h3⟩
def pW (m:MT) (n:Nat) (cs:List Wr):List Wr:=Hm cs (jD m n cs) cs.length
def pA (m:MT) (n:Nat) (cs:List Wr):List Nat:=Hl cs (jD m n cs) cs.length
theorem eW.w {m:MT} {n:Nat} {cs:List Wr} (h:eW m n cs) {w:Wr} (hw:w ∈ pW m n cs):193<=w.1/\w.1<n/\w.2.1=32/\vk w.2/\∀ l ∈ c8 m,w.1 ∉ l:=by
 obtain ⟨j,hj,hne,rfl⟩:=Mv hw
 obtain ⟨q,h1,h2,h3⟩:=h.fr hj hne
 obtain ⟨g1,g2,g3⟩:=xI h3
 have hc:cs.getD j (0,(32,0)) ∈ cs:=by rw [YF,YA hj];exact YW hj
 obtain ⟨k1,k2⟩:=h.ok _ hc
 rw [h2]
 exact ⟨g1,g2,k1,k2,g3⟩
theorem eW.nodup {m:MT} {n:Nat} {cs:List Wr} (h:eW m n cs):((pW m n cs).map (·.1)).Nodup:=by
 unfold pW
 rw [Ho (by rw [FU h.room];exact YB _)]
 exact xJ.sublist (YN4 _ _)
theorem eW.len {m:MT} {n:Nat} {cs:List Wr}:(pW m n cs).length<=cs.length:=by
 unfold pW
 rw [CK]
 exact pL _ _
theorem eW.read {m:MT} {n:Nat} {cs:List Wr} (h:eW m n cs) {A':AD} (hA:∀ w ∈ pW m n cs,A'.read w.1=w.2) {j:Nat} (hj:j<cs.length):∃ q,(pA m n cs)[j]? = some q/\dE A' q=(cs.getD j (0,(32,0))).2/\(q=0\/193<=q/\q<n/\(q ∈ jD m n cs)/\(jD m n cs)[fT cs j]? = some q/\(cs.getD j (0,(32,0))).2≠(32,0)):=by
 unfold pA
 rw [CJ hj]
 by_cases hz:(cs.getD j (0,(32,0))).2=(32,0)
 .rw [if_pos hz]
  exact ⟨0,rfl,by rw [hz];rfl,YG rfl⟩
 .rw [if_neg hz]
  obtain ⟨q,h1,h2,h3⟩:=h.fr hj hz
  obtain ⟨g1,g2,g3⟩:=xI h3
  have hin:=hA _ (Ta (fr:=jD m n cs) hj hz)
  rw [h2]at hin ⊢
  refine ⟨q,rfl,?_,YE ⟨g1,g2,h3,h1,hz⟩⟩
  unfold dE
  rw [if_neg (by omega)]
  exact hin
end Go.Ev
end
section
namespace Go.Ev
theorem qD.pl {t:Tk} {last:Gd} {b n:Nat} (h:qD t last b n):∀ q ∈ t.cF,q=0\/193<=q/\q<n:=by
 unfold qD at h
 split at h
 .rw [h.2.2.2];exact λq hq=>by cases hq
 .exact h.2.2.2.2.2.pl
theorem iX.pl {m:MT} {b n:Nat} (h:iX m b n):∀ l ∈ c8 m,∀ q ∈ l,q=0\/193<=q/\q<n:=by
 intro l hl q hq
 unfold c8 at hl
 rcases Yb.1 hl with rfl|hl
 .exact h.live.pl q hq
 rcases Yb.1 hl with rfl|hl
 .exact h.tok.pl q hq
 .obtain ⟨s,hs,rfl⟩:=Yi.1 hl
  exact (h.aa.mem hs).pl q hq
structure zQ where
 e0:Nat
 m1:MT
 bw:List Wr
structure jH (A:AD) (m:MT) (o:zQ) (c':CH):Prop where
 ok:iX o.m1 8 A.len
 Kl:rP o.m1
 l8:o.m1.live.length=8
 bw:∀ w ∈ o.bw,193<=w.1/\w.1<A.len/\w.2.1=32/\vk w.2/\∀ l ∈ c8 m,w.1 ∉ l
 nd:(o.bw.map (·.1)).Nodup
 len:o.bw.length<=12
 s8:c'.size=8
 ag:∀ A':AD,(∀ w ∈ o.bw,A'.read w.1=w.2)->(∀ l ∈ c8 m,∀ q ∈ l,dE A' q=dE A q)->qK A' o.m1 c'
structure VI (pk:List UInt8->List (List UInt8)) (A:AD) (a n:Nat) (us:List Wr) (m:MT) (c:CH):Prop where
 jd:JD pk A a n us
 lo:193<=A.len
 hi:A.len<=1024
 room:A.len<=A.room
 l8:m.live.length=8
 ok:iX m 8 A.len
 Kl:rP m
 rJ:MK A (pk (bj (nB m)))
 s8:c.size=8
 ag:qK A m c
structure Chg (pk:List UInt8->List (List UInt8)) (A:AD) (m':MT) (bw:List Wr) (g:Nat->Option Tx):Prop where
 rJ:∀ i (h:i<(pk (bj (nB m'))).length),(g (145+i)).getD (32,0)=tx (pk (bj (nB m')))[i]
 wr:∀ w ∈ bw,(g w.1).getD (32,0)=w.2
 other:∀ q,193<=q->q ∉ bw.map (·.1)->(g q).getD (32,0)=A.read q
variable {pk:List UInt8->List (List UInt8)} {unpk:List (List UInt8)->Option (List UInt8)}
theorem Ah (F:cD pk unpk) {nb} {A} {m'} {bw} (hlo:193<=A.len) (hi:A.len<=1024) (Y:iX m' nb A.len) (h8:m'.live.length=nb) (hbw:∀ w ∈ bw,193<=w.1/\w.1<A.len/\w.2.1=32/\vk w.2) (hnd:(bw.map (·.1)).Nodup) (hbl:bw.length<=12):
 (pH m').2=0/\(Q4 pk A m' bw).length<=60/\iq A.len [] (Q4 pk A m' bw)=true/\(∀ w ∈ Q4 pk A m' bw,vk w.2)/\Chg pk A m' bw (find (laid A.es (Q4 pk A m' bw))):=by
 have hY:=Y.mono hi
 have henc:=by
  have:iX m' m'.live.length 1024:=by rw [h8];omega
  exact this.enc
 have htl:=Y.text hi
 have hsz:=F.size (bj (nB m')) (by omega)
 have h32:=F.len (bj (nB m')) (by omega)
 unfold Q4
 rw [henc]
 generalize hss:pk (bj (nB m'))=ss at hsz h32
 have hl:=sk A ss ss.length
 have hd:∀ w ∈ iI A ss ss.length,145<=w.1/\w.1<193/\w.2.1=32/\vk w.2:=λw hw=>by
  obtain ⟨j,hj,rfl⟩:=oZ hw
  have:(ss.getD j []).length=32:=h32 _ (by rw [YF,YA hj];exact YW _)
  exact ⟨by omega,by omega,this,jA _⟩
 have hnd':((iI A ss ss.length ++ bw).map (·.1)).Nodup:=by
  rw [WB]
  refine QV.2 ⟨rf _,hnd,λx hx y hy=>?_⟩
  obtain ⟨w,hw,rfl⟩:=Yi.1 hx
  obtain ⟨v,hv,rfl⟩:=Yi.1 hy
  have:=(hd w hw).2.1
  have:=(hbw v hv).1
  omega
 refine ⟨rfl,by simp only [YC];omega,Cu (λw hw=>⟨?_,λh=>(by cases h)⟩) hnd',λw hw=>(Yn.1 hw).elim (λh=>(hd w h).2.2.2) λh=>(hbw w h).2.2.2,⟨λi h=>?_,λw hw=>?_,λq h1 h2=>?_⟩⟩
 .rcases Yn.1 hw with h|h
  .obtain ⟨a1,a2,a3,-⟩:=hd w h;exact ⟨a1,by omega,a3⟩
  .obtain ⟨a1,a2,a3,-⟩:=hbw w h;exact ⟨by omega,a2,a3⟩
 .subst hss
  rw [jl,dB (λhk=>by obtain ⟨v,hv,e⟩:=Yi.1 hk;have:=(hbw v hv).1;omega)]
  have:=Nb (B:={A with es:=laid A.es (iI A (pk (bj (nB m'))) (pk (bj (nB m'))).length)}) (λk _=>rfl) h
  rw [YF,YA h,Yl]at this
  exact this
 .rw [jl,fu hnd hw]
  rfl
 .rw [jl,dB h2,dB (λhk=>by obtain ⟨v,hv,e⟩:=Yi.1 hk;have:=(hd v hv).2.1;omega)]
  rfl
theorem Chg.congr {A:AD} {m':MT} {bw:List Wr} {g g':Nat->Option Tx} (h:Chg pk A m' bw g) (e:∀ k,145<=k->g' k=g k) (hb:∀ w ∈ bw,193<=w.1):Chg pk A m' bw g':=
 ⟨λi hi=>by rw [e _ (by omega)];exact h.rJ i hi,λw hw=>by rw [e _ (by have:=hb w hw;omega)];exact h.wr w hw,λq h1 h2=>by rw [e _ (by omega)];exact h.other q h1 h2⟩
theorem jH.holds {A B:AD} {m:MT} {o:zQ} {c c':CH} {a n a' n':Nat} {us us':List Wr} (I:VI pk A a n us m c) (G:jH A m o c') (J:JD pk B a' n' us') (hl:B.len=A.len) (hr:B.room=A.room) (h:Chg pk A o.m1 o.bw (find B.es)):VI pk B a' n' us' o.m1 c':=by
 refine ⟨J,by rw [hl];exact I.lo,by rw [hl];exact I.hi,by rw [hl,hr];exact I.room,G.l8,by rw [hl];exact G.ok,G.Kl,⟨λi hi=>h.rJ i hi⟩,G.s8,G.ag B (λw hw=>h.wr w hw) λl hlm q hq=>?_⟩
 unfold dE
 rcases I.ok.pl l hlm q hq with rfl|⟨h1,h2⟩
 .rw [if_pos rfl,if_pos rfl]
 .rw [if_neg (by omega),if_neg (by omega)]
  exact h.other q h1 λhk=>by
   obtain ⟨w,hw,rfl⟩:=Yi.1 hk
   exact (G.bw w hw).2.2.2.2 l hlm hq
theorem jH.done (F:cD pk unpk) {A:AD} {m:MT} {o:zQ} {c c':CH} {a n:Nat} {us:List Wr} (I:VI pk A a n us m c) (hf:A.aZ=0) (G:jH A m o c'):
 (sh pk A a o.m1 o.bw).2=0/\(sh pk A a o.m1 o.bw).1.aZ=0/\(sh pk A a o.m1 o.bw).1.len=A.len/\(sh pk A a o.m1 o.bw).1.room=A.room/\∃ a' n' us',VI pk (sh pk A a o.m1 o.bw).1 a' n' us' o.m1 c':=by
 obtain ⟨h1,h2,h3,h4,h5⟩:=Ah F I.lo I.hi G.ok G.l8 (λw hw=>let ⟨a1,a2,a3,a4,_⟩:=G.bw w hw; ⟨a1,a2,a3,a4⟩) G.nd G.len
 have hR:sh pk A a o.m1 o.bw=A.eG pk a (Q4 pk A o.m1 o.bw):=by unfold sh;rw [if_pos h1]
 rw [hR]
 have hcode:=I.jd.code F hf I.room h4
 have hdid:=I.jd.eG F hf h4
 have h0:(A.eG pk a (Q4 pk A o.m1 o.bw)).2=0:=by
  rw [hcode];unfold Ev.code
  split
  .rfl
  .rw [if_neg (by omega),if_neg (by rw [h3];simp)]
 obtain ⟨a',n',us',J'⟩:=hdid.jd
 exact ⟨h0,hdid.aZ,hdid.len,hdid.room,a',n',us',G.holds I J' hdid.len hdid.room (h5.congr (λk hk=>(hdid.yes h0).1 k hk) λw hw=>(G.bw w hw).1)⟩
end Go.Ev
end
section
namespace Go.Ev
theorem SM {l} {x}:x ∈ nz l↔x ∈ l/\x≠0:=by
 unfold nz
 simp
theorem jU:∀ {l:List Nat},(nz l).Nodup ↔ ∀ (i j x:Nat),i<j->l[i]? = some x->l[j]? = some x->x=0
 | []=>by simp [nz]
 | p :: l=>by
  rw [Mq]
  by_cases p0:p=0
  .rw [if_pos p0,jU]
   constructor
   .intro h i j x hij hi hj
    cases i with
    | zero=>simp_all
    | succ i=>
     cases j with
     | zero=>omega
     | succ j=>exact h i j x (by omega) (by simp_all) (by simpa using hj)
   .intro h i j x hij hi hj
    exact h (i+1) (j+1) x (by omega) (by simp_all) (by simp_all)
  .rw [if_neg p0,List.nodup_cons,jU,SM]
   constructor
   .rintro ⟨h0,h⟩ i j x hij hi hj
    cases j with
    | zero=>omega
    | succ j=>
     cases i with
     | zero=>
      simp at hi hj
      exact absurd ⟨YS (by rw [hi];exact hj),p0⟩ h0
     | succ i=>exact h i j x (by omega) (by simp_all) (by simp_all)
   .intro h
    refine ⟨λhm=>?_,λi j x hij hi hj=>h (i+1) (j+1) x (by omega) (by simp_all) (by simpa using hj)⟩
    obtain ⟨j,hj⟩:=QT hm.1
    exact p0 (h 0 (j+1) p (by omega) rfl (by simp_all))
theorem oe.snoc {b n:Nat} {s:Sn}:∀ {ss:List Sn} {last:Gd},oe b n last ss->JW s.g (AH last ss)->gV s.cF b n->oe b n last (ss ++ [s])
 | [],last,_,h1,h2=>⟨h1,h2,trivial⟩
 | a :: ss,last,h,h1,h2=>⟨h.1,h.2.1,oe.snoc h.2.2 h1 h2⟩
theorem xW {s}:∀ {ss} {last},AH last (ss ++ [s])=s.g
 | [],last=>rfl
 | a :: ss,last=>xW (last:=a.g)
theorem Cs (m):(cR m).g=AH (0,0) m.aa:=by
 rcases hn:m.aa.length with _|q
 .rw [ke hn,YQ hn]
  rfl
 .have hs:m.aa[q]? = some m.aa[q]:=YA (by omega)
  rw [j9 hs hn]
  have:m.aa=m.aa.take q ++ [m.aa[q]]:=by
   have h1:=Ww (l:=m.aa) (i:=q)
   rw [YV (by omega),hs]at h1
   exact h1
  generalize m.aa[q]=s at this
  rw [this,xW]
theorem GF {m} {n} (h:iX m 8 n) (h8:m.live.length=8):gV (cR m).cF 8 n:=by
 rcases hn:m.aa.length with _|q
 .rw [ke hn]
  rw [h8]
  exact (Sx (b:=8) (by omega) (by omega)).live
 .have hs:m.aa[q]? = some m.aa[q]:=YA (by omega)
  rw [j9 hs hn]
  exact h.aa.mem (YW _)
theorem TU (last) (b n):qD Bf last b n:=by exact ⟨rfl,rfl,rfl,rfl⟩
theorem uh {m} (h:Go.Ev.rP m):∀ s ∈ m.aa,ld s.g:=λs hs=>(h.aa s hs).1
section
variable {pk:List UInt8->List (List UInt8)} {A:AD} {a n:Nat} {us:List Wr} {m:MT} {c:CH}
theorem VI.last (I:VI pk A a n us m c):(cR m).g=(iA c).g/\(cR m).cF.map (dE A)=(iA c).iT:=by
 have hl:=I.ag.len
 rcases hn:m.aa.length with _|q
 .rw [ke hn,mE (by omega)]
  refine ⟨rfl,?_⟩
  show (YZ m.live.length 0).map (dE A)=zT c.size
  rw [I.l8,I.s8,zT8,QP]
  rfl
 .have hs:m.aa[q]? = some m.aa[q]:=YA (by omega)
  have hc:c.aa[q]? = some c.aa[q]:=YA (by omega)
  rw [j9 hs hn,mD hc (by omega)]
  obtain ⟨h1,-,h2⟩:=I.ag.sn q _ _ hs hc
  exact ⟨h1,h2⟩
theorem VI.agree {A':AD} (I:VI pk A a n us m c) (h:∀ l ∈ c8 m,∀ q ∈ l,dE A' q=dE A q):qK A' m c:=by
 have hm:∀ l ∈ c8 m,l.map (dE A')=l.map (dE A):=λl hl=>Wu λq hq=>h l hl q hq
 refine ⟨(hm _ (YJ ..)).trans I.ag.live,I.ag.len,λi s s' h1 h2=>?_⟩
 obtain ⟨g1,g2,g3⟩:=I.ag.sn i s s' h1 h2
 exact ⟨g1,g2,(hm s.cF (YI _ (YI _ (Yi.2 ⟨s,YS h1,rfl⟩)))).trans g3⟩
theorem qK.snoc {A':AD} (h:qK A' m c) {s:Sn} {s':Cn} {tk:Tk} {lv:List Nat} {lc:List Tx} (h1:s.g=s'.g) (h2:s.hid=s'.hid) (h3:s.cF.map (dE A')=s'.iT) (h4:lv.map (dE A')=lc):qK A' ⟨lv,m.aa ++ [s],tk⟩ {c with aa:=c.aa ++ [s'],live:=lc }:=by
 refine ⟨h4,by show (m.aa ++ [s]).length=(c.aa ++ [s']).length;rw [YC,YC,h.len];rfl,λi t t' q1 q2=>?_⟩
 have q1:(m.aa ++ [s])[i]? = some t:=q1
 have q2:(c.aa ++ [s'])[i]? = some t':=q2
 by_cases hi:i<m.aa.length
 .rw [Yp hi]at q1
  rw [Yp (by rw [<- h.len];exact hi)]at q2
  exact h.sn i t t' q1 q2
 .rw [Ym (by omega)]at q1
  rw [Ym (by rw [<- h.len];omega)]at q2
  rw [h.len]at q1
  rcases hk:i-c.aa.length with _|k
  .rw [hk]at q1 q2
   simp at q1 q2
   subst q1 q2
   exact ⟨h1,h2,h3⟩
  .rw [hk]at q1
   simp at q1
end
end Go.Ev
end
section
namespace Go.Ev
theorem qC.get {cs:List Wr} {b:Nat} (h:qC cs b) {j:Nat} (hj:j<cs.length):(cs.getD j (0,(0,0))).1<b/\(cs.getD j (0,(32,0)))=cs.getD j (0,(0,0)):=by
 rw [YF,YF,YA hj]
 exact ⟨(h.lt _ (YW hj)).1,rfl⟩
theorem mP {cs} {b} {l at_} (h:qC cs b) (hl:l.length=b):∀ {i},i<=cs.length->∀ {k x},(eU l cs at_ i)[k]? = some x->(∃ j,j<i/\(cs.getD j (0,(0,0))).1=k/\x=at_.getD j 0)\/(l[k]? = some x/\∀ j,j<i->(cs.getD j (0,(0,0))).1≠k)
 | 0,_,k,x,hx=>YE ⟨hx,λj hj=>by omega⟩
 | i+1,hi,k,x,hx=>by
  simp only [eU]at hx
  rw [List.getElem?_set]at hx
  by_cases hk:(cs.getD i (0,(0,0))).1=k
  .rw [if_pos hk,if_pos (by simp_all)]at hx
   cases hx
   exact YG ⟨i,by omega,hk,rfl⟩
  .rw [if_neg hk]at hx
   rcases mP h hl (by omega) hx with ⟨j,h1,h2,h3⟩|⟨h1,h2⟩
   .exact YG ⟨j,by omega,h2,h3⟩
   .refine YE ⟨h1,λj hj=>?_⟩
    by_cases hji:j<i
    .simp_all
    .obtain rfl:j=i:=by omega
     omega
theorem eW.at_ {m:MT} {n:Nat} {cs:List Wr} (P:eW m n cs) {j:Nat} (hj:j<cs.length):(pA m n cs).getD j 0=0\/((cs.getD j (0,(32,0))).2≠(32,0)/\(jD m n cs)[fT cs j]? = some ((pA m n cs).getD j 0)/\193<=(pA m n cs).getD j 0/\(pA m n cs).getD j 0<n/\∀ l ∈ c8 m,(pA m n cs).getD j 0 ∉ l):=by
 have hg:(pA m n cs).getD j 0=if (cs.getD j (0,(32,0))).2=(32,0) then 0 else (jD m n cs).getD (fT cs j) 0:=by
  unfold pA
  rw [YF,CJ hj]
  rfl
 rw [hg]
 by_cases hz:(cs.getD j (0,(32,0))).2=(32,0)
 .rw [if_pos hz];exact YG rfl
 .rw [if_neg hz]
  obtain ⟨q,h1,h2,h3⟩:=P.fr hj hz
  obtain ⟨g1,g2,g3⟩:=xI h3
  rw [h2]
  exact YE ⟨hz,h1,g1,g2,g3⟩
theorem NV {l:List Nat} (h:l.Nodup) {i j x:Nat} (hi:l[i]? = some x) (hj:l[j]? = some x):i=j:=by
 obtain ⟨h1,e1⟩:=Yo.1 hi
 obtain ⟨h2,e2⟩:=Yo.1 hj
 exact (List.getElem_inj h).1 (e1.trans e2.symm)
theorem Ck {nb:Nat} {m:MT} {n:Nat} {cs:List Wr} {l:List Nat} (hl:gV l nb n) (hlm:l ∈ c8 m\/∀ q ∈ l,q=0) (P:eW m n cs) (ch:qC cs nb):gV (eU l cs (pA m n cs) cs.length) nb n:=by
 refine ⟨hl.lo,hl.hi,by rw [mQ];exact hl.len,λq hq=>?_,jU.2 λi j x hij hi hj=>?_⟩
 .obtain ⟨k,hk⟩:=QT hq
  rcases mP ch hl.len (YB _) hk with ⟨j,h1,-,h3⟩|⟨h1,-⟩
  .rcases P.at_ h1 with h|⟨-,-,h4,h5,-⟩
   .exact YG (h3.trans h)
   omega
  .exact hl.pl q (YS h1)
 .have hno:∀ {q k},l[k]? = some q->(∀ l ∈ c8 m,q ∉ l)->q=0:=λ{q k} h1 h2=>by
   rcases hlm with h|h
   .exact absurd (YS h1) (h2 l h)
   .exact h q (YS h1)
  rcases mP ch hl.len (YB _) hi with ⟨a,a1,a2,a3⟩|⟨a1,a2⟩
  .rcases mP ch hl.len (YB _) hj with ⟨b,b1,b2,b3⟩|⟨b1,b2⟩
   .rcases P.at_ a1 with h|⟨h2,h3,-⟩
    .exact a3.trans h
    .rcases P.at_ b1 with h'|⟨h2',h3',-⟩
     .exact b3.trans h'
     .rw [<- a3]at h3
      rw [<- b3]at h3'
      have hab:=NV xJ h3 h3'
      exfalso
      rcases Nat.lt_trichotomy a b with hh|hh|hh
      .have:=Ki hh h2;omega
      .subst hh;omega
      .have:=Ki hh h2';omega
   .rcases P.at_ a1 with h|⟨-,-,-,-,h5⟩
    .exact a3.trans h
    .rw [<- a3]at h5
     exact hno b1 h5
  .rcases mP ch hl.len (YB _) hj with ⟨b,b1,b2,b3⟩|⟨b1,b2⟩
   .rcases P.at_ b1 with h|⟨-,-,-,-,h5⟩
    .exact b3.trans h
    .rw [<- b3]at h5
     exact hno a1 h5
   .exact jU.1 hl.nd i j x hij a1 b1
theorem vP {m} {n} {cs} {l} {A'} (P:eW m n cs) (ch:qC cs 8) (hA:∀ w ∈ pW m n cs,A'.read w.1=w.2):∀ {i},i<=cs.length->(eU l cs (pA m n cs) i).map (dE A')=dP (l.map (dE A')) cs i
 | 0,_=>rfl
 | i+1,hi=>by
  simp only [eU,dP]
  rw [List.map_set,vP P ch hA (by omega)]
  obtain ⟨q,h1,h2,-⟩:=P.read hA (j:=i) (by omega)
  rw [YF (l:=pA m n cs),h1,Yl,h2,(ch.get (by omega)).2]
theorem Si {m}:(cR m).cF ∈ c8 m\/∀ q ∈ (cR m).cF,q=0:=by
 rcases hn:m.aa.length with _|q
 .rw [ke hn]
  simp
 .have hs:m.aa[q]? = some m.aa[q]:=YA (by omega)
  rw [j9 hs hn]
  exact YG (YI _ (YI _ (Yi.2 ⟨_,YW _,rfl⟩)))
section
variable {pk:List UInt8->List (List UInt8)} {A:AD} {a n:Nat} {us:List Wr} {m:MT} {c:CH}
theorem K3 (I:VI pk A a n us m c) {tk} {cs} {bv} (Z:MM m tk cs) (hfin:¬ tk.next<tk.all) (h20:m.aa.length<20) (hr:¬ nN m A.len cs) (hl:gV (nO m tk) 8 A.len) (hlm:nO m tk ∈ c8 m\/∀ q ∈ nO m tk,q=0) (hcl:cs.length<=12)
 (hbv:dP ((nO m tk).map (dE A)) cs cs.length=bv):jH A m ⟨0,Dv m A.len tk cs,Ow m A.len cs⟩ {c with aa:=c.aa ++ [⟨bv,tk.t,false⟩],live:=bv }:=by
 have ch:=by have:=Z.ch;rwa [I.l8]at this
 have P:eW m A.len cs:=⟨hr,λc hc=>⟨(ch.lt c hc).2.1,(ch.lt c hc).2.2⟩⟩
 have hi:=Ck hl hlm P ch
 have hw:Ow m A.len cs=pW m A.len cs:=rfl
 have hm:Dv m A.len tk cs=⟨eU (nO m tk) cs (pA m A.len cs) cs.length,m.aa ++ [⟨tk.t,eU (nO m tk) cs (pA m A.len cs) cs.length,false⟩],Bf⟩:=by
  unfold Dv stM
  rw [if_neg hfin]
  rfl
 rw [hm,hw]
 generalize hL:eU (nO m tk) cs (pA m A.len cs) cs.length=L at hi
 have ok1:iX (⟨L,m.aa ++ [⟨tk.t,L,false⟩],Bf⟩:MT) 8 A.len:=⟨hi,by rw [YC];show m.aa.length+1<=20;omega,I.ok.aa.snoc (by rw [<- Cs];exact qm.2 Z.t) hi,TU _ _ _⟩
 refine ⟨ok1,ok1.rP I.hi (λs hs=>(Yn.1 hs).elim (uh I.Kl s) λh=>by rw [YU.1 h];exact Z.gt) yM.1 yM.2.1,hi.len,λw hw=>P.w hw,P.nodup,Yr eW.len hcl,I.s8,λA' hA hf=>?_⟩
 have hAg:=I.agree hf
 have hst:(nO m tk).map (dE A')=(nO m tk).map (dE A):=by
  rcases hlm with h|h
  .exact Wu λq hq=>hf _ h q hq
  .exact Wu λq hq=>by rw [h q hq];rfl
 have hv:L.map (dE A')=bv:=by rw [<- hL,vP P ch hA (YB _),hst,hbv]
 exact hAg.snoc rfl rfl hv hv
theorem K5 (I:VI pk A a n us m c) {tk} {cs} (Z:MM m tk cs) (hb:ld tk.b) (hfin:tk.next<tk.all) (h1:1<=tk.next) (hr:¬ nN m A.len cs) (hl:gV (nO m tk) 8 A.len) (hlm:nO m tk ∈ c8 m\/∀ q ∈ nO m tk,q=0) (hcl:cs.length<=12):
 jH A m ⟨0,Dv m A.len tk cs,Ow m A.len cs⟩ c/\(Dv m A.len tk cs).tok={tk with cF:=eU (nO m tk) cs (pA m A.len cs) cs.length }/\∀ A':AD,(∀ w ∈ Ow m A.len cs,A'.read w.1=w.2)->(∀ l ∈ c8 m,∀ q ∈ l,dE A' q=dE A q)->(eU (nO m tk) cs (pA m A.len cs) cs.length).map (dE A')=dP ((nO m tk).map (dE A)) cs cs.length:=by
 have ch:=by have:=Z.ch;rwa [I.l8]at this
 have P:eW m A.len cs:=⟨hr,λc hc=>⟨(ch.lt c hc).2.1,(ch.lt c hc).2.2⟩⟩
 have hi:=Ck hl hlm P ch
 have hw:Ow m A.len cs=pW m A.len cs:=rfl
 have hm:Dv m A.len tk cs=⟨m.live,m.aa,{tk with cF:=eU (nO m tk) cs (pA m A.len cs) cs.length }⟩:=by
  unfold Dv stM
  rw [if_pos hfin]
  rfl
 have hgt:=qm.2 Z.t
 have htne:tk.t≠(0,0):=λh=>by
  rw [h]at hgt
  unfold JW at hgt
  omega
 have hall:=Z.all
 rw [I.l8]at hall
 rw [hm,hw]
 have hst:∀ A',(∀ l ∈ c8 m,∀ q ∈ l,dE A' q=dE A q)->(nO m tk).map (dE A')=(nO m tk).map (dE A):=λA' hf=>by
  rcases hlm with h|h
  .exact Wu λq hq=>hf _ h q hq
  .exact Wu λq hq=>by rw [h q hq];rfl
 have ok1:iX (⟨m.live,m.aa,{tk with cF:=eU (nO m tk) cs (pA m A.len cs) cs.length }⟩:MT) 8 A.len:=⟨I.ok.live,I.ok.num,I.ok.aa,by
  unfold qD
  rw [if_neg htne]
  exact ⟨by rw [<- Cs];exact Z.b,by rw [<- Cs];exact hgt,h1,hfin,hall,hi⟩⟩
 refine ⟨⟨ok1,ok1.rP I.hi (λs hs=>uh I.Kl s hs) hb Z.gt,I.l8,λw hw=>P.w hw,P.nodup,Yr eW.len hcl,I.s8,λA' hA hf=>?_⟩,rfl,λA' hA hf=>?_⟩
 .have hAg:=I.agree hf
  exact ⟨hAg.live,hAg.len,hAg.sn⟩
 .rw [vP P ch hA (YB _),hst A' hf]
end
end Go.Ev
end
section
namespace Go.Ev
variable {cp:RC->ah} {t:Nat->Option cP} {fuel:Nat} {H:Heap} {pk:List UInt8->List (List UInt8)} {unpk:List (List UInt8)->Option (List UInt8)}
theorem ua {A B} (h:∀ k,find A.es k=find B.es k) (q):dE A q=dE B q:=by unfold dE AD.read;rw [h]
theorem HF (T:aA t) (hc:aY t) (F:cD pk unpk) (hu:t 119=some (.nat (ev unpk))) {dp a n} {A} {O} {us} {m} {c} (hD:cN H dp A O) (I:VI pk A a n us m c) (hf:A.aZ=0) (hfu:1000000<fuel):
 ∃ H' O' A' vp vl vs vi,(∀ (d) (k),aj (aN cp t fuel (d+9)) (.func 18 []) [.ptr dp 0] H k=k (.cH [.ptr vp 0,.int 3 0]) H')/\Step H O H' O'/\VP H' dp vp a n A' O' m vl vs vi/\H.n<=vp/\VI pk A' a n us m c/\A'.aZ=0/\A'.len=A.len/\A'.room=A.room/\∀ X:Nat->Prop,(∀ b,X b->b<H.n)->ku H' (λb=>X b\/bQ O' vp b) m vl vs vi:=by
 obtain ⟨r1,r2,r3,r4,r5,r6⟩:=I.jd.recovered hf
 have hT:MK (A.recover n us).1 (pk (bj (nB m))):=⟨λi h=>by rw [AD.read,r6];exact I.rJ.at_ i h⟩
 obtain ⟨H',O',vp,vl,vs,vi,z,s,D,g,hn,ho,hv,hM,hX⟩:=yS T hc F hu hD I.jd.HB r1 r2.off (by rw [r4];exact I.lo) (by rw [r4];exact I.hi) (by rw [r4,I.l8];exact I.ok) I.Kl hT hfu
 refine ⟨H',O',_,vp,vl,vs,vi,z,s,⟨D,r2.off,r2.HB.can,by rw [r4];exact I.lo,by rw [r4];exact I.hi,g,hn,ho,hM,I.Kl⟩,hv,⟨r2,by rw [r4];exact I.lo,by rw [r4];exact I.hi,by rw [r4,r5];exact I.room,I.l8,by rw [r4];exact I.ok,I.Kl,hT,I.s8,I.agree λl _ q _=>ua r6 q⟩,r3,r4,r5,hX⟩
def c0:CH:=⟨zT 8,8,[]⟩
theorem Sw (A):qK A (mz 8) c0:=⟨by rfl,rfl,λi s s' h=>by cases i<;>cases h⟩
end Go.Ev
end
section
namespace Go.Ev
open Go.Proofs
theorem FN {k}:∀ {L:List (List Nat)},(∀ l ∈ L,l.length<=k)->L.flatten.length<=L.length*k
 | [],_=>Yf _
 | l :: L,h=>by
  have h1:=h l (YJ ..)
  have h2:=FN λx hx=>h x (YI _ hx)
  rw [List.flatten_cons,YC,YH,Wi]
  omega
theorem Vm {m} (h:rP m):(c8 m).flatten.length<1000000:=by
 have h1:∀ l ∈ c8 m,l.length<=100:=λl hl=>by
  rcases Yb.1 hl with rfl|hl
  .exact QY h.live.1
  rcases Yb.1 hl with rfl|hl
  .exact QY h.tok.2.2.2.2.1
  .obtain ⟨s,hs,rfl⟩:=Yi.1 hl
   exact QY (h.aa s hs).2.1
 have h2:=FN h1
 have h3:(c8 m).length=m.aa.length+2:=by unfold c8;simp
 have:=h.num
 omega
theorem VM {l} {i x} (h:Hf l) (hx:x<1024):Hf (l.set i x):=⟨by rw [YA0];exact h.1,λp hp=>by
 rcases List.mem_or_eq_of_mem_set hp with hp|rfl
 .exact h.2 p hp
 .unfold nn;omega⟩
theorem AQ {l at_} {cs} (h:Hf l) (ha:∀ p ∈ at_,p<1024):∀ i,Hf (eU l cs at_ i)
 | 0=>h
 | i+1=>by
  refine VM (AQ h ha i) ?_
  rw [YF]
  rcases hx:at_[i]? with _|x
  .simp
  .exact ha x (YS hx)
theorem aa1 {m} {n} {tk} {cs} (h:rP m) (hn:n<=1024) (hl:Hf (nO m tk)) (hb:ld tk.b) (ht:ld tk.t) (h1:nn tk.next) (h2:nn tk.all) (hlen:m.aa.length<900):rP (Dv m n tk cs):=by
 have hi:=AQ (cs:=cs) hl (KA (cs:=cs) (FV (m:=m) (cs:=cs) hn) cs.length) cs.length
 unfold Dv stM
 split
 .exact ⟨h.live,h.num,h.aa,hb,ht,h1,h2,hi⟩
 .exact ⟨hi,by rw [YC];show m.aa.length+1<1000;omega,λs hs=>(Yn.1 hs).elim (h.aa s) λe=>by simp_all,yM⟩
section
variable (pk:List UInt8->List (List UInt8)) (A:AD) (a:Nat) (m:MT) (o:zQ)
def zQ.E:Nat:=if o.e0≠0 then o.e0 else (sh pk A a o.m1 o.bw).2
def zQ.A1:AD:=if o.e0≠0 then A else (sh pk A a o.m1 o.bw).1
def zQ.M:MT:=if o.e0≠0 then m else Ur pk A a m o.m1 o.bw
def zQ.L:Bool:=if o.e0≠0 then false else chL pk A a o.m1 o.bw
end
def TE (m:MT) (n:Nat) (tk:Tk) (cs:List Wr):zQ:=⟨if Dd m tk≠0 then Dd m tk else if nN m n cs then 7 else 0,Dv m n tk cs,Ow m n cs⟩
section
variable {t:Nat->Option cP} {fuel:Nat} {H:Heap} {pk:List UInt8->List (List UInt8)} {unpk:List (List UInt8)->Option (List UInt8)}
variable {dp vp a n:Nat} {A:AD} {O:Nat->Prop} {m:MT} {vl vs vi:V} {c:CH} {us:List Wr}
def Uw (pk:List UInt8->List (List UInt8)) (t:Nat->Option cP) (fuel dd:Nat) (H:Heap) (dp vp a:Nat) (A:AD) (O:Nat->Prop) (m:MT) (vl vs vi:V) (o:zQ) (f:V) (args:List V):Prop:=
 ∃ H' O',(∀ (d:Nat) (k:K),aj (aN (aP Tryz.prog) t fuel (d+dd)) f args H k=k (.int 3 (o.E pk A a)) H')/\um H H' dp vp O O' m vl vs vi (o.A1 pk A a) (o.M pk A a m) (o.L pk A a)
theorem agU (c):tx (hU c 32)=dT c:=by rfl
theorem TL (T:aA t) (hc:aY t) (F:cD pk unpk) (hp:t 102=some (.nat (gI pk))) (S:VP H dp vp a n A O m vl vs vi) (I:iX m 8 A.len) (h8:m.live.length=8) {tk} {cs} {y vx} (Z:MM m tk cs) (hb:ld tk.b) (hy:y.one=true) (hX:Row H (bQ O vp) vx 2 cs.length (bC cs)) (hn:cs.length<1000) (hl:gV (nO m tk) 8 A.len) (hlen:m.aa.length<900) (hfu:1000000<fuel):
 Uw pk t fuel 9 H dp vp a A O m vl vs vi (TE m A.len tk cs) (.func 164 []) [.ptr vp 0,.agg (bq tk y),vx]:=by
 have h1:=Z.next
 have h2:=Z.all
 have hi:Hf (nO m tk):=⟨by rw [hl.len];omega,λp hp=>by have:=hl.pl p hp;have:=S.hi;unfold nn;omega⟩
 obtain ⟨H',O',z,hd⟩:=K2 T hc F hp S Z hb hy hX hn (λl hl a ha h0=>(I.pl l hl a ha).resolve_left h0) (Vm S.ok) (by rw [hl.len,h8]) (aa1 S.ok S.hi hi hb Z.gt (by unfold nn;omega) (by unfold nn;omega) hlen) hfu
 refine ⟨H',O',λd k=>?_,?_⟩
 .rw [z]
  unfold zQ.E TE sgE
  by_cases h1:Dd m tk=0
  .simp_all
  simp_all
 .unfold zQ.A1 zQ.M zQ.L TE
  unfold Ik at hd
  by_cases h1:Dd m tk=0
  .simp_all
  simp_all
end
end Go.Ev
end
section
namespace Go.Ev
open Go.Proofs
def PQ (vp p:Nat) (O:Nat->Prop) (v:V):Nat->Prop:=λb=>CQ p v b\/bQ O vp b
structure PD (H:Heap) (X:Nat->Prop) (dp vp p:Nat) (A:AD) (O:Nat->Prop) (m:MT) (vl vs vi:V) (lost:Bool) (c:CH) (v:V):Prop where
 fC:cN H dp A O
 get:H.get vp = .cells (vc m vl vs vi dp lost)
 vn:vp<H.n
 vo:¬ O vp
 sI:ku H (λb=>(X b\/CQ p v b)\/bQ O vp b) m vl vs vi
 ch:jK H p c v
 U8:∀ b,CQ p v b->¬ bQ O vp b
 xn:∀ b,X b->b<H.n
 xc:∀ b,X b->¬ CQ p v b
 xo:∀ b,X b->¬ bQ O vp b
section
variable {H H':Heap} {X:Nat->Prop} {dp vp p a n:Nat} {A A':AD} {O O':Nat->Prop} {m m':MT} {vl vs vi:V} {lost:Bool} {c c':CH} {v v':V} {us:List Wr} {pk:List UInt8->List (List UInt8)}
theorem PD.vpo (P:PD H X dp vp p A O m vl vs vi false c v) (I:VI pk A a n us m c'):VP H dp vp a n A O m vl vs vi:=
 ⟨P.fC,I.jd.off,I.jd.HB.can,I.lo,I.hi,P.get,P.vn,P.vo,P.sI.jX λb _ h=>YE h,I.Kl⟩
theorem PD.wlt (P:PD H X dp vp p A O m vl vs vi lost c v):∀ b,bQ O vp b->b<H.n:=λb h=>h.elim (P.fC.lt b) λh=>by rw [h];exact P.vn
theorem PD.lt (P:PD H X dp vp p A O m vl vs vi lost c v):∀ b,PQ vp p O v b->b<H.n:=λb h=>h.elim (P.ch.lt b) (P.wlt b)
theorem PD.cG {Q Q':Nat->Prop} (P:PD H X dp vp p A O m vl vs vi lost c v) (s:Step H Q H' Q') (hq:∀ b,Q b->¬ PQ vp p O v b) (hm:ku H' (λb=>(X b\/CQ p v b)\/bQ O vp b) m vl vs vi):PD H' X dp vp p A O m vl vs vi lost c v:=
 ⟨(P.fC.cG s λb hb h=>hq b h (YE (YG hb))).1,(s.same vp P.vn λh=>hq vp h (YE (YE rfl))).1.trans P.get,YD P.vn s.n,P.vo,hm,(P.ch.cG s λb hb h=>hq b h (YG hb)).1,P.U8,λb hb=>YD (P.xn b hb) s.n,P.xc,P.xo⟩
theorem PD.fresh (P:PD H X dp vp p A O m vl vs vi lost c v) (f:af H H'):PD H' X dp vp p A O m vl vs vi lost c v:=
 P.cG (f.step (O:=λ_=>False)) (λb h=>h.elim) (P.sI.fresh f)
theorem PD.less {Y:Nat->Prop} (P:PD H X dp vp p A O m vl vs vi lost c v) (h:∀ b,Y b->X b):PD H Y dp vp p A O m vl vs vi lost c v:=
 ⟨P.fC,P.get,P.vn,P.vo,P.sI.jX λb _ hb=>hb.imp_left λhb=>hb.imp_left (h b),P.ch,P.U8,λb hb=>P.xn b (h b hb),λb hb=>P.xc b (h b hb),λb hb=>P.xo b (h b hb)⟩
theorem PD.vop (P:PD H X dp vp p A O m vl vs vi false c v) (h:um H H' dp vp O O' m vl vs vi A' m' lost):∃ vl' vs' vi',PD H' X dp vp p A' O' m' vl' vs' vi' lost c v/\Step H (PQ vp p O v) H' (PQ vp p O' v):=by
 obtain ⟨s,D,ho,hn,vl',vs',vi',hg,-,hX⟩:=h
 have hd':=(P.ch.cG s P.U8).2
 exact ⟨vl',vs',vi',⟨D,hg,hn,ho,hX (λb=>X b\/CQ p v b) (λb hb=>hb.elim (P.xn b) (P.ch.lt b)) P.sI,(P.ch.cG s P.U8).1,hd',λb hb=>YD (P.xn b hb) s.n,P.xc,λb hb=>(s.same b (P.xn b hb) (P.xo b hb)).2⟩,s.or⟩
end
end Go.Ev
end

