/- VL: a part of the evaluator,of its logic,or of the laws' walk in it. -/
import Derived.Test.YtnndgkcpacpleaaGreatDoorVC
open List renaming getElem?_eq_getElem → YA,length_append → YC,getD_eq_getElem?_getD → YF,length_cons → YH,nil_append → YK,cons_append → YL,append_nil → YR,mem_singleton → YU,getElem_mem → YW,mem_cons → Yb,getElem?_append_right → Ym,drop_succ_cons → Yv,append_assoc → WA,take_succ_cons → WD,drop_zero → WH,length_take → WI,take_zero → WK,length_drop → WM,take_add_one → Ww,drop_drop → QA,take_append_drop → QN
open Nat renaming le_refl → YB,lt_of_lt_of_le → YD,zero_le → Yf,zero_add → WJ,zero_mul → Wp,lt_irrefl → QE,sub_self → QR,add_sub_cancel → YA4,lt_succ_self → YC1,le_of_eq → YO0
open Or renaming inr → YE,inl → YG
open Bool renaming false_eq_true → YT
open Eq renaming trans → YY
open Option renaming getD_some → Yl
set_option linter.unusedVariables false
set_option linter.unusedSimpArgs false
set_option linter.unusedSectionVars false
set_option maxHeartbeats 8000000
open Nat renaming reduceAdd→ZA,reduceSub→ZB,reduceMul→ZC,reduceEqDiff→ZD,reduceLT→ZE,reduceDiv→ZF,reduceMod→ZG,reduceLeDiff→ZH
section
namespace Go.Ev
variable {cp:RC->ah} {t:Nat->Option cP} {fuel:Nat} {H:Heap} {pk:List UInt8->List (List UInt8)} {unpk:List (List UInt8)->Option (List UInt8)}
end Go.Ev
end
section
namespace Go.Ev
open Go.Proofs
def okV (x:Tx):Prop:=x.1=32/\vk x
section
variable {pk:List UInt8->List (List UInt8)} {unpk:List (List UInt8)->Option (List UInt8)} {A:AD} {a n nb:Nat} {us:List Wr} {m:MT}
end
section
variable {t:Nat->Option cP} {fuel:Nat} {H:Heap} {pk:List UInt8->List (List UInt8)} {unpk:List (List UInt8)->Option (List UInt8)}
variable {dp vp a n nb:Nat} {A:AD} {O:Nat->Prop} {m:MT} {vl vs vi:V} {us:List Wr}
end
end Go.Ev
end
section
namespace Go.Ev
open Go.Proofs
theorem sd {id half a b:Nat} {f:Nat->R} (ha:a<half) (hb:b<half) (h0:b≠0):kE id (.rem half) a b f=f (a%b):=by
 show aF (Nat.blt a half) (aF (Nat.blt b half) (aF (Nat.beq b 0) (no 0) (au (Nat.mod a b) f)) (no 0)) _=_
 rw [bB,if_pos (by rw [Nat.blt_eq];exact ha),bB,if_pos (by rw [Nat.blt_eq];exact hb),bB,if_neg (by rw [om];exact h0),aw]
 rfl
end Go.Ev
end
section
namespace Go.Ev
open Go.Proofs
variable {cp:RC->ah} {t:Nat->Option cP} {fuel:Nat} {H:Heap}
end Go.Ev
end
section
namespace Go.Ev
open Go.Proofs
variable {cp:RC->ah} {t:Nat->Option cP} {fuel:Nat} {H:Heap}
theorem A0 {k:K} {e:Env} {H:Heap} {s s1 s2 s3:Slot} {n n':Nat}:mL [.tmp s,.gD s1 n,.gD s2 n',.tmp s3] k e H=dQ 0 (ae s1 e) λb o=>ec 0 H b o n λl=>dQ 0 (ae s2 e) λb' o'=>ec 0 H b' o' n' λl'=>k (.cH [ae s e,.agg l,.agg l',ae s3 e]) H:=by
 show ik s e (λv=>ik s1 e λv1=>dQ 0 v1 λb o=>ec 0 H b o n λl=>ik s2 e λv2=>dQ 0 v2 λb' o'=>ec 0 H b' o' n' λl'=>ik s3 e λv3=>k (.cH [v,.agg l,.agg l',v3]) H)=_
 simp only [dY]
theorem zU (T:aA t) {dp vp a n:Nat} {A:AD} {O:Nat->Prop} {m:MT} {vl vs vi:V} (S:VP H dp vp a n A O m vl vs vi) (hfu:1000<fuel):
 ∃ H',(∀ (d:Nat) (k:K),aj (aN cp t fuel (d+3)) (.func 50 []) [.ptr vp 0] H k=k (.cH [.int 3 m.aa.length,.agg (aS (cR m).g),.agg (aS m.tok.t),.int 3 m.tok.next]) H')/\af H H':=by
 have hn0:=S.ok.num
 have w0:=S.fC.wf
 obtain ⟨G1,hG1,f1,p1,n1⟩:=Heap.aO w0 (.cells [.int 7 0,.int 7 0])
 have w1:=f1.wf
 obtain ⟨G2,hG2,f2,p2,n2⟩:=Heap.aO w1 (.cells [.int 7 0,.int 7 0])
 have f12:=f1.trans f2
 have S2:=S.fresh f12
 obtain ⟨G3,vL,z3o,f3,o3⟩:=rL (cp:=cp) (fuel:=fuel) T S2 hfu
 have z3:=λ{d:Nat} {k:K}=>z3o (d+1) k
 clear z3o
 obtain ⟨G4,x,z4o,f4,o4⟩:=uX (cp:=cp) (fuel:=fuel) T (S2.fresh f3)
 have z4:=λ{d:Nat} {k:K}=>z4o d k
 clear z4o
 have w4:=f4.wf
 obtain ⟨G5,hG5,f5,p5,n5⟩:=Heap.aO w4 (.cells [.int 7 0,.int 7 0,.int 7 0,.int 7 0,.int 3 0,.int 3 0,.az])
 have w5:=f5.wf
 have b5:G4.n<G5.n:=by omega
 obtain ⟨G6,hG6,f6,p6,n6,w6,k6⟩:=Heap.aU (b:=G4.n) f5 (YB _) b5 (.cells (bq m.tok x))
 have m3:=f3.n
 have m4:=f4.n
 have q1:G6.get H.n = .cells [.int 7 0,.int 7 0]:=(f6.same _ (by omega)).trans ((f4.same _ (by omega)).trans ((f3.same _ (by omega)).trans ((f2.same _ (by omega)).trans p1)))
 have q2:G6.get G1.n = .cells [.int 7 0,.int 7 0]:=(f6.same _ (by omega)).trans ((f4.same _ (by omega)).trans ((f3.same _ (by omega)).trans p2))
 have f06:af H G6:=f12.trans (f3.trans (f4.trans f6))
 have jL:=λ{id:Nat} {k:R}=>aI o3.one (id:=id) (k:=k)
 have jx:=λ{id:Nat} {k:R}=>aI o4.one (id:=id) (k:=k)
 have sL:=λ{id:Nat} {f:Nat->R}=>o3.sn (id:=id) (f:=f)
 have c9:m.aa.length<9223372036854775808:=by omega
 have b6:H.n<G6.n:=by omega
 have oL:=(o3.fresh (f4.trans f6)).toRow (O:=λ_=>False) λb h=>h.elim
 obtain ⟨G7,f7,p7,n7,w7,k7,pre⟩:∃ G7,af H G7/\G7.get H.n = .cells (aS (cR m).g)/\G7.n=G6.n/\G7.wf/\(∀ j,j≠H.n->G7.get j=G6.get j)/\((m.aa.length=0/\G7=G6)\/∃ bL oL cL zL,vL = .slice bL oL m.aa.length cL zL/\0<m.aa.length/\G6.put H.n (.cells (aS (cR m).g))=G7/\∀ {id:Nat} {k:List V->R},tZ id (G6.get bL) (oL+(m.aa.length-1)*2) 2 k=k (aS (cR m).g)):=by
  rcases hl:m.aa.length with _|q
  .refine ⟨G6,f06,?_,rfl,w6,λ_ _=>rfl,YG ⟨rfl,rfl⟩⟩
   rw [q1,ke hl]
   rfl
  .have hqs:m.aa[q]? = some m.aa[q]:=YA (by omega)
   have hgi:(m.aa.map (·.g))[q]? = some m.aa[q].g:=by rw [List.getElem?_map,hqs];rfl
   obtain ⟨G7,hG7,f7,p7,n7,w7,k7⟩:=Heap.aU (b:=H.n) f06 (YB _) b6 (.cells (aS (cR m).g))
   obtain ⟨bL,oL',cL,zL,hvL,hbL,-,hrL⟩:=oL.open (i:=q) (by omega)
   rw [po hgi]at hrL
   refine ⟨G7,f7,p7,n7,w7,k7,YE ⟨bL,oL',cL,zL,by rw [<- hl];exact hvL,by omega,hG7,λ{id k}=>?_⟩⟩
   rw [j9 hqs hl]
   exact (hrL (G:=G6) rfl).1
 have q7:G7.get G4.n = .cells (bq m.tok x):=(k7 _ (by omega)).trans p6
 have r7:G7.get G1.n = .cells [.int 7 0,.int 7 0]:=(k7 _ (by omega)).trans q2
 have b7:H.n<G7.n:=by omega
 obtain ⟨G8,hG8,f8,p8,n8,w8,k8⟩:=Heap.aU (b:=H.n) f7 (YB _) b7 (.cells (aS (cR m).g))
 have b8:G1.n<G8.n:=by omega
 have r8:G8.get G1.n = .cells [.int 7 0,.int 7 0]:=(k8 _ (by omega)).trans r7
 obtain ⟨G9,hG9,f9,p9,n9,w9,k9⟩:=Heap.aU (b:=G1.n) f8 (by omega) b8 (.cells (aS m.tok.t))
 have p9':G9.get H.n = .cells (aS (cR m).g):=(k9 _ (by omega)).trans p8
 have wm7:G7.mark.wf:=by rw [Heap.dm];exact w7
 generalize hlg:(cR m).g=lg at *
 simp only [aS,bq]at p6 hG6 p7 q7 hG8 p8 hG9 p9 p9' pre z4
 refine ⟨G9,λd k=>?_,f9⟩
 rcases pre with ⟨h0,rfl⟩|⟨bL,oL',cL,zL,rfl,h0,hG7,hrd⟩
 .have e0:¬ 0<m.aa.length:=by omega
  rw [aJ T.k25 rfl rfl]
  simp only [go_sem,ZE,c25,w0,hG1,w1,hG2,↓z3,↓z4,w4,hG5,p5,b5,w5,↓jx,hG6,↓sL,h0,pq,dG,FH,p7]
  refine (kF (b:=G4.n) (o:=2) (v:=.agg [.int 7 m.tok.t.1,.int 7 m.tok.t.2]) rfl (by omega) (λk=>by simp only [go_sem,q7]) (λk=>dL)).trans ?_
  simp only [go_sem,dG]
  refine (kF (b:=G4.n) (o:=4) (v:=.int 3 m.tok.next) rfl (by omega) (λk=>by simp only [go_sem,q7]) (λk=>dL)).trans ?_
  simp only [go_sem,dG]
  refine (sB (b:=H.n) (o:=0) (v:=.cH []) (H':=G8) rfl (λk=>by simp only [go_sem,p7,w7,b7,hG8]) (λk=>by rw [eo,if_neg (by decide),if_neg (by omega),eo,if_neg (by decide),if_neg (by omega),dL])).trans ?_
  refine (sB (b:=G1.n) (o:=0) (v:=.cH []) (H':=G9) rfl (λk=>by simp only [go_sem,r8,w8,b8,hG9]) (λk=>by rw [eo,if_neg (by decide),if_neg (by omega),eo,if_pos (by decide),dL])).trans ?_
  simp only [go_sem,dG,kG,↓A0,p9',p9,aS]
 .have a1:(m.aa.length+18446744073709551615)%18446744073709551616=m.aa.length-1:=by omega
  have a2:m.aa.length-1<9223372036854775808:=by omega
  have a3:m.aa.length-1<m.aa.length:=by omega
  have a4:nn (m.aa.length-1):=by unfold nn;omega
  rw [aJ T.k25 rfl rfl]
  simp only [go_sem,ZE,c25,w0,hG1,w1,hG2,↓z3,↓z4,w4,hG5,p5,b5,w5,↓jx,hG6,↓sL,c9,h0,a1,a2,a3,↓hrd,q1,w6,b6,hG7,pq,dG,FH,p7]
  refine (kF (b:=G4.n) (o:=2) (v:=.agg [.int 7 m.tok.t.1,.int 7 m.tok.t.2]) rfl (by omega) (λk=>by simp only [go_sem,q7]) (λk=>dL)).trans ?_
  simp only [go_sem,dG]
  refine (kF (b:=G4.n) (o:=4) (v:=.int 3 m.tok.next) rfl (by omega) (λk=>by simp only [go_sem,q7]) (λk=>dL)).trans ?_
  simp only [go_sem,dG]
  refine (sB (b:=H.n) (o:=0) (v:=.cH []) (H':=G8) rfl (λk=>by simp only [go_sem,p7,w7,b7,hG8]) (λk=>by rw [eo,if_neg (by decide),if_neg (by omega),eo,if_neg (by decide),if_neg (by omega),dL])).trans ?_
  refine (sB (b:=G1.n) (o:=0) (v:=.cH []) (H':=G9) rfl (λk=>by simp only [go_sem,r8,w8,b8,hG9]) (λk=>by rw [eo,if_neg (by decide),if_neg (by omega),eo,if_pos (by decide),dL])).trans ?_
  simp only [go_sem,dG,kG,↓A0,p9',p9,aS]
end Go.Ev
end
section
namespace Go.Ev
open Go.Proofs
variable {cp:RC->ah} {t:Nat->Option cP} {fuel:Nat} {H:Heap}
end Go.Ev
end
section
namespace Go.Ev
open Go.Proofs
variable {cp:RC->ah} {t:Nat->Option cP} {fuel:Nat} {H:Heap}
end Go.Ev
end
section
namespace Go.Ev
open Go.Proofs
theorem Y3 {x:Nat}:dA (.gt 9223372036854775808 18446744073709551616) x 0 = !dA (.le 9223372036854775808 18446744073709551616) x 0:=by
 have h1:(dA (.gt 9223372036854775808 18446744073709551616) x 0=true) = ¬ (dA (.le 9223372036854775808 18446744073709551616) x 0=true):=by
  simp [dA]
 rcases hx:dA (.le 9223372036854775808 18446744073709551616) x 0 with _|_
 .rw [hx]at h1;simpa using h1
 .rw [hx]at h1;simpa using h1
variable {cp:RC->ah} {t:Nat->Option cP} {fuel:Nat} {H:Heap}
theorem uQ (T:aA t) {a b:Gd} (hw:H.wf) (ha:ld a) (hb:ld b) (hfu:1000<fuel):
 ∃ H',(∀ (d:Nat) (k:K),aj (aN cp t fuel (d+3)) (.func 298 []) [.agg (aS a),.agg (aS b)] H k=k (.bool (ef a b)) H')/\af H H':=by
 obtain ⟨G1,hG1,f1,p1,n1⟩:=Heap.aO hw (.cells (aS a))
 have w1:=f1.wf
 obtain ⟨G2,hG2,f2,p2,n2⟩:=Heap.aO w1 (.cells (aS b))
 have w2:=f2.wf
 have q1:G2.get H.n = .cells (aS a):=(f2.same _ (by omega)).trans p1
 have wm2:G2.mark.wf:=by rw [Heap.dm];exact w2
 obtain ⟨G4x,G4,z4o,hu4,hl4,f4⟩:=pG (cp:=cp) (fuel:=fuel) (G:=G2) (t:=t) (c:=2) (f:=.func 382 []) (args:=[.int 7 a.1,.int 7 b.1]) ⟨G2.mark,λd k=>mi (cp:=cp) (fuel:=fuel) (H:=G2.mark) T ha.1 hb.1 d k,af.refl wm2⟩
 have z4:=λ{d:Nat} {k:K}=>z4o d k
 clear z4o
 have p4:G4.get G1.n = .cells (aS b):=(f4.same _ (by omega)).trans p2
 have q4:G4.get H.n = .cells (aS a):=(f4.same _ (by omega)).trans q1
 have w4:=f4.wf
 have z5:=λ{d:Nat} {k:K}=>mi (cp:=cp) (fuel:=fuel) (H:=G4) T ha.2 hb.2 d k
 obtain ⟨G5,hG5,f5,p5,n5⟩:=Heap.aO w4 (.cells [.int 3 (jc a.1 b.1),.int 3 (jc a.2 b.2)])
 have z6:=λ{d:Nat} {k:K}=>CA (cp:=cp) (fuel:=fuel) (H:=G5) (c:=3) (s:=0) T p5 (by omega) d k
 have e3:=vT a b
 unfold SX at e3
 rw [qm]at e3
 simp only [aS]at hG1 hG2 p2 q1 p4 q4
 refine ⟨G5,λd k=>?_,f1.trans (f2.trans (f4.trans f5))⟩
 rw [aJ T.adZ rfl rfl]
 rcases hab:ef a b with _|_
 .rw [hab]at e3
  have e4:dA (.gt 9223372036854775808 18446744073709551616) (if jc a.1 b.1=0 then jc a.2 b.2 else jc a.1 b.1) 0=false:=by
   have h':=cast e3.symm (λh=>Bool.noConfusion h)
   rw [Y3,h'];rfl
  simp only [go_sem,ZY,aS,hw,hG1,w1,hG2,q1,p2,↓z4,hu4,hl4,p4,q4,↓z5,w4,hG5,↓z6,e4]
 .rw [hab]at e3
  have e4:dA (.gt 9223372036854775808 18446744073709551616) (if jc a.1 b.1=0 then jc a.2 b.2 else jc a.1 b.1) 0=true:=by
   have h':=Bool.eq_false_iff.2 λh=>(cast e3 h) rfl
   rw [Y3,h'];rfl
  simp only [go_sem,ZY,aS,hw,hG1,w1,hG2,q1,p2,↓z4,hu4,hl4,p4,q4,↓z5,w4,hG5,↓z6,e4]
theorem Bb (T:aA t) {O:Nat->Prop} {vx:V} {cs:List Wr} {nb:Nat} (hw:H.wf) (hX:Row H O vx 2 cs.length (bC cs)) (hn:cs.length<1000) (hch:qC cs nb) (h8:nb<=8) (hfu:1000<fuel):
 ∃ H',(∀ (d:Nat) (k:K),aj (aN cp t fuel (d+1)) (.func 300 []) [vx] H k=k (.bool true) H')/\af H H':=by
 have nl:nn cs.length:=by unfold nn;omega
 have sn:=λ{id:Nat} {f:Nat->R}=>hX.sn (id:=id) (f:=f)
 have jx:=λ{id:Nat} {k:R}=>aI hX.one (id:=id) (k:=k)
 have c9:cs.length<9223372036854775808:=by omega
 obtain ⟨_,G',f',z⟩:=bA (c:=BG) (fuel:=fuel) (ph:=λd=>aN cp t fuel d) (σ:=Unit) (n:=cs.length)
  (I:=λi _ G=>af H G)
  (S:=λi _ e=>ae s003 e = .int 3 (mJ cs i)/\ae s006 e=vx/\ae s007 e = .int 3 cs.length/\ae s010 e = .int 3 i) (λi _ G hil f=>by
   have hsi:cs[i]? = some cs[i]:=YA hil
   obtain ⟨c1,c2,c3⟩:=hch.lt _ (YW hil)
   have hup:(dA (.le 9223372036854775808 18446744073709551616) cs[i].1 (mJ cs i)=true)=False:=by
    rw [ED]
    cases i with
    | zero=>simp only [mJ,eq_iff_iff,iff_false];omega
    | succ j=>
     have:=hch.up j hil
     simp only [YF,hsi,Yl]at this
     simp only [mJ,YF,eq_iff_iff,iff_false]
     omega
   have hpr:mJ cs (i+1)=cs[i].1:=by simp only [mJ,YF,hsi,Yl]
   have hge:(dA (.ge 9223372036854775808 18446744073709551616) cs[i].1 8=true)=False:=by
    rw [LY]
    simp only [eq_iff_iff,iff_false]
    omega
   obtain ⟨b,o,cc,z,rfl,hbn,-,hrd⟩:=hX.open hil
   have hrd1:=λ{id:Nat} {k:List V->R}=>(hrd (f.same _ hbn)).1 (id:=id) (k:=k)
   rw [nu hsi]at hrd1
   generalize hcx:cs[i]=x at c1 c2 c3 hup hpr hrd1 hge
   obtain ⟨q,u,w⟩:=x
   simp only [sv]at c1 c2 hup hpr hrd1 hge
   subst c2
   obtain ⟨G1,hG1,f1,p1,n1⟩:=Heap.aO f.wf (.cells [.int 3 0,.str 0 0])
   have b1:G.n<G1.n:=by omega
   obtain ⟨G2,hG2,f2,p2,n2,w2,k2⟩:=Heap.aU (b:=G.n) f1 (YB _) b1 (.cells [.int 3 q,.str 32 w])
   have a1:nn i:=by unfold nn;omega
   have a2:i<9223372036854775808:=by omega
   have a3:(i+1)%18446744073709551616=i+1:=by omega
   have wf:=f.wf
   have w1:=f1.wf
   refine ⟨(),G2,f.trans f2,λd kx r e x ⟨q3,q6,q7,q10⟩ hk=>?_⟩
   rw [ak]
   simp only [go_sem,ZE,BG,q3,q6,q7,q10,hil,a1,a2,a3,nl,wf,hG1,p1,b1,w1,↓hrd1,hG2,p2,hup,hge]
   exact hk _ (by simp only [go_sem,q6,q7,hpr,and_self])) cs.length 0 () H (by omega) (af.refl hw)
 refine ⟨G',λd k=>?_,f'⟩
 rw [aJ T.ad0 rfl rfl]
 simp only [go_sem,acs,↓sn,c9]
 refine z d _ fuel _ _ (by omega) ⟨?_,?_,?_,?_⟩ λr e' ⟨q3,q6,q7,q10⟩=>?_
 .simp only [go_sem,mJ]
 .rfl
 .rfl
 .rfl
 rw [ak]
 simp only [go_sem,BG,q7,q10,nl,QE]
end Go.Ev
end
section
namespace Go.Ev
open Go.Proofs
def aT (base target:Gd) (from' all:Nat) (v:V):List V:=[.int 7 base.1,.int 7 base.2,.int 7 target.1,.int 7 target.2,.int 3 from',.int 3 all,v]
def xa (ab:Bool) (n from':Nat):Nat:=if ab=false\/n-1<from' then 2 else 0
variable {cp:RC->ah} {t:Nat->Option cP} {fuel:Nat} {H:Heap}
theorem agb {n:Nat} (hn:n<1000):sJ true 9223372036854775808 18446744073709551616 0 ((n+18446744073709551615)%18446744073709551616)=n-1:=by
 rcases n with _|n
 .rfl
 .have e:(n+1+18446744073709551615)%18446744073709551616=n:=by omega
  rw [e,Ss (by unfold nn;omega) (by unfold nn;omega)]
  omega
theorem Q9 (T:aA t) {H0:Heap} {vx:V} {cs:List Wr} {nb from':Nat} {base target:Gd} (hw:H.wf) (hX:Own H0 H vx 2 cs.length (bC cs)) (hn:cs.length<1000) (hch:qC cs nb) (h8:nb<=8) (hb:ld base) (ht:ld target) (hf:nn from') (hfu:1000<fuel):
 ∃ H' v',(∀ (d:Nat) (k:K),aj (aN cp t fuel (d+4)) (.func 176 []) [.agg (aS base),.agg (aS target),vx,.int 3 from'] H k=k (.cH [.agg (if xa (ef target base) cs.length from'=0 then aT base target from' cs.length v' else aT (0,0) (0,0) 0 0 .az),.int 3 (xa (ef target base) cs.length from')]) H')/\af H H'/\(xa (ef target base) cs.length from'=0->Own H H' v' 2 (min cs.length (from'+2)-from') (((bC cs).drop (from'*2)).take ((min cs.length (from'+2)-from')*2))):=by
 obtain ⟨G1,hG1,f1,p1,n1⟩:=Heap.aO hw (.cells (aS base))
 have w1:=f1.wf
 obtain ⟨G2,hG2,f2,p2,n2⟩:=Heap.aO w1 (.cells (aS target))
 have w2:=f2.wf
 obtain ⟨G3,hG3,f3,p3,n3⟩:=Heap.aO w2 (.cells (aT (0,0) (0,0) 0 0 .az))
 have w3:=f3.wf
 have f03:=f1.trans (f2.trans f3)
 have q1:G3.get H.n = .cells (aS base):=(f3.same _ (by omega)).trans ((f2.same _ (by omega)).trans p1)
 have q2:G3.get G1.n = .cells (aS target):=(f3.same _ (by omega)).trans p2
 obtain ⟨G4,z4o,f4⟩:=uQ (cp:=cp) (fuel:=fuel) T w3 ht hb hfu
 have z4:=λ{d:Nat} {k:K}=>z4o d k
 clear z4o
 have hXr:=hX.toRow (O:=λ_=>False) λb h=>h.elim
 obtain ⟨G5,z5o,f5⟩:=Bb (cp:=cp) (fuel:=fuel) T f4.wf (hXr.fresh (f03.trans f4)) hn hch h8 hfu
 have z5:=λ{d:Nat} {k:K}=>z5o (d+2) k
 clear z5o
 have f35:=f4.trans f5
 have m4:=f4.n
 have m5:=f5.n
 have sn:=λ{id:Nat} {f:Nat->R}=>hX.sn (id:=id) (f:=f)
 have jx:=λ{id:Nat} {k:R}=>aI hX.one (id:=id) (k:=k)
 have c9:cs.length<9223372036854775808:=by omega
 have hmx:=agb hn
 have e0:∀ {x:Nat},(dA (.lt 9223372036854775808 18446744073709551616) from' 0=true)=False:=λ{x}=>by rw [LZ];simp only [eq_iff_iff,iff_false];unfold nn at hf;omega
 have e0:=e0 (x:=0)
 have nz:¬ from'<0:=by omega
 have nm:nn (cs.length-1):=by unfold nn;omega
 have n0:nn 0:=by unfold nn;omega
 have q4:∀ {j:Nat} {x:eK},j<G3.n->G3.get j=x->G4.get j=x:=λhj h=>(f4.same _ hj).trans h
 have q5:∀ {j:Nat} {x:eK},j<G3.n->G3.get j=x->G5.get j=x:=λhj h=>(f35.same _ hj).trans h
 simp only [aS]at hG1 hG2 q1 q2 z4
 simp only [aT]at hG3 p3
 rcases hab:ef target base with _|_
 .rw [hab]at z4
  have w4:=f4.wf
  have b4:G2.n<G4.n:=by omega
  have p4:=q4 (by omega) p3
  obtain ⟨G6,hG6,f6,p6,n6,w6,k6⟩:=Heap.aU (b:=G2.n) (f03.trans f4) (by omega) b4 (.cells (aT (0,0) (0,0) 0 0 .az))
  have hc:xa false cs.length from'=2:=by unfold xa;simp
  simp only [aT]at hG6 p6
  refine ⟨G6,.az,λd k=>?_,f6,λh=>by rw [hc]at h;cases h⟩
  rw [hc,if_neg (by omega)]
  simp only [aT,aS]
  rw [aJ T.k88 rfl rfl]
  simp only [go_sem,Z9,wS,hw,hG1,w1,hG2,w2,hG3,↓sn,c9]
  simp only [go_sem,wT,q1,q2,↓z4,p4,w4,b4,hG6,↓iV,p6]
 .rw [hab]at z4
  by_cases hfr:cs.length-1<from'
  .have w5:=f5.wf
   have b5:G2.n<G5.n:=by omega
   have p5:=q5 (by omega) p3
   obtain ⟨G6,hG6,f6,p6,n6,w6,k6⟩:=Heap.aU (b:=G2.n) (f03.trans f35) (by omega) b5 (.cells (aT (0,0) (0,0) 0 0 .az))
   have hc:xa true cs.length from'=2:=by unfold xa;rw [if_pos (YE hfr)]
   simp only [aT]at hG6 p6
   refine ⟨G6,.az,λd k=>?_,f6,λh=>by rw [hc]at h;cases h⟩
   rw [hc,if_neg (by omega)]
   simp only [aT,aS]
   rw [aJ T.k88 rfl rfl]
   simp only [go_sem,Z9,wS,hw,hG1,w1,hG2,w2,hG3,↓sn,c9]
   simp only [go_sem,wT,q1,q2,↓z4,↓z5,hf,nz,n0,nm,hmx,hfr,p5,w5,b5,hG6,↓iV,p6]
  .have hce:xa true cs.length from'=0:=by unfold xa;rw [if_neg (by simp;omega)]
   have w5:=f5.wf
   have r1:=q5 (by omega) q1
   have r2:=q5 (by omega) q2
   have r3:=q5 (by omega) p3
   have f05:=f03.trans f35
   obtain ⟨G6,hG6,f6,p6,n6⟩:=Heap.aO w5 (.cells (aT (0,0) (0,0) 0 0 .az))
   have w6:=f6.wf
   have b6:G5.n<G6.n:=by omega
   obtain ⟨G7,hG7,f7,p7,n7,w7,k7⟩:=Heap.aU (b:=G5.n) f6 (YB _) b6 (.cells (aT base target from' cs.length .az))
   have f07:=f05.trans f7
   have a1:(from'+2)%18446744073709551616=from'+2:=by omega
   have sD:sJ false 9223372036854775808 18446744073709551616 cs.length (from'+2)=min cs.length (from'+2):=J5 (by unfold nn;omega) (by unfold nn;omega)
   have hle:from'<=min cs.length (from'+2):=by omega
   have hff:from'<9223372036854775808:=by unfold nn at hf;omega
   have hmm:min cs.length (from'+2)<9223372036854775808:=by omega
   have hrl:(((bC cs).drop (from'*2)).take ((min cs.length (from'+2)-from')*2)).length=(min cs.length (from'+2)-from')*2:=by rw [WI,WM,hX.1];omega
   have hro:∀ y ∈ ((bC cs).drop (from'*2)).take ((min cs.length (from'+2)-from')*2),y.one=true:=λy hy=>hX.2.1 y (List.mem_of_mem_drop (List.mem_of_mem_take hy))
   have p3':G7.get G2.n = .cells (aT (0,0) (0,0) 0 0 .az):=(k7 _ (by omega)).trans ((f6.same _ (by omega)).trans r3)
   have tail:∀ sub:V,Row G7 (λ_=>False) sub 2 (min cs.length (from'+2)-from') (((bC cs).drop (from'*2)).take ((min cs.length (from'+2)-from')*2))->∃ v' G8 G9 Ga,(∀ {id:Nat} {ph:cU} {e:Env} {k:K} {a y:Arg},ay a e = .az->ay y e=sub->aL (.app false 2 a y) id ph e G7 k=k v' G8)/\G8.wf/\G5.n<G8.n/\G8.get G5.n = .cells (aT base target from' cs.length .az)/\G8.put G5.n (.cells (aT base target from' cs.length v'))=G9/\G9.wf/\G9.get G5.n = .cells (aT base target from' cs.length v')/\G9.get G2.n = .cells (aT (0,0) (0,0) 0 0 .az)/\G2.n<G9.n/\G9.put G2.n (.cells (aT base target from' cs.length v'))=Ga/\Ga.get G2.n = .cells (aT base target from' cs.length v')/\af H Ga/\v'.one=true/\Own H Ga v' 2 (min cs.length (from'+2)-from') (((bC cs).drop (from'*2)).take ((min cs.length (from'+2)-from')*2)):=λsub hs=>by
    obtain ⟨v',G8,hap,o8,f8,k8,n8,of8⟩:=Own.app (H:=G7) (G:=G7) (w:=.az) (x:=sub) (sz:=2) (m:=min cs.length (from'+2)-from') (af.refl w7) Own.nil (λ{id f}=>hs.nc λ_ _ _=>rfl) hrl hro (by omega)
    rw [WJ,YK]at o8
    have p8:G8.get G5.n = .cells (aT base target from' cs.length .az):=(f8.same _ (by omega)).trans p7
    have f08:=f07.trans f8
    have b8:G5.n<G8.n:=by omega
    obtain ⟨G9,hG9,f9,p9,n9,w9,k9⟩:=Heap.aU (b:=G5.n) f08 (by have:=f05.n;omega) b8 (.cells (aT base target from' cs.length v'))
    have p9':G9.get G2.n = .cells (aT (0,0) (0,0) 0 0 .az):=(k9 _ (by omega)).trans ((f8.same _ (by omega)).trans p3')
    have b9:G2.n<G9.n:=by omega
    obtain ⟨Ga,hGa,fa,pa,na,wa,ka⟩:=Heap.aU (b:=G2.n) f9 (by omega) b9 (.cells (aT base target from' cs.length v'))
    have oa:Own G7 Ga v' 2 (min cs.length (from'+2)-from') (((bC cs).drop (from'*2)).take ((min cs.length (from'+2)-from')*2)):=(o8.jk (v:=.slice G5.n 0 0 0 0) (by omega) (λq _ ho=>k9 q (ho _ _ _ _ _ rfl)) (λb o n c s e b' o' n' c' s' e'=>by cases e';have:=(o8.db e).1;omega)).jk (v:=.slice G2.n 0 0 0 0) (by omega) (λq _ ho=>ka q (ho _ _ _ _ _ rfl)) λb o n c s e b' o' n' c' s' e'=>by cases e';have:=(o8.db e).1;omega
    exact ⟨v',G8,G9,Ga,hap,f8.wf,b8,p8,hG9,w9,p9,p9',b9,hGa,pa,fa,o8.one,oa.sub f07.n⟩
   simp only [aT]at hG6 p6 hG7 p7
   obtain ⟨hl,hone,⟨rfl,hn0⟩|⟨b,c,z,rest,rfl,hg,hc3,hbH,hbn⟩⟩:=hX
   .have hf0:from'=0:=by omega
    subst hf0
    have hm0:min cs.length (0+2)=0:=by omega
    have hm3:min cs.length 2=0:=by omega
    rw [hm0]at tail sD hle hmm
    obtain ⟨v',G8,G9,Ga,hap,w8,b8,p8,hG9,w9,p9,p9',b9,hGa,pa,fa,ov,oF⟩:=tail .az ⟨by rw [hm0]at hrl;exact hrl,by rw [hm0]at hro;exact hro,YG ⟨YG rfl,rfl⟩⟩
    refine ⟨Ga,v',λd k=>?_,fa,λ_=>by rw [hm0];exact oF⟩
    rw [hce,if_pos rfl]
    simp only [aT]at p8 hG9 p9 p9' hGa pa
    simp only [aT,aS]
    have jv':=λ{id:Nat} {k:R}=>aI ov (id:=id) (k:=k)
    have wm7:G7.mark.wf:=by rw [Heap.dm];exact w7
    rw [aJ T.k88 rfl rfl]
    simp only [go_sem,Z9,wS,hw,hG1,w1,hG2,w2,hG3,↓sn,c9]
    simp only [go_sem,wT,q1,q2,↓z4,↓z5,hf,nz,nm,hmx,hfr]
    simp only [go_sem,Ew,r1,r2,w5,hG6,p6,b6,w6,hG7]
    simp only [go_sem,Ex,p7,a1,sD,hff,↓hap,p8,w8,b8,↓jv',hG9]
    simp only [go_sem,Ey,Ez,p9,p9',w9,b9,↓jv',hGa,↓iV,pa]
   .have hsub:∀ c' z',Row G7 (λ_=>False) (.slice b (from'*2) (min cs.length (from'+2)-from') c' z') 2 (min cs.length (from'+2)-from') (((bC cs).drop (from'*2)).take ((min cs.length (from'+2)-from')*2)):=λc' z'=>⟨hrl,hro,YE ⟨b,from'*2,c',z',bC cs ++ rest,rfl,by rw [f07.same _ hbn];exact YG hg,YD hbn f07.n,λh=>h,by rw [YC,hl];omega,by rw [List.drop_append_of_le_length (by rw [hl];omega),List.take_append_of_le_length (by rw [WM,hl];omega)]⟩⟩
    have hh:min cs.length (from'+2)<=cs.length:=by omega
    rcases hc3 with rfl|⟨rfl,rfl,rfl⟩
    .by_cases hcl:cs.length=from'
     .have hf0:from'=0:=by omega
      subst hf0
      have hcl':cs.length=0:=hcl
      have hm0:min cs.length (0+2)=0:=by omega
      have hm3:min cs.length 2=0:=by omega
      have hct:(cs.length=0)=True:=eq_true hcl'
      have hs:=hsub 1 0
      rw [Wp]at hs
      rw [hm0]at tail sD hle hmm hs
      rw [Wp]at tail
      obtain ⟨v',G8,G9,Ga,hap,w8,b8,p8,hG9,w9,p9,p9',b9,hGa,pa,fa,ov,oF⟩:=tail _ hs
      refine ⟨Ga,v',λd k=>?_,fa,λ_=>by rw [hm0];rw [Wp];exact oF⟩
      rw [hce,if_pos rfl]
      simp only [aT]at p8 hG9 p9 p9' hGa pa
      simp only [aT,aS]
      have jv':=λ{id:Nat} {k:R}=>aI ov (id:=id) (k:=k)
      have wm7:G7.mark.wf:=by rw [Heap.dm];exact w7
      rw [aJ T.k88 rfl rfl]
      simp only [go_sem,Z9,wS,hw,hG1,w1,hG2,w2,hG3,↓sn,c9]
      simp only [go_sem,wT,q1,q2,↓z4,↓z5,hf,nz,nm,hmx,hfr]
      simp only [go_sem,Ew,r1,r2,w5,hG6,p6,b6,w6,hG7]
      simp only [go_sem,Ex,p7,a1,sD,hle,hff,hct,Yf,YA4,WJ,↓hap,p8,w8,b8,↓jv',hG9]
      simp only [go_sem,Ey,Ez,p9,p9',w9,b9,↓jv',hGa,↓iV,pa]
     .obtain ⟨v',G8,G9,Ga,hap,w8,b8,p8,hG9,w9,p9,p9',b9,hGa,pa,fa,ov,oF⟩:=tail _ (hsub (cs.length-from'+1) 0)
      have hc1:¬ cs.length+1=0:=by omega
      have hc2:cs.length+1-1=cs.length:=by omega
      refine ⟨Ga,v',λd k=>?_,fa,λ_=>oF⟩
      rw [hce,if_pos rfl]
      simp only [aT]at p8 hG9 p9 p9' hGa pa
      simp only [aT,aS]
      have jv':=λ{id:Nat} {k:R}=>aI ov (id:=id) (k:=k)
      have wm7:G7.mark.wf:=by rw [Heap.dm];exact w7
      rw [aJ T.k88 rfl rfl]
      simp only [go_sem,Z9,wS,hw,hG1,w1,hG2,w2,hG3,↓sn,c9]
      simp only [go_sem,wT,q1,q2,↓z4,↓z5,hf,nz,n0,nm,hmx,hfr]
      simp only [go_sem,Ew,r1,r2,w5,hG6,p6,b6,w6,hG7]
      simp only [go_sem,Ex,p7,a1,sD,hle,hff,hmm,hh,hcl,YA4,WJ,↓hap,p8,w8,b8,↓jv',hG9]
      simp only [go_sem,Ey,Ez,p9,p9',w9,b9,↓jv',hGa,↓iV,pa]
    .obtain ⟨v',G8,G9,Ga,hap,w8,b8,p8,hG9,w9,p9,p9',b9,hGa,pa,fa,ov,oF⟩:=tail _ (hsub 0 2)
     refine ⟨Ga,v',λd k=>?_,fa,λ_=>oF⟩
     rw [hce,if_pos rfl]
     simp only [aT]at p8 hG9 p9 p9' hGa pa
     simp only [aT,aS]
     have jv':=λ{id:Nat} {k:R}=>aI ov (id:=id) (k:=k)
     have wm7:G7.mark.wf:=by rw [Heap.dm];exact w7
     rw [aJ T.k88 rfl rfl]
     simp only [go_sem,Z9,wS,hw,hG1,w1,hG2,w2,hG3,↓sn,c9]
     simp only [go_sem,wT,q1,q2,↓z4,↓z5,hf,nz,n0,nm,hmx,hfr]
     simp only [go_sem,Ew,r1,r2,w5,hG6,p6,b6,w6,hG7]
     simp only [go_sem,Ex,p7,a1,sD,hle,hff,hmm,hh,WJ,↓hap,p8,w8,b8,↓jv',hG9]
     simp only [go_sem,Ey,Ez,p9,p9',w9,b9,↓jv',hGa,↓iV,pa]
end Go.Ev
end
section
namespace Go.Ev
open Go.Proofs
structure OX (b tg:Gd) (fr al:Nat) (cs:List Wr):Prop where
 gb:ld b
 gt:ld tg
 up:ef tg b=true
 a8:al<=8
 le:fr<=al
 len:cs.length<=min 2 (al-fr)
 no:cs.length=0->al=0
 ch:qC cs 8
theorem qj {ph:cU} {l':List rQ} {k:Env->Heap->R}:∀ {l:List rQ} {e:Env} {H:Heap},fJ ph (l ++ l') e H k=fJ ph l e H λe H=>fJ ph l' e H k
 | [],e,H=>YY rfl rfl
 | ⟨id,d,none,c,op⟩:: l,e,H=>by
  rw [YL,rj,rj]
  congr
  funext v H'
  exact qj
 | ⟨id,d,some (s,b),c,op⟩:: l,e,H=>by
  rw [YL,rk,rk,qj]
  congr
  funext v H'
  exact qj
theorem dw (n:Nat) {ph:cU} {l:List rQ} {e:Env} {H:Heap} {k:Env->Heap->R}:fJ ph l e H k=fJ ph (l.take n) e H λe H=>fJ ph (l.drop n) e H k:=by rw [<- qj,QN]
def jn:ah->List rQ
 | .seq (.seq (.sO l) _) _=>l
 | _=>[]
def ah.fst:ah->ah
 | .seq a _=>a
 | c=>c
def ah.snd:ah->ah
 | .seq _ b=>b
 | c=>c
theorem kS0:fj = .seq (.seq (.sO (jn fj)) fj.fst.snd) fj.snd:=rfl
variable {cp:RC->ah} {t:Nat->Option cP} {fuel:Nat} {H:Heap}
theorem nP (T:aA t) {a b:Nat} (ha:nn a) (hb:nn b) (d:Nat) (k:K):aj (aN cp t fuel (d+1)) (.func 296 []) [.int 3 a,.int 3 b] H k=k (.bool (decide (a<=b))) H:=by
 rw [aJ T.adY rfl rfl]
 have n0:nn 0:=by unfold nn;omega
 have h1:=ha
 have h2:=hb
 by_cases h:a<=b<;>simp only [go_sem,acr,n0,h1,h2,h,Yf,decide_true,decide_false]
theorem HZ (T:aA t) {O:Nat->Prop} {b tg:Gd} {fr al:Nat} {vx:V} {cs:List Wr} (hw:H.wf) (hX:Row H O vx 2 cs.length (bC cs)) (h:OX b tg fr al cs) (hfu:1000<fuel):
 ∃ H',(∀ (d:Nat) (k:K),aj (aN cp t fuel (d+4)) (.func 152 []) [.agg (aT b tg fr al vx)] H k=k (.int 3 0) H')/\af H H':=by
 have a8:=h.a8
 have hfr:=h.le
 have hlen:=h.len
 obtain ⟨G1,hG1,f1,p1,n1⟩:=Heap.aO hw (.cells (aT b tg fr al vx))
 obtain ⟨G2,z2o,f2⟩:=uQ (cp:=cp) (fuel:=fuel) T f1.wf h.gt h.gb hfu
 have z2:=λ{d:Nat} {k:K}=>z2o d k
 have p2:=(f2.same _ (by omega)).trans p1
 obtain ⟨G3,z3o,f3⟩:=Bb (cp:=cp) (fuel:=fuel) T f2.wf ((hX.fresh f1).fresh f2) (by omega) h.ch (by omega) hfu
 have z3:=λ{d:Nat} {k:K}=>z3o d k
 have zw:=λ{d:Nat} {k:K} {a b:Nat} {G:Heap} (ha:nn a) (hb:nn b)=>nP (cp:=cp) (fuel:=fuel) (H:=G) T ha hb d k
 have sn:=λ{id:Nat} {f:Nat->R}=>hX.sn (id:=id) (f:=f)
 have jx:=λ{id:Nat} {k:R}=>aI hX.one (id:=id) (k:=k)
 have c1:cs.length<9223372036854775808:=by omega
 have na:nn al:=by unfold nn;omega
 have nf:nn fr:=by unfold nn;omega
 have n8:nn 8:=by unfold nn;omega
 have n0:nn 0:=by unfold nn;omega
 have nl:nn cs.length:=by unfold nn;omega
 have w1:=@zw
 have e1:(al+(18446744073709551616-fr))%18446744073709551616=al-fr:=by omega
 have e1':(al+18446744073709551616-fr)%18446744073709551616=al-fr:=by omega
 have mm:sJ false 9223372036854775808 18446744073709551616 2 (al-fr)=min 2 (al-fr):=J5 (by unfold nn;omega) (by unfold nn;omega)
 have nm:nn (min 2 (al-fr)):=by unfold nn;omega
 have e2:¬ min 2 (al-fr)<cs.length:=by omega
 rw [h.up]at z2
 simp only [aT]at hG1 p1 p2
 simp only [aS]at z2
 have p1':=p1
 refine ⟨G3,λd k=>?_,f1.trans (f2.trans f3)⟩
 rw [aJ T.k76 rfl rfl]
 have zA:=λ{k:K}=>nP (cp:=cp) (fuel:=fuel) (H:=G2) T na n8 (d+2) k
 have zB:=λ{k:K}=>nP (cp:=cp) (fuel:=fuel) (H:=G2) T nf na (d+2) k
 simp only [a8,hfr,decide_true]at zA zB
 simp only [go_sem,c76,X0,X1,aT,↓jx,hw,hG1,p1,↓sn,c1]
 rw [kS0,qi,qi,B9]
 generalize hC:fj.fst.snd=C
 generalize hT:fj.snd=T1
 rw [dw 14]
 generalize hD:(jn fj).drop 14=D
 simp only [jn,fj,WD,WK]
 simp only [go_sem,p1,↓z2,p2,↓zA]
 rw [<- hD,dw 9,QA]
 generalize hD':(jn fj).drop (14+9)=D'
 simp only [jn,fj,Yv,WH,WD,WK]
 simp only [go_sem,p2,↓zB]
 clear hD
 subst hD'
 simp only [ZA]
 generalize hD:(jn fj).drop 23=D
 rw [<- hD,dw 10,QA]
 generalize hD':(jn fj).drop (23+10)=D'
 simp only [jn,fj,Yv,WH,WD,WK]
 simp only [go_sem,p2,e1,mm,nm,nl,e2]
 clear hD
 subst hD'
 simp only [ZA]
 generalize hD:(jn fj).drop 33=D
 by_cases hz:cs.length=0
 .have h0a:¬ 0<al:=by have:=h.no hz;omega
  rw [<- hD,dw 9,QA]
  generalize hD':(jn fj).drop (33+9)=D'
  simp only [jn,fj,Yv,WH,WD,WK]
  simp only [go_sem,p2,na,n0,hz,h0a]
  clear hD
  subst hD'
  simp only [ZA]
  generalize hD:(jn fj).drop 42=D
  rw [<- hD]
  simp only [jn,fj,Yv,WH]
  simp only [go_sem,p2,↓z3]
  subst hC hT
  simp only [ah.fst,ah.snd,fj]
  simp only [go_sem,PZ,P0]
 .rw [<- hD,dw 9,QA]
  generalize hD':(jn fj).drop (33+9)=D'
  simp only [jn,fj,Yv,WH,WD,WK]
  simp only [go_sem,hz]
  clear hD
  subst hD'
  simp only [ZA]
  generalize hD:(jn fj).drop 42=D
  rw [<- hD]
  simp only [jn,fj,Yv,WH]
  simp only [go_sem,p2,↓z3]
  subst hC hT
  simp only [ah.fst,ah.snd,fj]
  simp only [go_sem,PZ,P0]
end Go.Ev
end
section
namespace Go.Ev
open Go.Proofs
theorem JX {tk:Tk} {last:Gd} {k:Nat} (h:qD tk last 8 k):tk.cF.length<=8:=by
 unfold qD at h
 split at h
 .rw [h.2.2.2];exact Yf _
 .exact YO0 h.2.2.2.2.2.len
theorem FM {k}:∀ {L:List (List Nat)},(∀ l ∈ L,l.length<=k)->L.flatten.length<=L.length*k
 | [],_=>Yf _
 | l :: L,h=>by
  have h1:=h l (List.mem_cons_self ..)
  have h2:=FM λx hx=>h x (List.mem_cons_of_mem _ hx)
  rw [List.flatten_cons,YC,YH,Nat.add_mul]
  omega
theorem Tm {m:MT} {n:Nat} (I:iX m 8 n) (hn:400<=n):20<=(cZ (fW m n)).length:=by
 have hsub:List.range' 193 (n-193) ⊆ cZ (fW m n) ++ (c8 m).flatten:=λi hi=>by
  rw [List.mem_range'_1]at hi
  by_cases hc:(nz (c8 m).flatten).count i=0
  .refine List.mem_append_left _ ?_
   unfold cZ
   rw [List.mem_filter,List.mem_range,decide_eq_true_eq]
   unfold fW
   rw [dF,oR (by omega),hc]
   refine ⟨by omega,?_⟩
   simp
   omega
  .refine List.mem_append_right _ ?_
   have:=Classical.byContradiction λh=>hc (List.count_eq_zero.2 h)
   exact (SM.1 this).1
 have hle:=List.Nodup.length_le_of_subset List.nodup_range' hsub
 have hfl:(c8 m).flatten.length<=(c8 m).length*8:=FM λl hl=>by
  unfold c8 at hl
  rcases Yb.1 hl with rfl|hl
  .exact YO0 I.live.len
  rcases Yb.1 hl with rfl|hl
  .exact JX I.tok
  .obtain ⟨s,hs,rfl⟩:=List.mem_map.1 hl
   exact YO0 (I.aa.mem hs).len
 have h3:(c8 m).length=m.aa.length+2:=by unfold c8;simp
 have:=I.num
 rw [YC,List.length_range']at hle
 omega
theorem yU {l:List Tx} {cs ds:List Wr}:∀ {i:Nat},i<=cs.length->dP l (cs ++ ds) i=dP l cs i
 | 0,_=>rfl
 | i+1,h=>by
  simp only [dP]
  rw [yU (by omega),YF,YF,List.getElem?_append_left (by omega)]
theorem yV {a b:List Tx} (hl:a.length=b.length):∀ {i:Nat},i<=b.length->dP a (gE a b i) (gE a b i).length=b.take i ++ a.drop i
 | 0,_=>by simp [gE,dP]
 | i+1,h=>by
  have ih:=yV hl (i:=i) (by omega)
  have hb:i<b.length:=by omega
  have ha:i<a.length:=by omega
  have e1:b.take (i+1)=b.take i ++ [b[i]]:=by rw [Ww,YA hb];rfl
  have e2:a.drop i=a[i]:: a.drop (i+1):=List.drop_eq_getElem_cons ha
  have ga:a.getD i t0=a[i]:=by rw [YF,YA ha];rfl
  have gb:b.getD i t0=b[i]:=by rw [YF,YA hb];rfl
  simp only [gE,ga,gb]
  by_cases he:a[i]=b[i]
  .rw [if_pos he,YR,ih,e1,e2,he,WA]
   rfl
  .rw [if_neg he,YC]
   simp only [YH,List.length_nil,dP]
   rw [yU (YB _),ih]
   have hg:(gE a b i ++ [(i,b[i])]).getD (gE a b i).length (0,(0,0))=(i,b[i]):=by
    rw [YF,Ym (YB _),QR];rfl
   rw [hg,e1,e2]
   simp only
   rw [List.set_append_right _ _ (by rw [WI];omega),WI,show i-min i b.length=0 by omega,List.set_cons_zero,WA]
   rfl
theorem Ug {a b:List Tx} (hl:a.length=b.length):dP a (L0 a b) (L0 a b).length=b:=by
 unfold L0
 rw [yV hl (YB _),List.take_length,<- hl,List.drop_length,YR]
theorem Bk {l:List Tx} {cs:List Wr} {i:Nat}:∀ {n:Nat},i+n<=cs.length->dP (dP l cs i) ((cs.drop i).take n) n=dP l cs (i+n)
 | 0,_=>rfl
 | n+1,h=>by
  have h1:(cs.drop i).take (n+1)=(cs.drop i).take n ++ [cs.getD (i+n) (0,(0,0))]:=by
   rw [Ww,List.getElem?_drop,YA (by omega),YF,YA (by omega)];rfl
  have hlen:((cs.drop i).take n).length=n:=by rw [WI,WM];omega
  rw [h1]
  simp only [dP]
  rw [yU (by omega),Bk (by omega)]
  have hg:((cs.drop i).take n ++ [cs.getD (i+n) (0,(0,0))]).getD n (0,(0,0))=cs.getD (i+n) (0,(0,0)):=by
   rw [YF,Ym (by omega),hlen,QR];rfl
  rw [hg]
  rfl
end Go.Ev
end
section
namespace Go.Ev
open Go.Proofs
variable {cp:RC->ah} {t:Nat->Option cP} {fuel:Nat} {H:Heap} {O:Nat->Prop}
theorem Ec (T:aA t) {B nb:Nat} {c:Wr} (hw:H.wf) (hB:B<H.n) (gB:H.get B = .cells [.int 3 nb]) (hn:nn nb) (hc:nn c.1):
 ∃ H',(∀ (d:Nat) (k:K),aj (aN cp t fuel (d+1)) (.func 146 [.ptr B 0]) [.agg [.int 3 c.1,.str c.2.1 c.2.2]] H k=k (.bool (decide (nb<=c.1))) H')/\af H H':=by
 obtain ⟨G1,hG1,f1,p1,n1⟩:=Heap.aO hw (.cells [.int 3 c.1,.str c.2.1 c.2.2])
 have gB1:=(f1.same _ hB).trans gB
 refine ⟨G1,λd k=>?_,f1⟩
 rw [ax T.k73 rfl rfl]
 simp only [YL,YK]
 have h1:=hn
 have h2:=hc
 by_cases h:nb<=c.1<;>simp only [go_sem,c73,hw,hG1,p1,gB1,h1,h2,h,decide_true,decide_false]
theorem Gs (T:aA t) {B nb:Nat} {v:V} {cs:List Wr} (hw:H.wf) (hB:B<H.n) (gB:H.get B = .cells [.int 3 nb]) (hnb:nn nb) (hv:Row H O v 2 cs.length (bC cs)) (hn:cs.length<1000) (hc:∀ c ∈ cs,c.1<nb) (hfu:1000<fuel):
 ∃ H',(∀ (d:Nat) (k:K),aj (aN cp t fuel (d+2)) (.func 302 []) [v,.func 146 [.ptr B 0]] H k=k (.int 3 18446744073709551615) H')/\af H H':=by
 have nl:nn cs.length:=by unfold nn;omega
 have sn:=λ{id:Nat} {f:Nat->R}=>hv.sn (id:=id) (f:=f)
 have a0:cs.length<9223372036854775808:=by omega
 obtain ⟨_,G',f',z⟩:=bA (c:=BH) (fuel:=fuel) (ph:=λd=>aN cp t fuel (d+1)) (σ:=Unit) (n:=cs.length)
  (I:=λi _ G=>af H G)
  (S:=λi _ e=>ae s000 e=v/\ae s001 e = .func 146 [.ptr B 0]/\ae s007 e = .int 3 cs.length/\ae s010 e = .int 3 i) (λi _ G hil f=>by
   have hgi:cs[i]? = some cs[i]:=YA hil
   have hci:=hc _ (YW hil)
   obtain ⟨bL,oL,cL,zL,hvL,hbL,-,hrL⟩:=(hv.fresh f).open hil
   rw [nu hgi]at hrL
   have hrL:=λ{id:Nat} {k:List V->R}=>(hrL (G:=G) rfl).1 (id:=id) (k:=k)
   obtain ⟨G1,z1o,f1⟩:=Ec (cp:=cp) (fuel:=fuel) (c:=cs[i]) T f.wf (YD hB f.n) ((f.same _ hB).trans gB) hnb (by unfold nn at *;omega)
   have z1:=λ{d:Nat} {k:K}=>z1o d k
   have a1:nn i:=by unfold nn;omega
   have a2:i<9223372036854775808:=by omega
   have a3:(i+1)%18446744073709551616=i+1:=by omega
   have a4:¬ nb<=cs[i].1:=by omega
   refine ⟨(),G1,f.trans f1,λd kx r e y ⟨q0,q1,q7,q10⟩ hk=>?_⟩
   rw [ak]
   rw [hvL]at q0
   simp only [go_sem,BH,q0,q1,q7,q10,hil,nl,a1,a2,a3,↓hrL,↓z1,a4,decide_false]
   exact hk _ (by simp only [go_sem,hvL,q0,q1,q7,and_self])) cs.length 0 () H (by omega) (af.refl hw)
 have jv:=λ{id:Nat} {k:R}=>aI hv.one (id:=id) (k:=k)
 refine ⟨G',λd k=>?_,f'⟩
 rw [aJ T.ad1 rfl rfl]
 simp only [go_sem,acu,↓sn,a0]
 refine z d _ _ _ _ (by omega) ?_ λr e' ⟨q0,q1,q7,q10⟩=>?_
 .simp only [go_sem,and_self]
 .rw [ak]
  simp only [go_sem,BH,q7,q10,nl,QE]
theorem wX (T:aA t) {B nb:Nat} {v:V} {cs:List Wr} (hw:H.wf) (hB:B<H.n) (gB:H.get B = .cells [.int 3 nb]) (hnb:nn nb) (hv:Row H O v 2 cs.length (bC cs)) (hn:cs.length<1000) (hc:∀ c ∈ cs,c.1<nb) (hfu:1000<fuel):
 ∃ H',(∀ (d:Nat) (k:K),aj (aN cp t fuel (d+3)) (.func 160 []) [v,.func 146 [.ptr B 0]] H k=k (.bool false) H')/\af H H':=by
 obtain ⟨G,zo,f⟩:=Gs (cp:=cp) (fuel:=fuel) T hw hB gB hnb hv hn hc hfu
 have z:=λ{d:Nat} {k:K}=>zo d k
 refine ⟨G,λd k=>?_,f⟩
 rw [aJ T.k80 rfl rfl]
 have e1:dA (CF.ge 9223372036854775808 18446744073709551616) 18446744073709551615 0=false:=by decide
 simp only [go_sem,c80,↓z,e1,YT]
end Go.Ev
end
section
namespace Go.Ev
open Go.Proofs
variable {cp:RC->ah} {t:Nat->Option cP} {fuel:Nat} {H:Heap} {O:Nat->Prop}
def Sf (tk:Tk) (b tg:Gd) (al:Nat):Bool:=decide (tk.b=b) && decide (tk.t=tg) && decide (tk.all=al)
def orP (tk:Tk) (kn:Bool) (fr:Nat):Bool:=if fr=0 then !kn else kn && decide (tk.next=fr)
theorem pU (T:aA t) {x:Bool} {e:Nat} (d:Nat) (k:K):aj (aN cp t fuel (d+1)) (.func 156 []) [.bool x,.int 3 e] H k=k (.int 3 (if x=true then 0 else e)) H:=by
 rw [aJ T.k78 rfl rfl]
 cases x<;>simp only [go_sem,c78,YT]
variable {b tg:Gd} {fr al P:Nat} {vx:V} {cs:List Wr}
theorem K9 (T:aA t) (hw:H.wf) (gP:H.get P = .cells (aT b tg fr al vx)) (hX:Row H O vx 2 cs.length (bC cs)) (h:OX b tg fr al cs) (hfu:1000<fuel):
 ∃ H',(∀ (d:Nat) (k:K),aj (aN cp t fuel (d+5)) (.func 150 [.ptr P 0]) [] H k=k (.int 3 0) H')/\af H H':=by
 obtain ⟨G,zo,f⟩:=HZ (cp:=cp) (fuel:=fuel) T hw hX h hfu
 have z:=λ{d:Nat} {k:K}=>zo d k
 refine ⟨G,λd k=>?_,f⟩
 simp only [aT]at gP z
 rw [ax T.k75 rfl rfl]
 simp only [YK]
 simp only [go_sem,c75,gP,↓z]
theorem La (T:aA t) {LB:Nat} {lg:Gd} (gP:H.get P = .cells (aT b tg fr al vx)) (gL:H.get LB = .cells (aS lg)) (d:Nat) (k:K):
 aj (aN cp t fuel (d+2)) (.func 154 [.ptr P 0,.ptr LB 0]) [] H k=k (.int 3 (if b=lg then 0 else 9)) H:=by
 have zu:=λ{d:Nat} {k:K} {x:Bool} {e:Nat}=>pU (cp:=cp) (fuel:=fuel) (H:=H) (x:=x) (e:=e) T d k
 simp only [aT]at gP
 simp only [aS]at gL
 rw [ax T.k77 rfl rfl]
 simp only [YK]
 by_cases h:b=lg
 .subst h
  have e1:=λ{id:Nat} {f:Bool->R}=>xD (id:=id) (f:=f) (rfl:b=b)
  simp only [go_sem,c77,gP,gL,bh,↓e1,↓zu]
 .have e1:=λ{id:Nat} {f:Bool->R}=>JG (id:=id) (f:=f) h
  simp only [go_sem,c77,gP,gL,bh,↓e1,↓zu,h,YT]
theorem Lb (T:aA t) {NB BF:Nat} (hw:H.wf) (gP:H.get P = .cells (aT b tg fr al vx)) (hX:Row H O vx 2 cs.length (bC cs)) (h:OX b tg fr al cs) (hNB:NB<H.n) (gN:H.get NB = .cells [.int 3 8]) (gF:H.get BF = .cells [.func 146 [.ptr NB 0]]) (hfu:1000<fuel):
 ∃ H',(∀ (d:Nat) (k:K),aj (aN cp t fuel (d+4)) (.func 158 [.ptr P 0,.ptr NB 0,.ptr BF 0]) [] H k=k (.int 3 0) H')/\af H H':=by
 have hl:=h.len
 have n8:nn 8:=by unfold nn;omega
 have a8:=h.a8
 have na:nn al:=by unfold nn;omega
 obtain ⟨G,zo,f⟩:=wX (cp:=cp) (fuel:=fuel) T hw hNB gN n8 hX (by omega) (λc hc=>(h.ch.lt c hc).1) hfu
 have z:=λ{d:Nat} {k:K}=>zo d k
 have zu:=λ{d:Nat} {k:K} {x:Bool} {e:Nat}=>pU (cp:=cp) (fuel:=fuel) (H:=G) (x:=x) (e:=e) T d k
 refine ⟨G,λd k=>?_,f⟩
 simp only [aT]at gP
 rw [ax T.k79 rfl rfl]
 simp only [YK]
 simp only [go_sem,c79,gP,gN,gF,n8,na,a8,↓z,↓zu]
theorem Lc (T:aA t) {KB TB:Nat} {kn:Bool} {tk:Tk} {x:V} (gP:H.get P = .cells (aT b tg fr al vx)) (gK:H.get KB = .cells [.bool kn]) (gT:H.get TB = .cells (bq tk x)) (hf:nn fr) (hn:nn tk.next) (d:Nat) (k:K):
 aj (aN cp t fuel (d+2)) (.func 162 [.ptr P 0,.ptr KB 0,.ptr TB 0]) [] H k=k (.int 3 (if orP tk kn fr=true then 0 else 10)) H:=by
 have zu:=λ{d:Nat} {k:K} {x:Bool} {e:Nat}=>pU (cp:=cp) (fuel:=fuel) (H:=H) (x:=x) (e:=e) T d k
 have n0:nn 0:=by unfold nn;omega
 have hf':=hf
 have hn':=hn
 simp only [aT]at gP
 simp only [bq]at gT
 rw [ax T.k81 rfl rfl]
 simp only [YK]
 unfold orP
 by_cases h0:fr=0
 .have h0':¬ 0<fr:=by omega
  cases kn<;>simp only [go_sem,↓Cl,c81,gP,gK,h0,n0,QE,Bool.not_true,Bool.not_false,YT,↓zu]
 .have h0':0<fr:=by omega
  cases kn
  .simp only [go_sem,c81,gP,gK,h0,h0',n0,hf',YT,↓zu,Bool.false_and]
  .by_cases h1:tk.next=fr<;>
    simp only [go_sem,c81,gP,gK,gT,h0,h0',h1,n0,hf',YT,↓zu,decide_false,decide_true,Bool.true_and]
end Go.Ev
end
section
namespace Go.Ev
open Go.Proofs
variable {cp:RC->ah} {t:Nat->Option cP} {fuel:Nat} {H:Heap} {O:Nat->Prop}
def Ut (m:MT) (b tg:Gd) (fr al:Nat):Nat:=if b=(cR m).g then (if orP m.tok (Sf m.tok b tg al) fr=true then 0 else 10) else 9
theorem aaw (T:aA t) {G Gh Gi:Heap} {B d:Nat} {f0 f1 f2 f3:V} {e1 e3:Nat} (g0:G.get B = .cells [f0,f1,f2,f3]) (g1:Gh.get B = .cells [f0,f1,f2,f3]) (g2:Gi.get B = .cells [f0,f1,f2,f3])
 (z0:∀ {k:K},aj (aN cp t fuel (d+8)) f0 [] G k=k (.int 3 0) Gh) (z1:∀ {k:K},aj (aN cp t fuel (d+8)) f1 [] Gh k=k (.int 3 e1) Gh) (z2:∀ {k:K},aj (aN cp t fuel (d+8)) f2 [] Gh k=k (.int 3 0) Gi) (z3:∀ {k:K},aj (aN cp t fuel (d+8)) f3 [] Gi k=k (.int 3 e3) Gi) (h0:f0.one=true) (h1:f1.one=true) (h2:f2.one=true) (h3:f3.one=true) (hfu:1000<fuel) (k:K):
 aj (aN cp t fuel (d+9)) (.func 148 []) [.slice B 0 4 5 0] G k=if e1=0 then k (.int 3 e3) Gi else k (.int 3 e1) Gh:=by
 obtain ⟨q,hq⟩:∃ q,fuel=q+1+1+1+1+1:=⟨fuel-5,by omega⟩
 have hL:∀ {c:ah} {ph:cU} {kx:Nat->KE} {e:Env} {G:Heap},jQ c fuel ph kx fuel e G=jQ c fuel ph kx (q+1+1+1+1+1) e G:=λ{c ph kx e G}=>by rw [<- hq]
 have n4:nn 4:=by unfold nn;omega
 have n0:nn 0:=by unfold nn;omega
 have n1:nn 1:=by unfold nn;omega
 have n2:nn 2:=by unfold nn;omega
 have n3:nn 3:=by unfold nn;omega
 have j0:=λ{id:Nat} {k:R}=>aI h0 (id:=id) (k:=k)
 have j1:=λ{id:Nat} {k:R}=>aI h1 (id:=id) (k:=k)
 have j2:=λ{id:Nat} {k:R}=>aI h2 (id:=id) (k:=k)
 have j3:=λ{id:Nat} {k:R}=>aI h3 (id:=id) (k:=k)
 rw [aJ T.k74 rfl rfl]
 by_cases he1:e1=0
 .by_cases he3:e3=0
  .simp only [go_sem,ZE,c74,LP,↓hL,ak,n0,n1,n2,n3,n4,g0,g1,g2,↓z0,↓z1,↓z2,↓z3,he1,he3]
  .simp only [go_sem,ZE,c74,LP,↓hL,ak,n0,n1,n2,n3,n4,g0,g1,g2,↓z0,↓z1,↓z2,↓z3,he1,he3]
 .simp only [go_sem,ZE,c74,LP,↓hL,ak,n0,n1,n4,g0,g1,↓z0,↓z1,he1]
variable {dp vp a n:Nat} {A:AD} {m:MT} {vl vs vi:V} {b tg:Gd} {fr al:Nat} {vx:V} {cs:List Wr}
theorem Bd (T:aA t) (S:VP H dp vp a n A O m vl vs vi) (h8:m.live.length=8) (hX:Row H (bQ O vp) vx 2 cs.length (bC cs)) (h:OX b tg fr al cs) (hfu:1000<fuel):
 ∃ G,af H G/\∀ (d:Nat) (k:K),aj (aN cp t fuel (d+10)) (.func 46 []) [.ptr vp 0,.agg (aT b tg fr al vx)] H k=if Ut m b tg fr al=0 then aj (aN cp t fuel (d+9)) (.func 164 []) [.ptr vp 0,.agg (bq ⟨b,tg,fr+cs.length,al,[]⟩ .az),vx] G k else k (.int 3 (Ut m b tg fr al)) G:=by
 have w0:=S.fC.wf
 have hok:=S.ok
 have lo:=S.lt
 obtain ⟨G1,hG1,f1,p1,n1⟩:=Heap.aO w0 (.cells (aT b tg fr al vx))
 obtain ⟨G2,z2o,f2⟩:=zU (cp:=cp) (fuel:=fuel) T (S.fresh f1) hfu
 have z2:=λ{d:Nat} {k:K}=>z2o d k
 have w2:=f2.wf
 have m2:=f2.n
 obtain ⟨G3,hG3,f3,p3,n3⟩:=Heap.aO w2 (.cells [.int 7 0,.int 7 0])
 have w3:=f3.wf
 obtain ⟨G4,hG4,f4,p4,n4⟩:=Heap.aO w3 (.cells [.int 7 0,.int 7 0])
 have w4:=f4.wf
 have q4:G4.get G2.n = .cells [.int 7 0,.int 7 0]:=(f4.same _ (by omega)).trans p3
 have b4:G2.n<G4.n:=by omega
 obtain ⟨G5,hG5,f5,p5,n5,w5,k5⟩:=Heap.aU (b:=G2.n) (f3.trans f4) (YB _) b4 (.cells (aS (cR m).g))
 have q5:G5.get G3.n = .cells [.int 7 0,.int 7 0]:=(k5 _ (by omega)).trans p4
 have b5:G3.n<G5.n:=by omega
 obtain ⟨G6,hG6,f6,p6,n6,w6,k6⟩:=Heap.aU (b:=G3.n) f5 (by omega) b5 (.cells (aS m.tok.t))
 have f06:=f1.trans (f2.trans f6)
 obtain ⟨G7,x,z7o,f7,o7⟩:=uX (cp:=cp) (fuel:=fuel) T (S.fresh f06)
 have z7:=λ{d:Nat} {k:K}=>z7o d k
 have w7:=f7.wf
 have m7:=f7.n
 have z8:=λ{d:Nat} {k:K}=>ur (cp:=cp) (fuel:=fuel) T (S.fresh (f06.trans f7)) d k
 rw [h8]at z8
 obtain ⟨G8,hG8,f8,p8,n8⟩:=Heap.aO w7 (.cells [.int 7 0,.int 7 0,.int 7 0,.int 7 0,.int 3 0,.int 3 0,.az])
 have w8:=f8.wf
 obtain ⟨G9,hG9,f9,p9,n9⟩:=Heap.aO w8 (.cells [.int 3 0])
 have w9:=f9.wf
 have b9:G7.n<G9.n:=by omega
 have q9:G9.get G7.n = .cells [.int 7 0,.int 7 0,.int 7 0,.int 7 0,.int 3 0,.int 3 0,.az]:=(f9.same _ (by omega)).trans p8
 obtain ⟨Ga,hGa,fa,pa,na,wa,ka⟩:=Heap.aU (b:=G7.n) (f8.trans f9) (YB _) b9 (.cells (bq m.tok x))
 have ba:G8.n<Ga.n:=by omega
 have qa:Ga.get G8.n = .cells [.int 3 0]:=(ka _ (by omega)).trans p9
 obtain ⟨Gb,hGb,fb,pb,nb,wb,kb⟩:=Heap.aU (b:=G8.n) fa (by omega) ba (.cells [.int 3 8])
 obtain ⟨Gc,hGc,fc,pc,nc⟩:=Heap.aO wb (.cells [.bool false])
 have wc:=fc.wf
 have bc:Gb.n<Gc.n:=by omega
 obtain ⟨Gd,hGd,fd,pd,nd,wd,kd⟩:=Heap.aU (b:=Gb.n) fc (YB _) bc (.cells [.bool (Sf m.tok b tg al)])
 obtain ⟨Ge,hGe,fe,pe,ne⟩:=Heap.aO wd (.cells [.lV])
 have we:=fe.wf
 have be:Gd.n<Ge.n:=by omega
 obtain ⟨Gf,hGf,ff,pf,nf,wf,kf⟩:=Heap.aU (b:=Gd.n) fe (YB _) be (.cells [.func 146 [.ptr G8.n 0]])
 obtain ⟨Gg,hGg,fg,pg,ng⟩:=Heap.aO wf (.cells [.func 150 [.ptr H.n 0],.func 154 [.ptr H.n 0,.ptr G2.n 0],.func 158 [.ptr H.n 0,.ptr G8.n 0,.ptr Gd.n 0],.func 162 [.ptr H.n 0,.ptr Gb.n 0,.ptr G7.n 0]])
 have wg:=fg.wf
 have fbg:=fd.trans (ff.trans fg)
 have f7b:=fb.trans fbg
 have f2g:=f6.trans (f7.trans f7b)
 have gP6:G6.get H.n = .cells (aT b tg fr al vx):=((f2.trans f6).same _ (by omega)).trans p1
 have gP9:Gb.get H.n = .cells (aT b tg fr al vx):=(fb.same _ (by omega)).trans ((f7.same _ (by omega)).trans gP6)
 have gPg:Gg.get H.n = .cells (aT b tg fr al vx):=(fbg.same _ (by omega)).trans gP9
 have gTb:Gb.get G7.n = .cells (bq m.tok x):=(kb _ (by omega)).trans pa
 have gLg:Gg.get G2.n = .cells (aS (cR m).g):=((f7.trans f7b).same _ (by omega)).trans ((k6 _ (by omega)).trans p5)
 have gNg:Gg.get G8.n = .cells [.int 3 8]:=(fbg.same _ (by omega)).trans pb
 have gKg:Gg.get Gb.n = .cells [.bool (Sf m.tok b tg al)]:=((ff.trans fg).same _ (by omega)).trans pd
 have gTg:Gg.get G7.n = .cells (bq m.tok x):=(fbg.same _ (by omega)).trans gTb
 have gFg:Gg.get Gd.n = .cells [.func 146 [.ptr G8.n 0]]:=(fg.same _ (by omega)).trans pf
 have f0g:=f1.trans (f2.trans f2g)
 have jx:=λ{id:Nat} {k:R}=>aI hX.one (id:=id) (k:=k)
 have jy:=λ{id:Nat} {k:R}=>aI o7.one (id:=id) (k:=k)
 have hkn0:∀ (ph:cU) (KN:KE) (KX:Nat->KE) (e:Env) (z:R),ae s000 e = .ptr vp 0->ae s003 e = .ptr H.n 0->ae s006 e = .ptr G2.n 0->ae s011 e = .ptr G7.n 0->ae s012 e = .ptr G8.n 0->
  (∀ e',ae s000 e' = .ptr vp 0->ae s003 e' = .ptr H.n 0->ae s006 e' = .ptr G2.n 0->ae s011 e' = .ptr G7.n 0->ae s012 e' = .ptr G8.n 0->ae s013 e' = .ptr Gb.n 0->eR Eg fuel ph e' Gd KN KX=z)->eR Ef fuel ph e Gb KN KX=z:=λph KN KX e z q0 q3 q6 q11 q12 hk=>by
  have na:nn al:=by have:=h.a8;unfold nn;omega
  have na':nn m.tok.all:=hok.tok.2.2.2.1
  have gT:=gTb
  have gP:=gP9
  simp only [bq]at gT
  simp only [aT]at gP
  have c0:Ef = .seq Ef.fst Eg:=rfl
  rw [c0]
  generalize hT:Eg=T5 at hk ⊢
  simp only [ah.fst,Ef]
  clear hT
  have fin:∀ {kn:Bool},Sf m.tok b tg al=kn->Gc.put Gb.n (.cells [.bool kn])=Gd:=λ{kn} e=>by rw [<- e];exact hGd
  rw [qi,B9]
  by_cases h1:m.tok.b=b
  .have e1:=λ{id:Nat} {f:Bool->R}=>xD (id:=id) (f:=f) h1
   by_cases h2:m.tok.t=tg
   .have e2:=λ{id:Nat} {f:Bool->R}=>xD (id:=id) (f:=f) h2
    by_cases h3:m.tok.all=al
    .have hG:=fin (kn:=true) (by unfold Sf;simp [h1,h2,h3])
     rw [dw 6]
     simp only [WD,WK,Yv,WH]
     generalize hD:[_,_,_,_,_,_,_,_,_,_,_,_,_,_,_]=D
     simp only [go_sem,q3,q11,gT,gP,bh,↓e1]
     subst hD
     rw [dw 7]
     simp only [WD,WK,Yv,WH]
     generalize hD:[_,_,_,_,_,_,_,_]=D
     simp only [go_sem,q3,q11,gT,gP,bh,↓e2]
     subst hD
     simp only [go_sem,q3,q11,gT,gP,wb,hGc,pc,bc,wc,h3,hG]
     exact hk _ q0 q3 q6 q11 q12 rfl
    .have hG:=fin (kn:=false) (by unfold Sf;simp [h3])
     rw [dw 6]
     simp only [WD,WK,Yv,WH]
     generalize hD:[_,_,_,_,_,_,_,_,_,_,_,_,_,_,_]=D
     simp only [go_sem,q3,q11,gT,gP,bh,↓e1]
     subst hD
     rw [dw 7]
     simp only [WD,WK,Yv,WH]
     generalize hD:[_,_,_,_,_,_,_,_]=D
     simp only [go_sem,q3,q11,gT,gP,bh,↓e2]
     subst hD
     simp only [go_sem,q3,q11,gT,gP,wb,hGc,pc,bc,wc,h3,hG]
     exact hk _ q0 q3 q6 q11 q12 rfl
   .have e2:=λ{id:Nat} {f:Bool->R}=>JG (id:=id) (f:=f) h2
    have hG:=fin (kn:=false) (by unfold Sf;simp [h2])
    rw [dw 6]
    simp only [WD,WK,Yv,WH]
    generalize hD:[_,_,_,_,_,_,_,_,_,_,_,_,_,_,_]=D
    simp only [go_sem,q3,q11,gT,gP,bh,↓e1]
    subst hD
    rw [dw 7]
    simp only [WD,WK,Yv,WH]
    generalize hD:[_,_,_,_,_,_,_,_]=D
    simp only [go_sem,q3,q11,gT,gP,bh,↓e2]
    subst hD
    simp only [go_sem,wb,hGc,pc,bc,wc,hG]
    exact hk _ q0 q3 q6 q11 q12 rfl
  .have e1:=λ{id:Nat} {f:Bool->R}=>JG (id:=id) (f:=f) h1
   have hG:=fin (kn:=false) (by unfold Sf;simp [h1])
   rw [dw 6]
   simp only [WD,WK,Yv,WH]
   generalize hD:[_,_,_,_,_,_,_,_,_,_,_,_,_,_,_]=D
   simp only [go_sem,q3,q11,gT,gP,bh,↓e1]
   subst hD
   rw [dw 7]
   simp only [WD,WK,Yv,WH]
   generalize hD:[_,_,_,_,_,_,_,_]=D
   simp only [go_sem]
   subst hD
   simp only [go_sem,wb,hGc,pc,bc,wc,hG]
   exact hk _ q0 q3 q6 q11 q12 rfl
 obtain ⟨Gh,zao,fh⟩:=K9 (cp:=cp) (fuel:=fuel) T wg gPg (hX.fresh f0g) h hfu
 have wh:=fh.wf
 have mh:=fh.n
 have gPh:=(fh.same _ (by omega)).trans gPg
 have gLh:=(fh.same _ (by omega)).trans gLg
 have gNh:=(fh.same _ (by omega)).trans gNg
 have gFh:=(fh.same _ (by omega)).trans gFg
 have f0h:=f0g.trans fh
 obtain ⟨Gi,zco,fi⟩:=Lb (cp:=cp) (fuel:=fuel) T wh gPh (hX.fresh f0h) h (by omega) gNh gFh hfu
 have hi:∀ j,j<Gg.n->Gi.get j=Gg.get j:=λj hj=>(fi.same j (by omega)).trans (fh.same j hj)
 have gPi:=(hi _ (by omega)).trans gPg
 have gKi:=(hi _ (by omega)).trans gKg
 have gTi:=(hi _ (by omega)).trans gTg
 have nf:nn fr:=by have:=h.a8;have:=h.le;unfold nn;omega
 have hfst:=λ{d:Nat} {k:K}=>aaw (cp:=cp) (fuel:=fuel) (d:=d) (e1:=if b=(cR m).g then 0 else 9) (e3:=if orP m.tok (Sf m.tok b tg al) fr=true then 0 else 10) T pg ((fh.same _ (by omega)).trans pg) ((hi _ (by omega)).trans pg) (λ{k}=>zao (d+3) k) (λ{k}=>La T gPh gLh (d+6) k) (λ{k}=>zco (d+4) k) (λ{k}=>Lc T gPi gKi gTi nf hok.tok.2.2.1 (d+6) k) rfl rfl rfl rfl hfu k
 have hz:(m.tok.b=m.tok.b)=True:=by simp
 have sX:=λ{id:Nat} {f:Nat->R}=>hX.sn (id:=id) (f:=f)
 have hln:=h.len
 have h8':=h.a8
 have hle:=h.le
 have c9:cs.length<9223372036854775808:=by omega
 have e9:(fr+cs.length)%18446744073709551616=fr+cs.length:=by omega
 have key:∀ (G:Heap),G.get H.n = .cells (aT b tg fr al vx)->∀ (d:Nat) (k:K) (e:Env),ae s000 e = .ptr vp 0->ae s003 e = .ptr H.n 0->eR Pw fuel (aN cp t fuel (d+9)) e G (mL [.tmp s004] k) (λn e H=>if n=0 then mL [.tmp s004] k e H else no 6)=aj (aN cp t fuel (d+9)) (.func 164 []) [.ptr vp 0,.agg (bq ⟨b,tg,fr+cs.length,al,[]⟩ .az),vx] G k:=λG gP d k e q0 q3=>by
  simp only [aT]at gP
  simp only [go_sem,Pw,XI,q0,q3,gP,↓sX,c9,e9,bq]
 have main:∀ (d:Nat) (k:K) (z:R),(∀ e,ae s000 e = .ptr vp 0->ae s003 e = .ptr H.n 0->ae s015 e = .int 3 (Ut m b tg fr al)->eR Eh fuel (aN cp t fuel (d+9)) e (if b=(cR m).g then Gi else Gh) (mL [.tmp s004] k) (λn e H=>if n=0 then mL [.tmp s004] k e H else no 6)=z)->aj (aN cp t fuel (d+10)) (.func 46 []) [.ptr vp 0,.agg (aT b tg fr al vx)] H k=z:=λd k z hz=>by
  rw [aJ T.k23 rfl rfl]
  generalize hR7:Eh=R7 at hz
  have gP9':=gP9
  simp only [aT]at hG1
  simp only [aS]at z2 hG5 hG6
  simp only [bq]at z7 hGa
  simp only [go_sem,c23,XE,XF,XG,aT,↓jx,w0,hG1,↓z2,w2,hG3,w3,hG4,w4,q4,b4,hG5,q5,w5,b5,hG6,↓z7,↓z8,w7,hG8,w8,hG9,w9,q9,b9,↓jy,hGa,qa,wa,ba,hGb]
  refine hkn0 _ _ _ _ _ ?_ ?_ ?_ ?_ ?_ λe1 q0 q3 q6 q11 q12 q13=>?_
  all_goals first|(simp only [go_sem];done)|skip
  simp only [go_sem,Eg,XH,q3,q6,q11,q12,q13,wd,hGe,pe,we,be,hGf,wf,hGg,↓hfst]
  rw [hR7]
  unfold Ut at hz
  by_cases hb:b=(cR m).g
  .rw [if_pos hb]
   simp only [if_pos hb]at hz
   simp only [go_sem]
   exact hz _ q0 q3 rfl
  .rw [if_neg hb]
   simp only [if_neg hb]at hz
   simp only [go_sem]
   exact hz _ q0 q3 rfl
 refine ⟨if b=(cR m).g then Gi else Gh,by split;exact f0h.trans fi;exact f0h,λd k=>main d k _ λe q0 q3 q15=>?_⟩
 have gPx:(if b=(cR m).g then Gi else Gh).get H.n = .cells (aT b tg fr al vx):=by split;exact gPi;exact gPh
 by_cases h0:Ut m b tg fr al=0
 .rw [if_pos h0]
  rw [h0]at q15
  simp only [go_sem,Eh,q15]
  exact key _ gPx d k _ q0 q3
 .rw [if_neg h0]
  simp only [go_sem,Eh,q15,h0]
end Go.Ev
end
section
namespace Go.Ev
open Go.Proofs
theorem tE {a b:List Tx}:∀ {i} {c:Wr},c ∈ gE a b i->c.1<i/\c.2=b.getD c.1 t0
 | 0,c,h=>by cases h
 | i+1,c,h=>by
  rcases List.mem_append.1 h with h|h
  .obtain ⟨h1,h2⟩:=tE h
   exact ⟨by omega,h2⟩
  .split at h
   .cases h
   .rw [YU.1 h]
    exact ⟨YC1 i,rfl⟩
theorem EG {a b:List Tx}:∀ i,(gE a b i).Pairwise λx y=>x.1<y.1
 | 0=>List.Pairwise.nil
 | i+1=>by
  refine List.pairwise_append.2 ⟨EG i,?_,λx hx y hy=>?_⟩
  .split
   .exact List.Pairwise.nil
   .exact List.pairwise_singleton ..
  .split at hy
   .cases hy
   .rw [YU.1 hy]
    exact (tE hx).1
theorem aae {a b:List Tx} (h:∀ x ∈ b,okV x):qC (L0 a b) b.length:=by
 refine ⟨λc hc=>?_,λi hi=>?_⟩
 .obtain ⟨h1,h2⟩:=tE hc
  have hb:c.2 ∈ b:=by
   rw [h2,YF,YA h1]
   exact YW h1
  exact ⟨h1,h _ hb⟩
 .have:=List.pairwise_iff_getElem.1 (EG (a:=a) (b:=b) b.length) i (i+1) (by unfold L0 at hi;omega) hi (YC1 i)
  rw [YF,YF,YA (by omega),YA hi]
  exact this
section
variable {t:Nat->Option cP} {fuel:Nat} {H:Heap} {cp:RC->ah}
end
end Go.Ev
end
section
namespace Go.Ev
open Go.Proofs
section
variable {t:Nat->Option cP} {fuel:Nat} {H:Heap} {cp:RC->ah}
end
end Go.Ev
end
section
namespace Go.Ev
open Go.Proofs
section
variable {H G G':Heap} {dp vp a n dq vq b k:Nat} {A B:AD} {O Q:Nat->Prop} {m w:MT} {vl vs vi wl ws wi:V}
end
end Go.Ev
end
section
namespace Go.Ev
open Go.Proofs
end Go.Ev
end
section
namespace Go.Ev
open Go.Proofs
noncomputable def GS (args:List V) (H:Heap) (k:K):R:=match args with
 | []=>k (.bool true) H
 | _=>no 0
noncomputable def aeZ (ph:cU) (o:rQ) (e:Env) (H:Heap) (k:Env->Heap->R) (z:Env->Heap->R):R:=rQ.rec (motive:=λ_=>R) (λid d g cls op=>ta g e
 (Nat.rec (motive:=λ_=>R)
  (aL op id ph e H λv H'=>bV d v e λe'=>k e' H')
  (λ_ _=>Heap.rec (motive:=λ_=>R) (λn bz t=>aL op id ph e (.mk n n t) λv H'=>Heap.rec (motive:=λ_=>R) (λn' wlo' t'=>aF (Nat.ble n wlo') (bV d v e λe'=>k e' (.mk n' bz t')) (no 0)) H') H) cls)
 (bV d (.cH []) e λe'=>z e' H)) o
theorem uC {ph:cU} {o:rQ} {l:List rQ} {e:Env} {H:Heap} {k:Env->Heap->R}:bO ph (o :: l) e H k=aeZ ph o e H (λe H=>bO ph l e H k) (λe H=>bO ph l e H k):=YY rfl rfl
theorem xF {ph:cU} {l':List rQ} {k:Env->Heap->R}:∀ {l:List rQ} {e:Env} {H:Heap},bO ph (l ++ l') e H k=bO ph l e H λe H=>bO ph l' e H k
 | [],e,H=>YY rfl rfl
 | o :: l,e,H=>by
  rw [YL,uC,uC]
  have h:(λe H=>bO ph (l ++ l') e H k)=λe H=>bO ph l e H λe H=>bO ph l' e H k:=funext λe=>funext λH=>xF
  rw [h]
theorem FG (n:Nat) {ph:cU} {l:List rQ} {e:Env} {H:Heap} {k:Env->Heap->R}:bO ph l e H k=bO ph (l.take n) e H λe H=>bO ph (l.drop n) e H k:=by rw [<- xF,QN]
end Go.Ev
end

