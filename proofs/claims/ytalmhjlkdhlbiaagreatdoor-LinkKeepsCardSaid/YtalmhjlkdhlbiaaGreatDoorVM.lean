/- VM: a part of the evaluator,of its logic,or of the laws' walk in it. -/
import Derived.Test.YtalmhjlkdhlbiaaGreatDoorVL
import Derived.Test.YtalmhjlkdhlbiaaGreatDoorEvE
open Nat renaming le_refl → YA,lt_of_lt_of_le → YE,zero_le → Yd,mod_eq_of_lt → Yr,add_zero → WD,zero_add → WJ,mul_one → WO,not_lt_zero → WY,lt_irrefl → Wa,add_assoc → Wh,min_le_right → YN4
open List renaming getElem?_eq_getElem → YB,length_append → YC,length_cons → YF,getD_eq_getElem?_getD → YH,mem_cons_of_mem → YI,length_nil → YM,mem_cons → YP,nil_append → YT,mem_of_getElem? → YY,cons_append → Yb,mem_map → Yc,getElem?_map → Yj,getElem?_take → Yk,getElem_mem → Yl,length_take → Yp,getElem?_drop → Yx,length_map → WB,mem_of_mem_take → WN,range → WT,length_drop → WU,drop_zero → WV,getElem?_eq_none → WW,map_take → QZ,takeWhile_cons → YD1,mem_flatMap → YG4,takeWhile_sublist → YH3,take_left → YJ3,mem_nil_iff → YO0
open Or renaming inr → YD,inl → YG
open Bool renaming false_eq_true → YN,not_true → Wt,or_false → QP,and_false → QQ,not_false → Qh,or_true → YB0,and_true → YC2,eq_iff_iff → YO4
set_option linter.unusedVariables false
set_option linter.unusedSimpArgs false
set_option linter.unusedSectionVars false
set_option maxHeartbeats 8000000
open Nat renaming reduceAdd→ZA,reduceSub→ZB,reduceMul→ZC,reduceEqDiff→ZD,reduceLT→ZE,reduceDiv→ZF,reduceMod→ZG,reduceLeDiff→ZH
section
namespace Go.Ev
open Go.Proofs
def Uy (ep:Nat) (last g:Gd):Bool:=!eK g last || decide (ep<g.1)
def LU (ep:Nat):Gd->List Gd->Bool
 | _,[]=>false
 | last,g :: gs=>Uy ep last g || LU ep g gs
structure Ln where
 ep:Nat
 bf:Nat
 ls:Bool
 gs:List Gd
def du (l:Ln) (v:V):List V:=[.int 7 l.ep,.int 3 l.bf,.bool l.ls,v]
def Q6 (l:Ln):Nat:=if 20<l.gs.length then 3 else if LU l.ep (0,0) l.gs=true\/l.gs.length<l.bf then 2 else 0
def jj:Gd->List Gd->Nat->Gd
 | last,_,0=>last
 | last,[],_+1=>last
 | _,g :: gs,i+1=>jj g gs i
section
variable {cp:RC->ai} {t:Nat->Option cF} {fuel:Nat} {H:Heap} {O:Nat->Prop}
theorem DK (T:aG t) {a b:Gd} (hw:H.wf) (ha:jm a) (hb:jm b):
 ∃ H',(∀ (d:Nat) (k:K),aj (aQ cp t fuel (d+1)) (.func 150 []) [.agg (bq a),.agg (bq b)] H k=k (.bool (eK a b)) H')/\ae H H':=by
 obtain ⟨G1,hG1,f1,p1,n1⟩:=Heap.aU hw (.cells (bq a))
 obtain ⟨G2,hG2,f2,p2,n2⟩:=Heap.gO (m:=H.n+1) n1 f1.wf (.cells (bq b))
 have q1:G2.get H.n = .cells (bq a):=(f2.same _ (by omega)).trans p1
 have w1:=f1.wf
 obtain ⟨a1,a2⟩:=a
 obtain ⟨b1,b2⟩:=b
 obtain ⟨u1,u2⟩:=ha
 obtain ⟨u3,u4⟩:=hb
 refine ⟨G2,λd k=>?_,f1.trans f2⟩
 simp only [bq]at hG1 p1 hG2 p2 q1
 rw [aR T.k75 rfl rfl]
 unfold eK
 have g1:=jX u1 u3
 have g2:=jX u2 u4
 have ne:¬ H.n=H.n+1:=by omega
 simp only at g1 g2 ⊢
 by_cases h2:a1=b1
 .subst h2
  have h1:¬ a1<a1:=by omega
  by_cases h3:b2<a2<;>
   simp only [go_sem,c75,bq,hw,hG1,n1,w1,hG2,p2,q1,g1,g2,h1,h3,decide_true,decide_false,YB0,QP,YC2,QQ]
 .by_cases h1:b1<a1<;>by_cases h3:b2<a2<;>
   simp only [go_sem,↓uY,c75,bq,hw,hG1,n1,w1,hG2,p2,q1,g1,h1,h2,h3,decide_true,decide_false,QP,YC2,QQ]
theorem IN (T:aG t) {B3 B1:Nat} {l:Ln} {v:V} {last g:Gd} {H0:Heap} (f0:ae H0 H) (h0:H0.n<=B3) (hB3:B3<H.n) (hB1:B1<H.n) (hne:B3≠B1) (g3:H.get B3 = .cells (bq last)) (g1:H.get B1 = .cells (du l v)) (hg:jm g) (hl:jm last) (hep:l.ep<18446744073709551616):
 ∃ H',(∀ (d:Nat) (k:K),aj (aQ cp t fuel (d+2)) (.func 148 [.ptr B3 0,.ptr B1 0]) [.agg (bq g)] H k=k (.bool (Uy l.ep last g)) H')/\ae H0 H'/\H.n<=H'.n/\H'.get B3 = .cells (bq g)/\∀ j,j<H.n->j≠B3->H'.get j=H.get j:=by
 have w0:=f0.wf
 obtain ⟨G1,hG1,f1,p1,n1⟩:=Heap.aU w0 (.cells (bq g))
 have q3:=(f1.same _ hB3).trans g3
 obtain ⟨G2,z2o,f2⟩:=DK (cp:=cp) (fuel:=fuel) T f1.wf hg hl
 have z2:=λ{d:Nat} {k:K}=>z2o d k
 have m2:=f2.n
 have w2:=f2.wf
 have r3:=(f2.same _ (by omega)).trans q3
 have r1:=(f2.same _ (by omega)).trans ((f1.same _ hB1).trans g1)
 have rn:G2.get H.n = .cells (bq g):=(f2.same _ (by omega)).trans p1
 have b3:B3<G2.n:=by omega
 obtain ⟨G3,hG3,f3,p3,n3,w3,k3⟩:=Heap.bd (b:=B3) (f0.trans (f1.trans f2)) h0 b3 (.cells (bq g))
 refine ⟨G3,λd k=>?_,f3,by omega,p3,λj hj hn=>(k3 j hn).trans ((f2.same _ (by omega)).trans (f1.same _ hj))⟩
 have gu:=jX hg.1 hep
 simp only [bq]at hG1 p1 q3 z2 r3 rn hG3
 simp only [du]at r1
 rw [ax T.k74 rfl rfl]
 simp only [Yb,YT]
 unfold Uy
 by_cases h1:eK g last=true
 .rw [h1]at z2
  by_cases h2:l.ep<g.1
  .simp only [go_sem,c74,bq,w0,hG1,p1,q3,↓z2,r1,r3,rn,gu,h1,h2,w2,b3,hG3,decide_true,YB0]
  .simp only [go_sem,c74,bq,w0,hG1,p1,q3,↓z2,r1,r3,rn,gu,h1,h2,w2,b3,hG3,decide_false,QP]
 .have h1:eK g last=false:=by simpa using h1
  rw [h1]at z2
  simp only [go_sem,c74,bq,w0,hG1,p1,q3,↓z2,r3,rn,h1,w2,b3,hG3,Bool.true_or]
def afr (ep:Nat) (gs:List Gd) (i:Nat):Prop:=∀ j,j<i->Uy ep (jj (0,0) gs j) (gs.getD j (0,0))=false
theorem ug:∀ {gs:List Gd} {last:Gd} {i:Nat} {g:Gd},gs[i]? = some g->jj last gs (i+1)=g
 | [],last,i,g,h=>by simp at h
 | a :: gs,last,0,g,h=>by
  simp at h
  subst h
  rw [jj];cases gs<;>rfl
 | a :: gs,last,i+1,g,h=>by
  rw [jj]
  exact ug (by simpa using h)
theorem P4 {ep:Nat}:∀ {gs:List Gd} {last:Gd},(∀ j,j<gs.length->Uy ep (jj last gs j) (gs.getD j (0,0))=false)->LU ep last gs=false
 | [],last,h=>rfl
 | g :: gs,last,h=>by
  have h0:=h 0 (by simp)
  rw [LU,show Uy ep last g=false from h0,Bool.false_or]
  exact P4 λj hj=>h (j+1) (by simpa using hj)
theorem JS {ep:Nat}:∀ {gs:List Gd} {last:Gd} {j:Nat},j<gs.length->Uy ep (jj last gs j) (gs.getD j (0,0))=true->LU ep last gs=true
 | [],last,j,hj,h=>by simp at hj
 | g :: gs,last,0,hj,h=>by
  rw [LU,show Uy ep last g=true from h,Bool.true_or]
 | g :: gs,last,j+1,hj,h=>by
  rw [LU,JS (j:=j) (by simpa using hj) h,YB0]
theorem yU:∀ {gs:List Gd} {last:Gd} {i:Nat},(∀ g ∈ gs,jm g)->jm last->jm (jj last gs i)
 | gs,last,0,_,h=>by cases gs<;>exact h
 | [],last,i+1,_,h=>h
 | g :: gs,last,i+1,hg,_=>by show jm (jj g gs i);exact yU (λx hx=>hg x (YI _ hx)) (hg g (List.mem_cons_self ..))
theorem Dy (T:aG t) {B3 B1:Nat} {l:Ln} {v:V} {H0:Heap} (f0:ae H0 H) (h0:H0.n<=B3) (hB3:B3<H.n) (hB1:B1<H.n) (hne:B3≠B1) (g3:H.get B3 = .cells (bq (0,0))) (g1:H.get B1 = .cells (du l v)) (hv:Row H0 O v 2 l.gs.length (bz l.gs)) (hn:l.gs.length<1000) (hg:∀ g ∈ l.gs,jm g) (hep:l.ep<18446744073709551616) (hfu:1000<fuel):
 ∃ H' q,(∀ (d:Nat) (k:K),aj (aQ cp t fuel (d+3)) (.func 240 []) [v,.func 148 [.ptr B3 0,.ptr B1 0]] H k=k (.int 3 q) H')/\ae H0 H'/\((q=18446744073709551615/\LU l.ep (0,0) l.gs=false)\/(q<1000/\LU l.ep (0,0) l.gs=true))/\(∀ j,j<H.n->j≠B3->H'.get j=H.get j)/\H.n<=H'.n:=by
 have nl:nn l.gs.length:=by unfold nn;omega
 have sn:=λ{id:Nat} {f:Nat->R}=>hv.sn (id:=id) (f:=f)
 have a0:l.gs.length<9223372036854775808:=by omega
 have run:=iI (c:=vM) (fuel:=fuel) (ph:=λd=>aQ cp t fuel (d+2)) (σ:=Unit) (τ:=Nat) (n:=l.gs.length)
  (I:=λi _ G=>ae H0 G/\H.n<=G.n/\G.get B3 = .cells (bq (jj (0,0) l.gs i))/\(∀ j,j<H.n->j≠B3->G.get j=H.get j)/\afr l.ep l.gs i)
  (S:=λi _ e=>aa s000 e=v/\aa s001 e = .func 148 [.ptr B3 0,.ptr B1 0]/\aa s007 e = .int 3 l.gs.length/\aa s010 e = .int 3 i)
  (J:=λq G=>ae H0 G/\H.n<=G.n/\(∀ j,j<H.n->j≠B3->G.get j=H.get j)/\q<1000/\LU l.ep (0,0) l.gs=true) (Q:=λq e=>aa s004 e = .int 3 q) (j:=λ_=>0) (λi _ G hil ⟨f,hGn,gG,kG,hno⟩=>by
   have hgi:l.gs[i]? = some l.gs[i]:=YB hil
   have hgo:=hg _ (Yl hil)
   have bC:=hv.fresh f
   obtain ⟨bL,oL,cL,zL,hvL,hbL,-,hrL⟩:=bC.open hil
   rw [lV hgi]at hrL
   have hrL:=λ{id:Nat} {k:List V->R}=>(hrL (G:=G) rfl).1 (id:=id) (k:=k)
   have hgd:l.gs.getD i (0,0)=l.gs[i]:=by rw [YH,hgi];rfl
   have hls:=ug (last:=(0,0)) hgi
   have hlo:=yU (i:=i) hg (show jm (0,0) from ⟨by show 0<_;omega,by show 0<_;omega⟩)
   obtain ⟨G1,z1o,f1,m1,p1,k1⟩:=IN (cp:=cp) (fuel:=fuel) T f h0 (by omega) (by omega) hne gG ((kG _ hB1 (Ne.symm hne)).trans g1) hgo hlo hep
   have z1:=λ{d:Nat} {k:K}=>z1o d k
   have kk:∀ j,j<H.n->j≠B3->G1.get j=H.get j:=λj hj hn=>(k1 j (by omega) hn).trans (kG j hj hn)
   have a1:nn i:=by unfold nn;omega
   have a2:i<9223372036854775808:=by omega
   have a3:(i+1)%18446744073709551616=i+1:=by omega
   rcases hw:Uy l.ep (jj (0,0) l.gs i) l.gs[i] with _|_
   .rw [hw]at z1
    refine YG ⟨(),G1,⟨f1,by omega,by rw [hls];exact p1,kk,λj hj=>?_⟩,λd kx r e y ⟨q0,q1,q7,q10⟩ hk=>?_⟩
    .by_cases hji:j<i
     .exact hno j hji
     .obtain rfl:j=i:=by omega
      rw [hgd];exact hw
    .rw [ak]
     rw [hvL]at q0
     simp only [bq]at hrL z1
     simp only [go_sem,vM,q0,q1,q7,q10,hil,nl,a1,a2,a3,↓hrL,↓z1]
     exact hk _ (by simp only [go_sem,hvL,q0,q1,q7,and_self])
   .rw [hw]at z1
    refine YD ⟨i,G1,⟨f1,by omega,kk,by omega,JS hil (by rw [hgd];exact hw)⟩,λd kx r e y ⟨q0,q1,q7,q10⟩ hk=>?_⟩
    rw [ak]
    rw [hvL]at q0
    simp only [bq]at hrL z1
    simp only [go_sem,vM,q0,q1,q7,q10,hil,nl,a1,a2,↓hrL,↓z1]
    exact hk _ rfl) l.gs.length 0 () H (by omega) ⟨f0,YA _,by rw [show jj (0,0) l.gs 0=(0,0) by cases l.gs<;>rfl];exact g3,λ_ _ _=>rfl,λj hj=>by omega⟩
 have jv:=λ{id:Nat} {k:R}=>aI hv.one (id:=id) (k:=k)
 rcases run with ⟨_,G',⟨f',m',-,k',hno⟩,z⟩|⟨q,G',⟨f',m',k',hq,hy⟩,z⟩
 .refine ⟨G',18446744073709551615,λd k=>?_,f',YG ⟨rfl,P4 hno⟩,k',m'⟩
  rw [aR T.XN rfl rfl]
  simp only [go_sem,W7,↓sn,a0]
  refine z d _ _ _ _ (by omega) ?_ λr e' ⟨q0,q1,q7,q10⟩=>?_
  .simp only [go_sem,and_self]
  .rw [ak]
   simp only [go_sem,vM,q7,q10,nl,Wa]
 .refine ⟨G',q,λd k=>?_,f',YD ⟨hq,hy⟩,k',m'⟩
  rw [aR T.XN rfl rfl]
  simp only [go_sem,W7,↓sn,a0]
  refine z d _ _ _ _ (by omega) ?_ λe' q4=>?_
  .simp only [go_sem,and_self]
  .simp only [go_sem,q4]
end
end Go.Ev
end
section
namespace Go.Ev
open Go.Proofs
variable {cp:RC->ai} {t:Nat->Option cF} {fuel:Nat} {H:Heap} {O:Nat->Prop}
theorem vU (T:aG t) {B3 B1:Nat} {l:Ln} {v:V} {H0:Heap} (f0:ae H0 H) (h0:H0.n<=B3) (hB3:B3<H.n) (hB1:B1<H.n) (hne:B3≠B1) (g3:H.get B3 = .cells (bq (0,0))) (g1:H.get B1 = .cells (du l v)) (hv:Row H0 O v 2 l.gs.length (bz l.gs)) (hn:l.gs.length<1000) (hg:∀ g ∈ l.gs,jm g) (hep:l.ep<18446744073709551616) (hfu:1000<fuel):
 ∃ H',(∀ (d:Nat) (k:K),aj (aQ cp t fuel (d+4)) (.func 152 []) [v,.func 148 [.ptr B3 0,.ptr B1 0]] H k=k (.bool (LU l.ep (0,0) l.gs)) H')/\ae H0 H'/\(∀ j,j<H.n->j≠B3->H'.get j=H.get j):=by
 obtain ⟨G,q,zo,f,hq,k',m'⟩:=Dy (cp:=cp) (fuel:=fuel) T f0 h0 hB3 hB1 hne g3 g1 hv hn hg hep hfu
 have z:=λ{d:Nat} {k:K}=>zo d k
 refine ⟨G,λd k=>?_,f,k'⟩
 rw [aR T.k76 rfl rfl]
 rcases hq with ⟨e,hwr⟩|⟨e,hwr⟩
 .subst e
  have e1:dW (CF.ge 9223372036854775808 18446744073709551616) 18446744073709551615 0=false:=by decide
  simp only [go_sem,c76,↓z,hwr,e1,YN]
 .have e1:q<9223372036854775808:=by omega
  simp only [go_sem,ZE,c76,↓z,hwr,e1,Yd]
theorem DO (T:aG t) {l:Ln} {v:V} (hw:H.wf) (h:Row H O v 2 l.gs.length (bz l.gs)) (hn:l.gs.length<1000) (hg:∀ g ∈ l.gs,jm g) (hep:l.ep<18446744073709551616) (hbf:l.bf<1000) (hfu:1000<fuel):
 ∃ H',(∀ (d:Nat) (k:K),aj (aQ cp t fuel (d+5)) (.func 60 []) [.agg (du l v)] H k=k (.int 3 (Q6 l)) H')/\ae H H':=by
 obtain ⟨G1,hG1,f1,p1,n1⟩:=Heap.aU hw (.cells (du l v))
 have w1:=f1.wf
 obtain ⟨G2,hG2,f2,p2,n2⟩:=Heap.gO (m:=H.n+1) n1 w1 (.cells (bq (0,0)))
 have b2:H.n+1<G2.n:=by omega
 have w2:=f2.wf
 obtain ⟨G3,hG3,f3,p3,n3,w3,k3⟩:=Heap.bd (b:=H.n+1) (f1.trans f2) (by omega) b2 (.cells (bq (0,0)))
 have q1:G3.get H.n = .cells (du l v):=(k3 _ (by omega)).trans ((f2.same _ (by omega)).trans p1)
 obtain ⟨G4,z4o,f4,k4⟩:=vU (cp:=cp) (fuel:=fuel) T f3 (by omega) (by omega) (by omega) (by omega) p3 q1 h hn hg hep hfu
 have z4:=λ{d:Nat} {k:K}=>z4o d k
 have q4:G4.get H.n = .cells (du l v):=(k4 _ (by omega) (by omega)).trans q1
 have sn:=λ{id:Nat} {f:Nat->R}=>h.sn (id:=id) (f:=f)
 have jv:=λ{id:Nat} {k:R}=>aI h.one (id:=id) (k:=k)
 have a1:nn l.gs.length:=by unfold nn;omega
 have a2:nn l.bf:=by unfold nn;omega
 have a3:l.bf<9223372036854775808:=by omega
 have a4:nn 20:=by unfold nn;omega
 have a5:l.gs.length<9223372036854775808:=by omega
 simp only [bq,du]at hG1 hG2 p1 p2 hG3 p3 q1 q4
 by_cases h20:20<l.gs.length
 .refine ⟨G3,λd k=>?_,f3⟩
  rw [aR T.k30 rfl rfl,Q6,if_pos h20]
  simp only [go_sem,c30,du,↓jv,hw,hG1,w1,n1,hG2,p2,w2,b2,hG3,q1,↓sn,a1,a4,a5,h20]
 .refine ⟨G4,λd k=>?_,f4⟩
  rw [aR T.k30 rfl rfl,Q6,if_neg h20]
  rcases hwr:LU l.ep (0,0) l.gs with _|_
  .rw [hwr]at z4
   by_cases hb:l.gs.length<l.bf
   .simp only [go_sem,ZE,c30,du,↓jv,hw,hG1,w1,n1,hG2,p2,w2,b2,hG3,q1,↓sn,a1,a2,a4,a5,WY,h20,↓z4,q4,hb,YN,false_or]
   .simp only [go_sem,ZE,c30,du,↓jv,hw,hG1,w1,n1,hG2,p2,w2,b2,hG3,q1,↓sn,a1,a2,a4,a5,WY,h20,↓z4,q4,hb,YN,false_or]
  .rw [hwr]at z4
   simp only [go_sem,c30,du,↓jv,hw,hG1,w1,n1,hG2,p2,w2,b2,hG3,q1,↓sn,a1,a4,a5,h20,↓z4,true_or]
def yV (l:Ln):Nat × Nat × Nat:=(l.ep,l.gs.length,if l.ls=true then 1 else 0)
def tb (r:Nat × Nat × Nat):List V:=[.int 7 r.1,.int 7 r.2.1,.int 7 r.2.2]
theorem zx (T:aG t) {l:Ln} {v:V} (hw:H.wf) (h:Row H O v 2 l.gs.length (bz l.gs)) (hn:l.gs.length<1000):
 ∃ H',(∀ (d:Nat) (k:K),aj (aQ cp t fuel (d+1)) (.func 154 []) [.agg (du l v)] H k=k (.agg (tb (yV l))) H')/\ae H H':=by
 obtain ⟨G1,hG1,f1,p1,n1⟩:=Heap.aU hw (.cells (du l v))
 have w1:=f1.wf
 obtain ⟨G2,hG2,f2,p2,n2⟩:=Heap.gO (m:=H.n+1) n1 w1 (.cells [.int 7 0,.int 7 0,.int 7 0])
 have w2:=f2.wf
 have q2:G2.get H.n = .cells (du l v):=(f2.same _ (by omega)).trans p1
 obtain ⟨G3,hG3,f3,p3,n3⟩:=Heap.gO (m:=H.n+1+1) n2 w2 (.cells [.int 7 0,.int 7 0,.int 7 0])
 have w3:=f3.wf
 have q3:G3.get H.n = .cells (du l v):=(f3.same _ (by omega)).trans q2
 have r3:G3.get (H.n+1) = .cells [.int 7 0,.int 7 0,.int 7 0]:=(f3.same _ (by omega)).trans p2
 have b3:H.n+1+1<G3.n:=by omega
 obtain ⟨G4,hG4,f4,p4,n4,w4,k4⟩:=Heap.bd (b:=H.n+1+1) (f1.trans (f2.trans f3)) (by omega) b3 (.cells [.int 7 l.ep,.int 7 l.gs.length,.int 7 0])
 have q4:G4.get H.n = .cells (du l v):=(k4 _ (by omega)).trans q3
 have b4:H.n+1+1<G4.n:=by omega
 obtain ⟨G5,hG5,f5,p5,n5,w5,k5⟩:=Heap.bd (b:=H.n+1+1) f4 (by omega) b4 (.cells [.int 7 l.ep,.int 7 l.gs.length,.int 7 1])
 have r4:G4.get (H.n+1) = .cells [.int 7 0,.int 7 0,.int 7 0]:=(k4 _ (by omega)).trans r3
 have r5:G5.get (H.n+1) = .cells [.int 7 0,.int 7 0,.int 7 0]:=(k5 _ (by omega)).trans r4
 have c4:H.n+1<G4.n:=by omega
 have c5:H.n+1<G5.n:=by omega
 obtain ⟨G6,hG6,f6,p6,n6,w6,k6⟩:=Heap.bd (b:=H.n+1) f4 (by omega) c4 (.cells [.int 7 l.ep,.int 7 l.gs.length,.int 7 0])
 obtain ⟨G7,hG7,f7,p7,n7,w7,k7⟩:=Heap.bd (b:=H.n+1) f5 (by omega) c5 (.cells [.int 7 l.ep,.int 7 l.gs.length,.int 7 1])
 have sn:=λ{id:Nat} {f:Nat->R}=>h.sn (id:=id) (f:=f)
 have jv:=λ{id:Nat} {k:R}=>aI h.one (id:=id) (k:=k)
 have a1:l.gs.length%18446744073709551616=l.gs.length:=by omega
 have a2:l.gs.length<9223372036854775808:=by omega
 simp only [du]at hG1 p1 q2 q3 q4
 rcases hls:l.ls with _|_
 .refine ⟨G6,λd k=>?_,f6⟩
  rw [aR T.k77 rfl rfl]
  simp only [hls]at hG1 p1 q2 q3 q4
  simp only [go_sem,c77,du,yV,tb,hls,↓jv,hw,hG1,w1,n1,hG2,w2,n2,hG3,q2,↓sn,a1,a2,p3,w3,b3,hG4,q4,p4,r4,w4,c4,hG6,p6,↓dA,YN]
 .refine ⟨G7,λd k=>?_,f7⟩
  rw [aR T.k77 rfl rfl]
  simp only [hls]at hG1 p1 q2 q3 q4
  simp only [go_sem,ZE,c77,du,yV,tb,hls,↓jv,hw,hG1,w1,n1,hG2,w2,n2,hG3,q2,↓sn,a1,a2,p3,w3,b3,hG4,q4,p4,w4,b4,hG5,p5,r5,w5,c5,hG7,p7,↓dA]
end Go.Ev
end
section
namespace Go.Ev
open Go.Proofs
def XR (r s:Nat × Nat × Nat):Bool:=decide (r.1<s.1) || (decide (r.1=s.1) && (decide (r.2.1<s.2.1) || (decide (r.2.1=s.2.1) && decide (r.2.2<s.2.2))))
def okR (r:Nat × Nat × Nat):Prop:=r.1<18446744073709551616/\r.2.1<18446744073709551616/\r.2.2<18446744073709551616
theorem Ph {H:Heap} {b n sz c s:Nat} {l row:List V} (g:H.get b = .cells l) (hb:b<H.n) (hl:row.length=n*sz) (ho:∀ x ∈ row,x.one=true) (e:l.take (n*sz)=row):Row H (λ_=>False) (.slice b 0 n c s) sz n row:=
 ⟨hl,ho,YD ⟨b,0,c,s,l,rfl,YG g,hb,id,by rw [<- hl,<- e,Yp,WJ];exact YN4 ..,by rw [WV];exact e⟩⟩
variable {cp:RC->ai} {t:Nat->Option cF} {fuel:Nat} {H:Heap} {O:Nat->Prop}
theorem xT (T:aG t) {P:Nat->Prop} {n b o c z b' o' c' z':Nat} {v w:V} {x y:List Nat} (hv:v = .slice b o n c z) (hw':w = .slice b' o' n c' z') (hw:H.wf) (hx:Row H O v 1 n (x.map (.int 7))) (hy:Row H P w 1 n (y.map (.int 7))) (lx:x.length=n) (ly:y.length=n) (hn:n<1000) (ox:∀ a ∈ x,a<18446744073709551616) (oy:∀ a ∈ y,a<18446744073709551616) (hfu:1000<fuel):
 ∃ q,(∀ (d:Nat) (k:K),aj (aQ cp t fuel (d+3)) (.func 156 []) [v,w] H k=k (.int 3 q) H)/\((q=0/\∀ i,i<n->jR (x.getD i 0) (y.getD i 0)=0)\/∃ i,i<n/\(∀ j,j<i->jR (x.getD j 0) (y.getD j 0)=0)/\jR (x.getD i 0) (y.getD i 0)≠0/\q=jR (x.getD i 0) (y.getD i 0)):=by
 have nl:nn n:=by unfold nn;omega
 have s1:=λ{id:Nat} {f:Nat->R}=>hx.sn (id:=id) (f:=f)
 have s2:=λ{id:Nat} {f:Nat->R}=>hy.sn (id:=id) (f:=f)
 have j1:=λ{id:Nat} {k:R}=>aI hx.one (id:=id) (k:=k)
 have j2:=λ{id:Nat} {k:R}=>aI hy.one (id:=id) (k:=k)
 have a0:n<9223372036854775808:=by omega
 have run:=iI (c:=CJ) (fuel:=fuel) (ph:=λd=>aQ cp t fuel (d+2)) (σ:=Unit) (τ:=Nat) (n:=n)
  (I:=λi _ G=>G=H/\∀ j,j<i->jR (x.getD j 0) (y.getD j 0)=0)
  (S:=λi _ e=>aa s000 e=v/\aa s001 e=w/\aa s011 e=v/\aa s012 e = .int 3 n/\aa s013 e = .int 3 i)
  (J:=λq G=>G=H/\∃ i,i<n/\(∀ j,j<i->jR (x.getD j 0) (y.getD j 0)=0)/\jR (x.getD i 0) (y.getD i 0)≠0/\q=jR (x.getD i 0) (y.getD i 0)) (Q:=λq e=>aa s004 e = .int 3 q) (j:=λ_=>0) (λi _ G hil ⟨hG,hno⟩=>by
   subst hG
   obtain ⟨bL,oL,cL,zL,hvL,hbL,-,hrL⟩:=hx.open hil
   obtain ⟨bR,oR,cR,zR,hvR,hbR,-,hrR⟩:=hy.open hil
   have gx:(x.map (V.int 7))[i*1]? = some (.int 7 (x.getD i 0)):=by
    rw [WO,Yj,YB (by omega),YH,YB (by omega)];rfl
   have gy:(y.map (V.int 7))[i*1]? = some (.int 7 (y.getD i 0)):=by
    rw [WO,Yj,YB (by omega),YH,YB (by omega)];rfl
   have hrL:=λ{id:Nat} {k:V->R}=>(hrL (G:=G) rfl).2 gx (id:=id) (k:=k)
   have hrR:=λ{id:Nat} {k:V->R}=>(hrR (G:=G) rfl).2 gy (id:=id) (k:=k)
   simp only [WO]at hrL hrR
   have bx:x.getD i 0<18446744073709551616:=by
    rw [YH,YB (by omega)];exact ox _ (Yl _)
   have bY:y.getD i 0<18446744073709551616:=by
    rw [YH,YB (by omega)];exact oy _ (Yl _)
   have z1:=λ{d:Nat} {k:K}=>vQ (cp:=cp) (fuel:=fuel) (H:=G) T bx bY d k
   have a1:nn i:=by unfold nn;omega
   have a2:i<9223372036854775808:=by omega
   have a3:(i+1)%18446744073709551616=i+1:=by omega
   have hle:¬ n<=i:=by omega
   by_cases hz:jR (x.getD i 0) (y.getD i 0)=0
   .refine YG ⟨(),G,⟨rfl,λj hj=>?_⟩,λd kx r e z ⟨q0,q1,q11,q12,q13⟩ hk=>?_⟩
    .by_cases hji:j<i
     .exact hno j hji
     .obtain rfl:j=i:=by omega
      exact hz
    .rw [ak]
     rw [hvL]at q0 q11
     rw [hvR]at q1
     simp only [go_sem,CJ,q1,q11,q12,q13,hil,nl,a0,a1,a2,a3,↓hrL,↓hrR,↓z1,hz,hle]
     exact hk _ (by simp only [go_sem,hvL,hvR,q0,q1,q11,q12,and_self])
   .refine YD ⟨jR (x.getD i 0) (y.getD i 0),G,⟨rfl,i,hil,hno,hz,rfl⟩,λd kx r e z ⟨q0,q1,q11,q12,q13⟩ hk=>?_⟩
    rw [ak]
    rw [hvL]at q0 q11
    rw [hvR]at q1
    simp only [go_sem,CJ,q1,q11,q12,q13,hil,nl,a0,a1,a2,↓hrL,↓hrR,↓z1,hz,hle,not_false_eq_true]
    exact hk _ rfl) n 0 () H (by omega) ⟨rfl,λj hj=>by omega⟩
 rcases run with ⟨_,G',⟨hG,hno⟩,z⟩|⟨q,G',⟨hG,hq⟩,z⟩
 .subst hG
  refine ⟨0,λd k=>?_,YG ⟨rfl,hno⟩⟩
  rw [aR T.k78 rfl rfl]
  simp only [go_sem,ZE,c78,↓s1,a0]
  refine z d _ _ _ _ (by omega) ?_ λr e' ⟨q0,q1,q11,q12,q13⟩=>?_
  .simp only [go_sem,and_self]
  .rw [ak]
   simp only [go_sem,ZE,CJ,q0,q1,q12,q13,nl,Wa,hv,hw',a0]
 .subst hG
  refine ⟨q,λd k=>?_,YD hq⟩
  rw [aR T.k78 rfl rfl]
  simp only [go_sem,ZE,c78,↓s1,a0]
  refine z d _ _ _ _ (by omega) ?_ λe' q4=>?_
  .simp only [go_sem,and_self]
  .simp only [go_sem,q4]
theorem uP {a b:Nat}:(jR a b=0)=(a=b):=by
 apply propext
 rcases rN a b with ⟨h,h'⟩|⟨h,h'⟩|⟨h,h'⟩<;>rw [h]<;>constructor<;>intro _<;>omega
theorem xS (T:aG t) {P:Nat->Prop} {b o c z b' o' c' z':Nat} {r s:Nat × Nat × Nat} (hw:H.wf) (hx:Row H O (.slice b o 3 c z) 1 3 (tb r)) (hy:Row H P (.slice b' o' 3 c' z') 1 3 (tb s)) (hr:okR r) (hs:okR s) (hfu:1000<fuel):
 ∃ q,(∀ (d:Nat) (k:K),aj (aQ cp t fuel (d+3)) (.func 156 []) [.slice b o 3 c z,.slice b' o' 3 c' z'] H k=k (.int 3 q) H)/\dW (.lt 9223372036854775808 18446744073709551616) q 0=XR r s:=by
 obtain ⟨r1,r2,r3⟩:=r
 obtain ⟨s1,s2,s3⟩:=s
 obtain ⟨o1,o2,o3⟩:=hr
 obtain ⟨u1,u2,u3⟩:=hs
 obtain ⟨q,z,hq⟩:=xT (cp:=cp) (fuel:=fuel) (x:=[r1,r2,r3]) (y:=[s1,s2,s3]) T rfl rfl hw hx hy rfl rfl (by omega) (by simp;exact ⟨o1,o2,o3⟩) (by simp;exact ⟨u1,u2,u3⟩) hfu
 refine ⟨q,z,?_⟩
 have lt1:dW (.lt 9223372036854775808 18446744073709551616) 18446744073709551615 0=true:=by decide
 have lt2:dW (.lt 9223372036854775808 18446744073709551616) 1 0=false:=by decide
 have lt3:dW (.lt 9223372036854775808 18446744073709551616) 0 0=false:=by decide
 have key:∀ a b,jR a b≠0->dW (.lt 9223372036854775808 18446744073709551616) (jR a b) 0=decide (a<b):=λa b h=>by
  rcases rN a b with ⟨g,g'⟩|⟨g,g'⟩|⟨g,g'⟩
  .rw [g,lt1,decide_eq_true g']
  .rw [g,lt2];symm;exact decide_eq_false (by omega)
  .exact absurd g h
 unfold XR
 rcases hq with ⟨e,h⟩|⟨i,hi,hb,hne,e⟩
 .have h1:=h 0 (by omega)
  have h2:=h 1 (by omega)
  have h3:=h 2 (by omega)
  simp [uP]at h1 h2 h3
  subst h1 h2 h3
  rw [e,lt3];simp
 .subst e
  rw [key _ _ hne]
  match i,hi with
  | 0,_=>
   simp [uP]at hne ⊢
   intro h;exact absurd h hne
  | 1,_=>
   have h1:=hb 0 (by omega)
   simp [uP]at h1 hne ⊢
   subst h1
   simp
   intro h;exact absurd h hne
  | 2,_=>
   have h1:=hb 0 (by omega)
   have h2:=hb 1 (by omega)
   simp [uP]at h1 h2 hne ⊢
   subst h1 h2
   simp
end Go.Ev
end
section
namespace Go.Ev
open Go.Proofs
theorem aeZ {g h:Nat × Nat × Nat} (e:g=h) {id} {f}:jU id [1,1,1] [.int 7 g.1,.int 7 g.2.1,.int 7 g.2.2] [.int 7 h.1,.int 7 h.2.1,.int 7 h.2.2] f=f true:=by
 subst e
 simp only [cA,dK,if_true]
theorem abc {g h:Nat × Nat × Nat} (e:¬ g=h) {id} {f}:jU id [1,1,1] [.int 7 g.1,.int 7 g.2.1,.int 7 g.2.2] [.int 7 h.1,.int 7 h.2.1,.int 7 h.2.2] f=f false:=by
 obtain ⟨g1,g2,g3⟩:=g
 obtain ⟨h1,h2,h3⟩:=h
 by_cases e1:g1=h1<;>by_cases e2:g2=h2<;>by_cases e3:g3=h3<;>simp_all [cA]
theorem Ok {r}:XR r r=false:=by unfold XR;simp
def pO (a b:Ln):Ln:=if XR (yV a) (yV b)=true then b else a
variable {cp:RC->ai} {t:Nat->Option cF} {fuel:Nat} {H:Heap} {O:Nat->Prop}
theorem Og {l:Ln} (h1:l.ep<18446744073709551616) (h2:l.gs.length<1000):okR (yV l):=⟨h1,by show l.gs.length<_;omega,by show (if l.ls=true then 1 else 0)<_;split<;>omega⟩
theorem C2 {r}:∀ x ∈ tb r,x.one=true:=λx hx=>by
 simp only [tb,YP,YO0,or_false]at hx
 rcases hx with h|h|h<;>subst h<;>rfl
theorem GZ (T:aG t) {a b:Ln} {va vb:V} (hw:H.wf) (ha:Row H O va 2 a.gs.length (bz a.gs)) (hb:Row H O vb 2 b.gs.length (bz b.gs)) (na:a.gs.length<1000) (nb:b.gs.length<1000) (ea:a.ep<18446744073709551616) (eb:b.ep<18446744073709551616) (hfu:1000<fuel):
 ∃ H' v',(∀ (d:Nat) (k:K),aj (aQ cp t fuel (d+4)) (.func 62 []) [.agg (du a va),.agg (du b vb)] H k=k (.agg (du (pO a b) v')) H')/\ae H H'/\Own H H' v' 2 (pO a b).gs.length (bz (pO a b).gs):=by
 obtain ⟨G1,hG1,f1,p1,n1⟩:=Heap.aU hw (.cells (du a va))
 have w1:=f1.wf
 obtain ⟨G2,hG2,f2,p2,n2⟩:=Heap.gO (m:=H.n+1) n1 w1 (.cells (du b vb))
 have w2:=f2.wf
 obtain ⟨G3,hG3,f3,p3,n3⟩:=Heap.gO (m:=H.n+1+1) n2 w2 (.cells [.int 7 0,.int 3 0,.bool false,.aB])
 have w3:=f3.wf
 have A3:G3.get H.n = .cells (du a va):=(f3.same _ (by omega)).trans ((f2.same _ (by omega)).trans p1)
 have B3:G3.get (H.n+1) = .cells (du b vb):=(f3.same _ (by omega)).trans p2
 have f03:=f1.trans (f2.trans f3)
 have wm3:G3.mark.wf:=by rw [Heap.dV];exact w3
 obtain ⟨G4x,G4,z4o,hu4,hl4,f4⟩:=qO (zx (cp:=cp) (fuel:=fuel) T wm3 ((ha.fresh f03).fresh (ae.DW w3)) na)
 have z4:=λ{d:Nat} {k:K}=>z4o (d+2) k
 have w4:=f4.wf
 have m4:=f4.n
 have A4:=(f4.same _ (by omega)).trans A3
 have B4:=(f4.same _ (by omega)).trans B3
 obtain ⟨G5,z5o,f5⟩:=zx (cp:=cp) (fuel:=fuel) T w4 ((hb.fresh f03).fresh f4) nb
 have z5:=λ{d:Nat} {k:K}=>z5o (d+2) k
 have w5:=f5.wf
 have m5:=f5.n
 have A5:=(f5.same _ (by omega)).trans A4
 have B5:=(f5.same _ (by omega)).trans B4
 obtain ⟨G6,hG6,f6,p6,n6⟩:=Heap.aU w5 (.cells [.int 7 0,.int 7 0,.int 7 0])
 have w6:=f6.wf
 obtain ⟨G7,hG7,f7,p7,n7⟩:=Heap.aU w6 (.cells [.int 7 0,.int 7 0,.int 7 0])
 have w7:=f7.wf
 have p67:=(f7.same G5.n (by omega)).trans p6
 have b7:G5.n<G7.n:=by omega
 have f05:=f03.trans (f4.trans f5)
 have f37:=f4.trans (f5.trans (f6.trans f7))
 obtain ⟨G8,hG8,f8,p8,n8,w8,k8⟩:=Heap.bd (b:=G5.n) (f6.trans f7) (YA _) b7 (.cells (tb (yV a)))
 have p78:=(k8 G6.n (by omega)).trans p7
 have b8:G6.n<G8.n:=by omega
 obtain ⟨G9,hG9,f9,p9,n9,w9,k9⟩:=Heap.bd (b:=G6.n) f8 (by omega) b8 (.cells (tb (yV b)))
 have p89:=(k9 G5.n (by omega)).trans p8
 have A9:=(f9.same H.n (by omega)).trans A5
 have B9:=(f9.same (H.n+1) (by omega)).trans B5
 have R9:G9.get (H.n+1+1) = .cells [.int 7 0,.int 3 0,.bool false,.aB]:=(f9.same _ (by omega)).trans ((f5.same _ (by omega)).trans ((f4.same _ (by omega)).trans p3))
 have rx:Row G9 (λ_=>False) (.slice G5.n 0 3 4 0) 1 3 (tb (yV a)):=Ph p89 (by omega) rfl C2 rfl
 have ry:Row G9 (λ_=>False) (.slice G6.n 0 3 4 0) 1 3 (tb (yV b)):=Ph p9 (by omega) rfl C2 rfl
 obtain ⟨q,zqo,hq⟩:=xS (cp:=cp) (fuel:=fuel) T w9 rx ry (Og ea na) (Og eb nb) hfu
 have zq:=λ{d:Nat} {k:K}=>zqo d k
 have f09:=f05.trans f9
 have b9:H.n<G9.n:=by omega
 obtain ⟨GB,hGB,fB,pB,nB,wB,kB⟩:=Heap.bd (b:=H.n) f09 (YA _) b9 (.cells (du b vb))
 have fin:∀ {l:Ln} {v:V} {G:Heap},ae H G->G9.n<=G.n->G.get H.n = .cells (du l v)->G.get (H.n+1+1) = .cells [.int 7 0,.int 3 0,.bool false,.aB]->Row H O v 2 l.gs.length (bz l.gs)->l.gs.length<1000->
  ∃ G' G'' H' v',(∀ (d:Nat) (k:K),aj (aQ cp t fuel (d+1)) (.func 116 []) [v] G k=k v' G')/\v'.one=true/\v.one=true/\G'.wf/\H.n<G'.n/\G'.get H.n = .cells (du l v)/\G'.put H.n (.cells (du l v'))=G''/\G''.wf/\H.n+1+1<G''.n/\G''.get H.n = .cells (du l v')/\G''.get (H.n+1+1) = .cells [.int 7 0,.int 3 0,.bool false,.aB]/\G''.put (H.n+1+1) (.cells (du l v'))=H'/\H'.get (H.n+1+1) = .cells (du l v')/\ae H H'/\Own H H' v' 2 l.gs.length (bz l.gs):=by
  intro l v G f0 hn g0 gR hr hl
  obtain ⟨G',v',zo,f',o'⟩:=tT (cp:=cp) (fuel:=fuel) T f0.wf (hr.fresh f0) (by omega)
  have m':=f'.n
  have f0':=f0.trans f'
  have bb:H.n<G'.n:=by omega
  obtain ⟨G'',hG'',f'',p'',n'',w'',k''⟩:=Heap.bd (b:=H.n) f0' (YA _) bb (.cells (du l v'))
  have bb':H.n+1+1<G''.n:=by omega
  obtain ⟨H',hH',fH,pH,nH,wH,kH⟩:=Heap.bd (b:=H.n+1+1) f'' (by omega) bb' (.cells (du l v'))
  refine ⟨G',G'',H',v',zo,o'.one,hr.one,f'.wf,bb,(f'.same _ (by omega)).trans g0,hG'',w'',bb',p'',(k'' _ (by omega)).trans ((f'.same _ (by omega)).trans gR),hH',pH,fH,?_⟩
  have a:Own G H' v' 2 l.gs.length (bz l.gs):=(o'.eQ (v:=.slice H.n 0 0 0 0) (by omega) (λj hj ho=>k'' j (ho _ _ _ _ _ rfl)) λb o n c s e b' o' n' c' s' e'=>by cases e';have:=(o'.cO e).1;omega).eQ (v:=.slice (H.n+1+1) 0 0 0 0) (by omega) (λj hj ho=>kH j (ho _ _ _ _ _ rfl)) λb o n c s e b' o' n' c' s' e'=>by cases e';have:=(o'.cO e).1;omega
  exact a.sub (by omega)
 have ja:=λ{id:Nat} {k:R}=>aI ha.one (id:=id) (k:=k)
 have jb:=λ{id:Nat} {k:R}=>aI hb.one (id:=id) (k:=k)
 have nx:∀ {j},(H.n=j)=(j=H.n):=λ{j}=>propext eq_comm
 have heq:yV a=yV b->XR (yV a) (yV b)=false:=λe=>by rw [e,Ok]
 unfold pO
 rcases hlt:XR (yV a) (yV b) with _|_
 .obtain ⟨G',G'',H',v',zo,hv',hv,w',bb,g',hG'',w'',bb',p'',r'',hH',pH,fH,oH⟩:=fin f09 (YA _) A9 R9 ha na
  have z:=λ{d:Nat} {k:K}=>zo (d+2) k
  have jv:=λ{id:Nat} {k:R}=>aI hv' (id:=id) (k:=k)
  rw [hlt]at hq
  refine ⟨H',v',λd k=>?_,fH,by simpa using oH⟩
  rw [aR T.k31 rfl rfl]
  simp only [du,tb]at *
  by_cases e:yV a=yV b
  .have e1:=λ{id:Nat} {f:Bool->R}=>aeZ (id:=id) (f:=f) e
   simp only [go_sem,c31,↓ja,↓jb,hw,hG1,w1,n1,hG2,w2,n2,hG3,A3,↓z4,hu4,hl4,B4,↓z5,w5,hG6,w6,hG7,p67,w7,b7,hG8,p78,w8,b8,hG9,p89,p9,cJ,↓e1,A9,↓z,↓jv,g',w',bb,hG'',p'',r'',w'',bb',hH',↓dA,pH,Wt,YN]
  .have e1:=λ{id:Nat} {f:Bool->R}=>abc (id:=id) (f:=f) e
   simp only [go_sem,c31,↓ja,↓jb,hw,hG1,w1,n1,hG2,w2,n2,hG3,A3,↓z4,hu4,hl4,B4,↓z5,w5,hG6,w6,hG7,p67,w7,b7,hG8,p78,w8,b8,hG9,p89,p9,cJ,↓e1,↓zq,hq,A9,↓z,↓jv,g',w',bb,hG'',p'',r'',w'',bb',hH',↓dA,pH,YN]
 .obtain ⟨G',G'',H',v',zo,hv',hv,w',bb,g',hG'',w'',bb',p'',r'',hH',pH,fH,oH⟩:=fin fB (by omega) pB ((kB _ (by omega)).trans R9) hb nb
  have z:=λ{d:Nat} {k:K}=>zo (d+2) k
  have jv:=λ{id:Nat} {k:R}=>aI hv' (id:=id) (k:=k)
  rw [hlt]at hq
  have e:¬ yV a=yV b:=λe=>by rw [heq e]at hlt;cases hlt
  have e1:=λ{id:Nat} {f:Bool->R}=>abc (id:=id) (f:=f) e
  refine ⟨H',v',λd k=>?_,fH,by simpa using oH⟩
  rw [aR T.k31 rfl rfl]
  simp only [du,tb]at *
  simp only [go_sem,c31,↓ja,↓jb,hw,hG1,w1,n1,hG2,w2,n2,hG3,A3,↓z4,hu4,hl4,B4,↓z5,w5,hG6,w6,hG7,p67,w7,b7,hG8,p78,w8,b8,hG9,p89,p9,cJ,↓e1,↓zq,hq,A9,B9,w9,b9,hGB,pB,↓z,↓jv,g',w',bb,hG'',p'',r'',w'',bb',hH',↓dA,pH,YN]
end Go.Ev
end
section
namespace Go.Ev
open Go.Proofs
def lQ:List Gd->List Gd->Nat
 | a :: x,b :: y=>if a=b then lQ x y+1 else 0
 | _,_=>0
theorem Aw:∀ {x y:List Gd} {i:Nat},i<=x.length->i<=y.length->(∀ j,j<i->x.getD j (0,0)=y.getD j (0,0))->(i=x.length\/i=y.length\/x.getD i (0,0)≠y.getD i (0,0))->lQ x y=i
 | [],y,i,h1,h2,h3,h4=>by
  have:i=0:=by simpa using h1
  rw [this];cases y<;>rfl
 | a :: x,[],i,h1,h2,h3,h4=>by
  have:i=0:=by simpa using h2
  rw [this];rfl
 | a :: x,b :: y,0,h1,h2,h3,h4=>by
  rw [lQ,if_neg]
  simpa using h4
 | a :: x,b :: y,i+1,h1,h2,h3,h4=>by
  have h0:=h3 0 (by omega)
  rw [lQ,if_pos (by simpa using h0),Aw (i:=i) (by simpa using h1) (by simpa using h2) (λj hj=>by simpa using h3 (j+1) (by omega)) (by simpa using h4)]
def Lw (ep:Nat) (l:List Gd):Nat:=(l.takeWhile λg=>!decide (g.1<ep)).length
theorem Iv {ep:Nat}:∀ {l:List Gd} {i:Nat},i<=l.length->(∀ j,j<i->¬ (l.getD j (0,0)).1<ep)->(i=l.length\/(l.getD i (0,0)).1<ep)->Lw ep l=i
 | [],i,h1,h2,h3=>by
  have:i=0:=by simpa using h1
  rw [this];rfl
 | g :: l,0,h1,h2,h3=>by
  have h:g.1<ep:=by simpa using h3
  unfold Lw
  rw [YD1,if_neg (by simpa using h)];rfl
 | g :: l,i+1,h1,h2,h3=>by
  have h:=h2 0 (by omega)
  have ih:=Iv (ep:=ep) (l:=l) (i:=i) (by simpa using h1) (λj hj=>by simpa using h2 (j+1) (by omega)) (by simpa using h3)
  unfold Lw at ih ⊢
  rw [YD1,if_pos (by simpa using h),YF,ih]
def po (x:List Gd) (l:Ln):Nat:=if lQ x l.gs<l.gs.length then lQ x l.gs else lQ x l.gs+Lw l.ep (x.drop (lQ x l.gs))
theorem Ax:∀ {x y:List Gd},lQ x y<=x.length/\lQ x y<=y.length
 | [],y=>by cases y<;>exact ⟨Yd _,Yd _⟩
 | a :: x,[]=>⟨Yd _,Yd _⟩
 | a :: x,b :: y=>by
  have:=Ax (x:=x) (y:=y)
  rw [lQ]
  split
  .simp only [YF];omega
  .simp only [YF];omega
theorem wh:∀ {l:List Gd} {k:Nat},(bz l).drop (k*2)=bz (l.drop k)
 | l,0=>by simp
 | [],k+1=>by simp [bz]
 | g :: l,k+1=>by
  rw [List.drop_succ_cons,<- wh (l:=l) (k:=k),show (k+1)*2=2+k*2 by omega,<- List.drop_drop]
  rfl
theorem Jh {l:List Gd}:∀ x ∈ bz l,x.one=true:=λx hx=>by
 obtain ⟨g,_,hg⟩:=YG4.1 hx
 simp only [bq,YP,YO0,or_false]at hg
 rcases hg with h|h<;>subst h<;>rfl
def M9 (v:V) (k:Nat):V:=match v with
 | .slice b o n c s=>if c=0 then .slice b (o+k * 2) (n-k) 0 s else if c-1=k then .slice b o (n-k) 1 0 else .slice b (o+k * 2) (n-k) (c-1-k+1) 0
 | v=>v
theorem Kc {H:Heap} {b c s k:Nat} {x:List Gd} {rest:List V} (g:H.get b = .cells (bz x ++ rest)) (hb:b<H.n) (hk:k<=x.length) (hc:c=0\/c=x.length+1):Row H (λ_=>False) (M9 (.slice b 0 x.length c s) k) 2 (x.length-k) (bz (x.drop k)):=by
 have hl:(bz (x.drop k)).length=(x.length-k)*2:=by rw [pJ,WU]
 have key:∀ {c' s'},Row H (λ_=>False) (.slice b (0+k*2) (x.length-k) c' s') 2 (x.length-k) (bz (x.drop k)):=λ{c' s'}=>
  ⟨hl,Jh,YD ⟨b,0+k*2,c',s',_,rfl,YG g,hb,id,by rw [YC,pJ];omega,by
   rw [WJ,List.drop_append_of_le_length (by rw [pJ];omega),wh,<- hl,YJ3]⟩⟩
 unfold M9
 simp only
 split
 .exact key
 .split
  .obtain rfl:k=x.length:=by omega
   exact ⟨hl,Jh,YG ⟨YD ⟨b,0,1,0,by rw [Nat.sub_self]⟩,Nat.sub_self _⟩⟩
  .exact key
variable {cp:RC->ai} {t:Nat->Option cF} {fuel:Nat} {H:Heap} {O:Nat->Prop}
theorem CV (T:aG t) {P:Nat->Prop} {v w:V} {x:List Gd} {l:Ln} (hw:H.wf) (hx:Row H O v 2 x.length (bz x)) (hy:Row H P w 2 l.gs.length (bz l.gs)) (nx:x.length<1000) (ny:l.gs.length<1000) (hfu:1000<fuel):
 ∃ H',(∀ (d:Nat) (k:K),aj (aQ cp t fuel (d+1)) (.func 118 []) [v,.agg (du l w)] H k=k (.int 3 (lQ x l.gs)) H')/\ae H H':=by
 obtain ⟨G,hG,f1,p1,n1⟩:=Heap.aU hw (.cells (du l w))
 have w1:=f1.wf
 have hx1:=hx.fresh f1
 have hy1:=hy.fresh f1
 have s1:=λ{id:Nat} {f:Nat->R}=>hx.sn (id:=id) (f:=f)
 have s2:=λ{id:Nat} {f:Nat->R}=>hy.sn (id:=id) (f:=f)
 have j1:=λ{id:Nat} {k:R}=>aI hx.one (id:=id) (k:=k)
 have j2:=λ{id:Nat} {k:R}=>aI hy.one (id:=id) (k:=k)
 have a1:nn x.length:=by unfold nn;omega
 have a2:nn l.gs.length:=by unfold nn;omega
 have a3:x.length<9223372036854775808:=by omega
 have a4:l.gs.length<9223372036854775808:=by omega
 have hm:G.mark.wf:=by rw [Heap.dV];exact w1
 obtain ⟨n,hn,hn1,hn2⟩:∃ n,n=min x.length l.gs.length/\n<=x.length/\n<=l.gs.length:=⟨_,rfl,Nat.min_le_left ..,YN4 ..⟩
 have nl:nn n:=by unfold nn;omega
 have run:=iI (c:=CE) (fuel:=fuel) (ph:=λd=>aQ cp t fuel d) (σ:=Unit) (τ:=Nat) (n:=n)
  (I:=λi _ X=>X=G/\∀ j,j<i->x.getD j (0,0)=l.gs.getD j (0,0))
  (S:=λi _ e=>aa s000 e=v/\aa s003 e = .ptr H.n 0/\aa s015 e = .int 3 n/\aa s016 e = .int 3 i/\aa s005 e = .int 3 n)
  (J:=λq X=>X=G/\q=lQ x l.gs) (Q:=λq e=>aa s004 e = .int 3 q) (j:=λ_=>0) (λi _ X hil ⟨hX,hno⟩=>by
   subst hX
   have hil1:i<x.length:=by omega
   have hil2:i<l.gs.length:=by omega
   have gx:x[i]? = some (x.getD i (0,0)):=by rw [YH,YB hil1];rfl
   have gy:l.gs[i]? = some (l.gs.getD i (0,0)):=by rw [YH,YB hil2];rfl
   obtain ⟨bL,oL,cL,zL,hvL,hbL,-,hrL⟩:=hx1.open hil1
   obtain ⟨bR,oR,cR,zR,hvR,hbR,-,hrR⟩:=hy1.open hil2
   rw [lV gx]at hrL
   rw [lV gy]at hrR
   have hrL:=λ{id:Nat} {k:List V->R}=>(hrL (G:=X) rfl).1 (id:=id) (k:=k)
   have hrR:=λ{id:Nat} {k:List V->R}=>(hrR (G:=X) rfl).1 (id:=id) (k:=k)
   have b1:i<9223372036854775808:=by omega
   have b2:(i+1)%18446744073709551616=i+1:=by omega
   have b3:nn i:=by unfold nn;omega
   simp only [du]at p1
   generalize hga:x.getD i (0,0)=ga at *
   generalize hgb:l.gs.getD i (0,0)=gb at *
   simp only [bq]at hrL hrR
   by_cases hab:ga=gb
   .have eq1:=λ{id:Nat} {f:Bool->R}=>abb (id:=id) (f:=f) hab
    refine YG ⟨(),X,⟨rfl,λj hj=>?_⟩,λd kx r e z ⟨q0,q3,q15,q16,q5⟩ hk=>?_⟩
    .by_cases hji:j<i
     .exact hno j hji
     .obtain rfl:j=i:=by omega
      rw [hga,hgb];exact hab
    .rw [ak]
     rw [hvL]at q0
     rw [hvR]at p1
     simp only [go_sem,CE,q0,q3,q15,q16,p1,nl,hil,hil1,hil2,b1,b2,b3,↓hrL,↓hrR,cJ,↓eq1,Wt,YN]
     exact hk _ (by simp only [go_sem,hvL,q0,q3,q15,q5,and_self])
   .have eq1:=λ{id:Nat} {f:Bool->R}=>aeY (id:=id) (f:=f) hab
    refine YD ⟨i,X,⟨rfl,(Aw (by omega) (by omega) hno (YD (YD (by rw [hga,hgb];exact hab)))).symm⟩,λd kx r e z ⟨q0,q3,q15,q16,q5⟩ hk=>?_⟩
    rw [ak]
    rw [hvL]at q0
    rw [hvR]at p1
    simp only [go_sem,CE,q0,q3,q15,q16,p1,nl,hil,hil1,hil2,b1,b2,b3,↓hrL,↓hrR,cJ,↓eq1]
    exact hk _ rfl) n 0 () G (by omega) ⟨rfl,λj hj=>by omega⟩
 have p1':=p1
 simp only [du]at hG p1'
 rcases run with ⟨_,G',⟨hG',hno⟩,z⟩|⟨q,G',⟨hG',hq⟩,z⟩
 .subst hG'
  have hc:lQ x l.gs=n:=Aw hn1 hn2 hno (by omega)
  refine ⟨G',λd k=>?_,f1⟩
  rw [aR T.k59 rfl rfl,hc]
  simp only [go_sem,c59,du,↓j2,hw,hG,p1',↓s1,↓s2,a1,a2,a3,a4,<- hn]
  refine z d _ _ _ _ (by omega) ?_ λr e' ⟨q0,q3,q15,q16,q5⟩=>?_
  .simp only [go_sem,and_self]
  .rw [ak]
   simp only [go_sem,CE,q15,q16,q5,nl,Wa]
 .subst hG'
  refine ⟨G',λd k=>?_,f1⟩
  rw [aR T.k59 rfl rfl,<- hq]
  simp only [go_sem,c59,du,↓j2,hw,hG,p1',↓s1,↓s2,a1,a2,a3,a4,<- hn]
  refine z d _ _ _ _ (by omega) ?_ λe' q4=>?_
  .simp only [go_sem,and_self]
  .simp only [go_sem,q4]
end Go.Ev
end
section
namespace Go.Ev
open Go.Proofs
variable {cp:RC->ai} {t:Nat->Option cF} {fuel:Nat} {H:Heap} {O:Nat->Prop}
theorem xC {v' w:V} {y:List Gd} {l:Ln} {n:Nat} {H0 G:Heap} {B:Nat} (f0:ae H0 G) (hB:B<G.n) (g:G.get B = .cells (du l w)) (hy:Row G (λ_=>False) v' 2 y.length (bz y)) (nx:n+y.length<1000) (hg:∀ g ∈ y,jm g) (hep:l.ep<18446744073709551616) (hfu:1000<fuel) (ph:Nat->cW):
 ∃ G',ae H0 G'/\∀ (d:Nat) (kx:Nat->KE) (e:Env) (z:R),aa s003 e = .ptr B 0->aa s005 e = .int 3 n->aa s023 e=v'->aa s024 e = .int 3 y.length->aa s025 e = .int 3 0->
  (∀ e',aa s005 e' = .int 3 (n+Lw l.ep y)->kx 1 e' G'=z)->jF yq fuel (ph d) kx fuel e G=z:=by
 have nl:nn y.length:=by unfold nn;omega
 have run:=iI (c:=yq) (fuel:=fuel) (ph:=ph) (σ:=Unit) (τ:=Nat) (n:=y.length)
  (I:=λi _ X=>ae H0 X/\ae G X/\∀ j,j<i->¬ (y.getD j (0,0)).1<l.ep)
  (S:=λi _ e=>aa s003 e = .ptr B 0/\aa s005 e = .int 3 (n+i)/\aa s023 e=v'/\aa s024 e = .int 3 y.length/\aa s025 e = .int 3 i)
  (J:=λq X=>ae H0 X/\q=n+Lw l.ep y) (Q:=λq e=>aa s005 e = .int 3 q) (j:=λ_=>1) (λi _ X hil ⟨f,fX,hno⟩=>by
   have gy:y[i]? = some (y.getD i (0,0)):=by rw [YH,YB hil];rfl
   have hgo:=hg _ (YY gy)
   have hy1:=hy.fresh fX
   obtain ⟨bR,oR,cR,zR,hvR,hbR,-,hrR⟩:=hy1.open hil
   rw [lV gy]at hrR
   have hrR:=λ{id:Nat} {k:List V->R}=>(hrR (G:=X) rfl).1 (id:=id) (k:=k)
   have w:=f.wf
   have mX:=fX.n
   obtain ⟨X1,hX1,f1,p1,n1⟩:=Heap.aU w (.cells (bq (0,0)))
   have w1:=f1.wf
   have b1:X.n<X1.n:=by omega
   obtain ⟨X2,hX2,f2,p2,n2,w2,k2⟩:=Heap.bd (b:=X.n) f1 (YA _) b1 (.cells (bq (y.getD i (0,0))))
   have f02:=f.trans f2
   have fX2:=fX.trans f2
   have gB:=(fX2.same _ hB).trans g
   have c1:i<9223372036854775808:=by omega
   have c2:(i+1)%18446744073709551616=i+1:=by omega
   have c3:nn i:=by unfold nn;omega
   have c4:(n+i+1)%18446744073709551616=n+i+1:=by omega
   have lt:=wX hgo.1 hep
   simp only [du]at gB
   generalize hga:y.getD i (0,0)=ga at *
   simp only [bq]at hrR hX1 hX2 p1 p2
   by_cases hlt:ga.1<l.ep
   .refine YD ⟨n+i,X2,⟨f02,by rw [Iv (i:=i) (by omega) hno (YD (by rw [hga];exact hlt))]⟩,λd kx r e z ⟨q3,q5,q23,q24,q25⟩ hk=>?_⟩
    rw [ak]
    rw [hvR]at q23
    simp only [go_sem,yq,q3,q23,q24,q25,nl,hil,c1,c3,↓hrR,w,hX1,p1,w1,b1,hX2,p2,gB,lt,hlt]
    exact hk _ q5
   .refine YG ⟨(),X2,⟨f02,fX2,λj hj=>?_⟩,λd kx r e z ⟨q3,q5,q23,q24,q25⟩ hk=>?_⟩
    .by_cases hji:j<i
     .exact hno j hji
     .obtain rfl:j=i:=by omega
      rw [hga];exact hlt
    .rw [ak]
     rw [hvR]at q23
     simp only [go_sem,yq,q3,q5,q23,q24,q25,nl,hil,c1,c2,c3,c4,↓hrR,w,hX1,p1,w1,b1,hX2,p2,gB,lt,hlt]
     exact hk _ (by simp only [go_sem,hvR,q3,q23,q24,Wh,and_self])) y.length 0 () G (by omega) ⟨f0,ae.refl f0.wf,λj hj=>by omega⟩
 rcases run with ⟨_,G',⟨f',-,hno⟩,z⟩|⟨q,G',⟨f',hq⟩,z⟩
 .refine ⟨G',f',λd kx e x q3 q5 q23 q24 q25 hk=>?_⟩
  refine z d kx fuel e x (by omega) ⟨q3,q5,q23,q24,q25⟩ λr e' ⟨q3,q5,q23,q24,q25⟩=>?_
  rw [ak]
  simp only [go_sem,yq,q24,q25,nl,Wa]
  exact hk _ (by simp only [go_sem,q5,Iv (YA _) hno (YG rfl)])
 .refine ⟨G',f',λd kx e x q3 q5 q23 q24 q25 hk=>?_⟩
  exact z d kx fuel e x (by omega) ⟨q3,q5,q23,q24,q25⟩ λe' q=>hk e' (by rw [q,hq])
theorem Ir (T:aG t) {P:Nat->Prop} {v w:V} {x:List Gd} {l:Ln} {Hb:Heap} (hw:H.wf) (hx:Own Hb H v 2 x.length (bz x)) (hy:Row H P w 2 l.gs.length (bz l.gs)) (nx:x.length<1000) (ny:l.gs.length<1000) (hg:∀ g ∈ x,jm g) (hep:l.ep<18446744073709551616) (hfu:1000<fuel):
 ∃ H',(∀ (d:Nat) (k:K),aj (aQ cp t fuel (d+2)) (.func 50 []) [v,.agg (du l w)] H k=k (.int 3 (po x l)) H')/\ae H H':=by
 obtain ⟨G1,hG1,f1,p1,n1⟩:=Heap.aU hw (.cells (du l w))
 have w1:=f1.wf
 obtain ⟨G2,z2o,f2⟩:=CV (cp:=cp) (fuel:=fuel) (x:=x) (l:=l) T w1 ((hx.toRow (O:=λ_=>False) λb h=>h.elim).fresh f1) (hy.fresh f1) nx ny hfu
 have z2:=λ{d:Nat} {k:K}=>z2o d k
 have f02:=f1.trans f2
 have p2:=(f2.same H.n (by omega)).trans p1
 have m2:=f2.n
 obtain ⟨hc1,hc2⟩:=Ax (x:=x) (y:=l.gs)
 have s2:=λ{id:Nat} {f:Nat->R}=>hy.sn (id:=id) (f:=f)
 have j1:=λ{id:Nat} {k:R}=>aI hx.one (id:=id) (k:=k)
 have j2:=λ{id:Nat} {k:R}=>aI hy.one (id:=id) (k:=k)
 have a2:nn l.gs.length:=by unfold nn;omega
 have a4:l.gs.length<9223372036854775808:=by omega
 unfold po
 generalize hcn:lQ x l.gs=c at *
 have a1:nn c:=by unfold nn;omega
 simp only [du]at hG1 p1 p2 z2
 by_cases hlt:c<l.gs.length
 .refine ⟨G2,λd k=>?_,f02⟩
  rw [aR T.k25 rfl rfl,if_pos hlt]
  simp only [go_sem,ZR,du,↓j2,hw,hG1,p1,↓z2,p2,↓s2,a1,a2,a4,hlt]
 .rw [if_neg hlt]
  obtain ⟨e1,e2,⟨ev,e0⟩|⟨b,cc,s,rest,ev,hb,hcc,hb0,hbn⟩⟩:=hx
  .have hx0:x=[]:=List.length_eq_zero_iff.1 e0
   subst hx0
   obtain rfl:c=0:=by simpa using hc1
   have e3:l.gs.length=0:=by omega
   obtain ⟨G3,f3,z3⟩:=xC (l:=l) (w:=w) (v':=.aB) (y:=[]) (n:=0) (B:=H.n) f02 (by omega) (by rw [p2];rfl) ⟨by simp [bz],λx hx=>(by cases hx),YG ⟨YG rfl,rfl⟩⟩ (by simp) (by simp) hep hfu λd=>aQ cp t fuel (d+1)
   refine ⟨G3,λd k=>?_,f3⟩
   rw [ev]at z2
   rw [aR T.k25 rfl rfl,ev]
   simp only [go_sem,ZE,ZR,du,↓j2,hw,hG1,p1,↓z2,p2,↓s2,a1,a2,a4,hlt]
   refine z3 d _ _ _ rfl rfl rfl (by simp only [go_sem,YM]) rfl λe' q=>?_
   simp only [go_sem,q]
  .have hb2:G2.get b = .cells (bz x ++ rest):=((f1.trans f2).same b hbn).trans hb
   have hro:=Kc (H:=G2) (s:=s) hb2 (by omega) hc1 (c:=cc) (by omega)
   obtain ⟨G3,f3,z3⟩:=xC (l:=l) (w:=w) (y:=x.drop c) (n:=c) (B:=H.n) f02 (by omega) (by rw [p2];rfl) (by rw [WU];exact hro) (by rw [WU];omega) (λg h=>hg g (List.mem_of_mem_drop h)) hep hfu λd=>aQ cp t fuel (d+1)
   refine ⟨G3,λd k=>?_,f3⟩
   rw [aR T.k25 rfl rfl]
   rw [ev]at z2 ⊢
   have a5:x.length<9223372036854775808:=by omega
   have a6:x.length-c<9223372036854775808:=by omega
   have a7:c<9223372036854775808:=by omega
   unfold M9 at z3
   simp only [WU]at z3
   rcases hcc with hcc|⟨hcc,hs,hr⟩
   .have c1:¬ cc=0:=by omega
    have c2:x.length<=cc-1:=by omega
    by_cases c3:cc-1=c
    .rw [c3]at c2
     simp only [c1,c3,if_true,if_false]at z3
     simp only [go_sem,ZR,du,↓j2,hw,hG1,p1,↓z2,p2,↓s2,a1,a2,a4,a6,a7,hlt,hc1,c1,c2,c3]
     refine z3 d _ _ _ ?_ ?_ ?_ ?_ ?_ λe' q=>?_
     all_goals first|(simp only [go_sem];done)|simp only [go_sem,q]
    .simp only [c1,c3,if_false]at z3
     simp only [go_sem,ZR,du,↓j2,hw,hG1,p1,↓z2,p2,↓s2,a1,a2,a4,a6,a7,hlt,hc1,c1,c2,c3]
     refine z3 d _ _ _ ?_ ?_ ?_ ?_ ?_ λe' q=>?_
     all_goals first|(simp only [go_sem];done)|simp only [go_sem,q]
   .subst hcc hs
    simp only [if_true]at z3
    simp only [go_sem,ZR,du,↓j2,hw,hG1,p1,↓z2,p2,↓s2,a1,a2,a4,a6,a7,hlt,hc1]
    refine z3 d _ _ _ ?_ ?_ ?_ ?_ ?_ λe' q=>?_
    all_goals first|(simp only [go_sem];done)|simp only [go_sem,q]
end Go.Ev
end
section
namespace Go.Ev
open Go.Proofs
section
variable {pk:List UInt8->List (List UInt8)} {unpk:List (List UInt8)->Option (List UInt8)} {A:AD} {a n nb:Nat} {us:List Wr} {m:MT}
theorem GR {m:MT} {n:Nat} (h:gk m nb n) (h8:m.live.length=nb) (h1:1<=nb) (h2:nb<=8) (hn:193<=n):iO (eH m).cD nb n:=by
 rcases hn:m.ah.length with _|q
 .rw [l7 hn,h8]
  exact (Oq (b:=nb) (by omega) (by omega)).live
 .have hs:m.ah[q]? = some m.ah[q]:=YB (by omega)
  rw [l5 hs hn]
  exact h.ah.mem (Yl _)
theorem O9 (I:VJ pk A a n us m nb) {q:Nat} (hA:okV (32,0)) (h1:1<=nb) (h2:nb<=8):Cg A m ⟨0,Er {m with tok:=rj } q,[]⟩ nb:=by
 have hs:=I.ok.ah.take q
 have hm2:gk ({m with ah:=m.ah.take q,tok:=rj }:MT) nb A.len:=⟨I.ok.live,by rw [Yp];have:=I.ok.num;omega,hs,sC _ _ _⟩
 have hli:=GR hm2 I.lb h1 h2 I.lo
 have ok1:gk (Er {m with tok:=rj } q) nb A.len:=⟨hli,hm2.num,hs,sC _ _ _⟩
 refine ⟨ok1,ok1.lg I.hi (λs hs=>gh I.Eg s (WN hs)) kF.1 kF.2.1,hli.len,λw hw=>(by cases hw),List.nodup_nil,Yd _,λA' _ hf=>?_,rfl⟩
 have hsn:∀ s ∈ m.ah.take q,∀ p ∈ s.cD,okV (iZ A' p):=λs hs p hp=>by
  have hm:s.cD ∈ dR m:=YI _ (YI _ (Yc.2 ⟨s,WN hs,rfl⟩))
  rw [hf _ hm p hp]
  exact I.vt _ hm p hp
 intro l hl p hp
 rcases YP.1 hl with rfl|hl
 .replace hp:p ∈ (eH {m with ah:=m.ah.take q,tok:=rj }).cD:=hp
  rcases hn:(m.ah.take q).length with _|r
  .rw [l7 hn]at hp
   have:=List.eq_of_mem_replicate hp
   subst this
   unfold iZ
   rw [if_pos rfl]
   exact hA
  .have h1:(m.ah.take q)[r]? = some (m.ah.take q)[r]:=YB (by omega)
   rw [l5 h1 hn]at hp
   exact hsn _ (Yl _) p hp
 rcases YP.1 hl with rfl|hl
 .cases hp
 .obtain ⟨s,hs,rfl⟩:=Yc.1 hl
  exact hsn s hs p hp
end
section
variable {t:Nat->Option cF} {fuel:Nat} {H:Heap} {pk:List UInt8->List (List UInt8)} {unpk:List (List UInt8)->Option (List UInt8)}
variable {dp vp a n nb:Nat} {A:AD} {O:Nat->Prop} {m:MT} {vl vs vi:V} {us:List Wr}
theorem Ia (T:aG t) (hc:bg t) (F:bX pk unpk) (hp:t 123=some (.nat (eD pk))) (S:VP H dp vp a n A O m vl vs vi) (I:VJ pk A a n us m nb) (hf:A.aV=0) (hA:okV (32,0)) (h1:1<=nb) (h2:nb<=8) {q:Nat} (hq:q<=m.ah.length) (hfu:1000000<fuel):
 ∃ H' O',(∀ (d:Nat) (k:K),aj (aQ (aO Tryz.prog) t fuel (d+9)) (.func 146 []) [.ptr vp 0,.int 3 q] H k=k (.int 3 0) H')/\Step H (bM O vp) H' (bM O' vp)/\∃ A' vl' vs' vi' a' n' us',VP H' dp vp a' n' A' O' (Er m q) vl' vs' vi'/\VJ pk A' a' n' us' (Er m q) nb/\A'.aV=0/\∀ X:Nat->Prop,(∀ b,X b->b<H.n)->gj H (λb=>X b\/bM O vp b) m vl vs vi->gj H' (λb=>X b\/bM O' vp b) (Er m q) vl' vs' vi':=by
 have hn:=I.ok.num
 obtain ⟨H',O',z,hd⟩:=yg (q:=q) T hc F hp S (by unfold nn;omega) (λs hs=>by rw [(I.ok.ah.mem hs).len,I.lb]) (by rw [I.lb];omega) (XY S.ok) hfu
 obtain ⟨g1,g2,g3,g4,a',n',us',I'⟩:=(O9 I (q:=q) hA h1 h2).done F I hf
 have em:Er {m with tok:=rj } q=Er m q:=by rw [<- I.tk]
 have hlt:¬ m.ah.length<q:=by omega
 simp only [em]at z hd g1 g2 g3 g4 I'
 obtain ⟨s,D,ho,hn,vl',vs',vi',hgt,hM,hX⟩:=hd
 simp only [hlt,if_false,I6,Q4,g1]at z D hgt hM hX
 exact ⟨H',O',z,s,_,vl',vs',vi',a',n',us',⟨D,I'.jd.off,I'.jd.BD.can,I'.lo,I'.hi,by simpa using hgt,hn,ho,hM,I'.Eg⟩,I',g2,hX⟩
end
end Go.Ev
end
section
namespace Go.Ev
open Go.Proofs
variable {t:Nat->Option cF} {fuel:Nat} {H:Heap} {pk:List UInt8->List (List UInt8)} {unpk:List (List UInt8)->Option (List UInt8)}
variable {dp vp a n nb:Nat} {A:AD} {O:Nat->Prop} {m:MT} {vl vs vi:V} {us:List Wr}
def Fz (pk:List UInt8->List (List UInt8)) (H H':Heap) (dp vp nb:Nat) (O O':Nat->Prop) (m:MT) (vl vs vi:V) (ss:List Sn):Prop:=
 Step H (bM O vp) H' (bM O' vp)/\∃ A' m' vl' vs' vi' a' n' us',m'.ah=ss/\VP H' dp vp a' n' A' O' m' vl' vs' vi'/\VJ pk A' a' n' us' m' nb/\A'.aV=0/\∀ X:Nat->Prop,(∀ b,X b->b<H.n)->gj H (λb=>X b\/bM O vp b) m vl vs vi->gj H' (λb=>X b\/bM O' vp b) m' vl' vs' vi'
theorem Fz.before {H0 H':Heap} {O':Nat->Prop} {ss:List Sn} (f:ae H0 H) (h:Fz pk H H' dp vp nb O O' m vl vs vi ss):Fz pk H0 H' dp vp nb O O' m vl vs vi ss:=
 let ⟨s,A',m',vl',vs',vi',a',n',us',h1,h2,h3,h4,h5⟩:=h
 ⟨f.step.trans s,A',m',vl',vs',vi',a',n',us',h1,h2,h3,h4,λX hX hM=>h5 X (λb hb=>YE (hX b hb) f.n) (hM.fresh f)⟩
theorem Fz.no (S:VP H dp vp a n A O m vl vs vi) (I:VJ pk A a n us m nb) (hf:A.aV=0):Fz pk H H dp vp nb O O m vl vs vi m.ah:=
 ⟨Step.refl S.jh.wf,A,m,vl,vs,vi,a,n,us,rfl,S,I,hf,λX _ h=>h⟩
theorem Step.afl {H G:Heap} {A B:Nat->Prop} {j:Nat} {y:eB} (s:Step H A G B) (hj:H.n<=j) (hn:j<G.n):Step H A (G.put j y) B:=
 ⟨by rw [Heap.bE];exact s.wf,by rw [Heap.aT];exact s.n,λb hb ho=>by rw [Heap.aF s.wf hn,if_neg (by omega)];exact s.same b hb ho,λlo h1 h2 h3=>let ⟨a,b⟩:=s.lo lo h1 h2 h3; ⟨Heap.eW a (by omega),b⟩⟩
theorem Fz.put {H0 H':Heap} {O':Nat->Prop} {ss:List Sn} {r:Nat} {x:eB} (f:ae H0 H) (S:VP H0 dp vp a n A O m vl vs vi) (h:Fz pk H H' dp vp nb O O' m vl vs vi ss) (h0:H0.n<=r) (hr:r<H.n):Fz pk H0 (H'.put r x) dp vp nb O O' m vl vs vi ss:=by
 obtain ⟨s,A',m',vl',vs',vi',a',n',us',h1,h2,h3,h4,h5⟩:=h
 have lo:=S.lt
 have nr:¬ bM O vp r:=λh=>by have:=lo _ h;omega
 have nr':=(s.same r hr nr).2
 have w':=h2.jh.wf
 have hr':r<H'.n:=YE hr s.n
 have so:Step H' (λb=>b=r) (H'.put r x) (λb=>b=r):=Step.eO w' hr'
 have key:∀ X:Nat->Prop,(∀ b,X b->b<H0.n)->gj H0 (λb=>X b\/bM O vp b) m vl vs vi->gj (H'.put r x) (λb=>X b\/bM O' vp b) m' vl' vs' vi':=λX hX hM=>by
  have g1:gj H0 (λb=>(X b\/b=r)\/bM O vp b) m vl vs vi:=hM.kT λb hb hq=>hq.elim (λq=>q.elim YG λe=>absurd hb (by omega)) YD
  have g2:=h5 (λb=>X b\/b=r) (λb hb=>hb.elim (λq=>YE (hX b q) f.n) λe=>by rw [e];exact hr) (g1.fresh f)
  have g3:gj H' (λb=>(X b\/bM O' vp b)\/b=r) m' vl' vs' vi':=g2.kT λb _ hq=>hq.elim (λq=>q.elim (λy=>YG (YG y)) YD) λy=>YG (YD y)
  exact (g3.dm (so.or (O:=λb=>X b\/bM O' vp b))).kT λb _ hq=>YG hq
 refine ⟨(f.step.trans s).afl h0 hr',A',m',vl',vs',vi',a',n',us',h1,h2.dm so (λb hb e=>nr' (by rw [<- e];exact hb)) ?_,h3,h4,key⟩
 exact (key (λ_=>False) (λ_ h=>h.elim) (S.Js.kT λb _ hq=>hq.elim (λh=>h.elim) id)).kT λb _ hq=>YD hq
theorem PA (T:aG t) (hc:bg t) (F:bX pk unpk) (hp:t 123=some (.nat (eD pk))) (S:VP H dp vp a n A O m vl vs vi) (I:VJ pk A a n us m nb) (hf:A.aV=0) (hA:okV (32,0)) (h1:1<=nb) (h2:nb<=8) {l:Ln} {w:V} {P:Nat->Prop} (hl:Row H P w 2 l.gs.length (bz l.gs)) (ny:l.gs.length<1000) (hep:l.ep<18446744073709551616) (hfu:1000000<fuel):
 ∃ H' O',(∀ (d:Nat) (k:K),aj (aQ (aO Tryz.prog) t fuel (d+10)) (.func 58 []) [.ptr vp 0,.agg (du l w)] H k=k (.int 3 0) H')/\Fz pk H H' dp vp nb O O' m vl vs vi (m.ah.take (po (m.ah.map (·.g)) l)):=by
 have w0:=S.jh.wf
 have hn:=I.ok.num
 obtain ⟨G1,hG1,f1,p1,n1⟩:=Heap.aU w0 (.cells (du l w))
 obtain ⟨G2,vL,z2o,f2,o2⟩:=kK (cp:=aO Tryz.prog) (fuel:=fuel) T (S.fresh f1) (by omega)
 have z2:=λ{d:Nat} {k:K}=>z2o d k
 have p2:G2.get H.n = .cells (du l w):=(f2.same _ (by omega)).trans p1
 have hl2:=(hl.fresh f1).fresh f2
 have hgo:∀ g ∈ m.ah.map (·.g),jm g:=λg hg=>by obtain ⟨s,hs,rfl⟩:=Yc.1 hg;exact gh I.Eg s hs
 have lx:(m.ah.map (·.g)).length=m.ah.length:=WB ..
 rw [<- lx]at o2
 obtain ⟨G3,z3o,f3⟩:=Ir (cp:=aO Tryz.prog) (fuel:=fuel) (x:=m.ah.map (·.g)) (l:=l) T f2.wf o2 hl2 (by omega) ny hgo hep (by omega)
 have z3:=λ{d:Nat} {k:K}=>z3o d k
 have sn:=λ{id:Nat} {f:Nat->R}=>o2.sn (id:=id) (f:=f)
 have jv:=λ{id:Nat} {k:R}=>aI o2.one (id:=id) (k:=k)
 have jw:=λ{id:Nat} {k:R}=>aI hl.one (id:=id) (k:=k)
 have f13:=f1.trans (f2.trans f3)
 have S3:=S.fresh f13
 rw [lx]at sn
 generalize hq:po (m.ah.map (·.g)) l=q at z3
 have a1:nn m.ah.length:=by unfold nn;omega
 have hqn:q<=m.ah.length:=by
  rw [<- hq,<- lx]
  unfold po
  obtain ⟨c1,c2⟩:=Ax (x:=m.ah.map (·.g)) (y:=l.gs)
  split
  .exact c1
  .have:Lw l.ep ((m.ah.map (·.g)).drop (lQ (m.ah.map (·.g)) l.gs))<=_:=(YH3 _).length_le
   rw [WU]at this
   omega
 have a2:nn q:=by unfold nn;omega
 have a3:m.ah.length<9223372036854775808:=by omega
 simp only [du]at hG1 p2 z3
 by_cases hlt:q<m.ah.length
 .obtain ⟨H',O',z4o,hs,A',vl',vs',vi',a',n',us',g1,g2,g3,g4⟩:=Ia (fuel:=fuel) T hc F hp S3 I hf hA h1 h2 hqn hfu
  have z4:=λ{d:Nat} {k:K}=>z4o d k
  refine ⟨H',O',λd k=>?_,Fz.before f13 ⟨hs,A',Er m q,vl',vs',vi',a',n',us',rfl,g1,g2,g3,g4⟩⟩
  rw [aR T.k29 rfl rfl]
  simp only [go_sem,c29,du,↓jw,w0,hG1,↓z2,p2,↓z3,↓sn,a1,a2,a3,hlt,↓z4]
 .refine ⟨G3,O,λd k=>?_,?_⟩
  .rw [aR T.k29 rfl rfl]
   simp only [go_sem,c29,du,↓jw,w0,hG1,↓z2,p2,↓z3,↓sn,a1,a2,a3,hlt]
  .rw [List.take_of_length_le (by omega)]
   exact (Fz.no S3 I hf).before f13
end Go.Ev
end
section
namespace Go.Ev
open Go.Proofs
theorem DZ {H:Heap} {vb c z:Nat} {x:V} {k:K} (hw:H.wf) (g:H.get vb = .cells [x]) (hx:x.one=true):iK [.aB,.int 3 0,.slice vb 0 1 c z] H k=k (.slice H.n 0 1 0 1) (H.new (.cells [x])):=by
 have jx:=λ{id:Nat} {k:R}=>aI hx (id:=id) (k:=k)
 unfold iK Tl
 simp only [go_sem,g,↓jx,hw,aP,↓oI]
 rfl
variable {t:Nat->Option cF} {fuel:Nat} {H:Heap} {pk:List UInt8->List (List UInt8)} {unpk:List (List UInt8)->Option (List UInt8)}
variable {dp vp a n nb:Nat} {A:AD} {O:Nat->Prop} {m:MT} {vl vs vi:V} {us:List Wr}
theorem JW (T:aG t) (hc:bg t) (F:bX pk unpk) (hp:t 123=some (.nat (eD pk))) (S:VP H dp vp a n A O m vl vs vi) (I:VJ pk A a n us m nb) (hf:A.aV=0) (hA:okV (32,0)) (h1:1<=nb) (h2:nb<=8) {l:Ln} {w:V} {P:Nat->Prop} (hl:Row H P w 2 l.gs.length (bz l.gs)) (ny:l.gs.length<1000) (hep:l.ep<18446744073709551616) {B:Nat} (hB:B<H.n) (gB:H.get B = .cells [.ptr vp 0]) (hfu:1000000<fuel):
 ∃ H' O',(∀ (d:Nat) (k:K),aj (aQ (aO Tryz.prog) t fuel (d+11)) (.func 56 [.ptr B 0]) [.agg (du l w)] H k=k (.int 3 0) H')/\Fz pk H H' dp vp nb O O' m vl vs vi (m.ah.take (po (m.ah.map (·.g)) l)):=by
 have w0:=S.jh.wf
 obtain ⟨G1,hG1,f1,p1,n1⟩:=Heap.aU w0 (.cells (du l w))
 have gB1:=(f1.same _ hB).trans gB
 obtain ⟨H',O',z2o,RR⟩:=PA (fuel:=fuel) T hc F hp (S.fresh f1) I hf hA h1 h2 (hl.fresh f1) ny hep hfu
 have z2:=λ{d:Nat} {k:K}=>z2o d k
 have jw:=λ{id:Nat} {k:R}=>aI hl.one (id:=id) (k:=k)
 refine ⟨H',O',λd k=>?_,RR.before f1⟩
 simp only [du]at hG1 p1 z2
 rw [ax T.k28 rfl rfl]
 simp only [Yb,YT]
 simp only [go_sem,c28,du,↓jw,w0,hG1,p1,gB1,↓z2]
def RO (l l':Ln):Ln:=if Q6 l'=0 then pO l l' else l
def ZN (ss:List Sn) (l l':Ln):List Sn:=if Q6 l'=0 then ss.take (po (ss.map (·.g)) (pO l l')) else ss
theorem Ck (T:aG t) (hc:bg t) (F:bX pk unpk) (hp:t 123=some (.nat (eD pk))) (hi:t 27=some (.nat iK)) (S:VP H dp vp a n A O m vl vs vi) (I:VJ pk A a n us m nb) (hf:A.aV=0) (hA:okV (32,0)) (h1:1<=nb) (h2:nb<=8) {l l':Ln} {v v':V} (hl:Row H (bM O vp) v 2 l.gs.length (bz l.gs)) (hl':Row H (bM O vp) v' 2 l'.gs.length (bz l'.gs)) (nl:l.gs.length<1000) (nl':l'.gs.length<1000) (hg:∀ g ∈ l'.gs,jm g) (el:l.ep<18446744073709551616) (el':l'.ep<18446744073709551616) (hbf:l'.bf<1000) (hfu:1000000<fuel):
 ∃ H' O' w,(∀ (d:Nat) (k:K),aj (aQ (aO Tryz.prog) t fuel (d+12)) (.func 18 []) [.ptr vp 0,.agg (du l v),.agg (Q7 7 l'.ep l'.bf l'.ls v' 0 (0,0) (0,0) 0)] H k=k (.cV [.agg (du (RO l l') w),.int 3 (if Q6 l'=0 then 0 else 2)]) H')/\Fz pk H H' dp vp nb O O' m vl vs vi (ZN m.ah l l')/\Own H H' w 2 (RO l l').gs.length (bz (RO l l').gs)/\∀ b o n c s,w = .slice b o n c s->¬ bM O' vp b/\H.n<=b:=by
 have w0:=S.jh.wf
 obtain ⟨G1,hG1,f1,p1,n1⟩:=Heap.aU w0 (.cells [.ptr vp 0])
 have w1:=f1.wf
 obtain ⟨G2,hG2,f2,p2,n2⟩:=Heap.aU w1 (.cells (du l v))
 have w2:=f2.wf
 obtain ⟨G3,hG3,f3,p3,n3⟩:=Heap.aU w2 (.cells (Q7 7 l'.ep l'.bf l'.ls v' 0 (0,0) (0,0) 0))
 have w3:=f3.wf
 obtain ⟨G4,hG4,f4,p4,n4⟩:=Heap.aU w3 (.cells [.int 7 0,.int 3 0,.bool false,.aB])
 have w4:=f4.wf
 obtain ⟨G5,hG5,f5,p5,n5⟩:=Heap.aU w4 (.cells [.func 56 [.ptr H.n 0]])
 have w5:=f5.wf
 obtain ⟨G6,hG6,f6,p6,n6⟩:=Heap.aU w5 (.cells [.func 56 [.ptr H.n 0]])
 have w6:=f6.wf
 have zi:∀ {d:Nat} {k:K},aj (aQ (aO Tryz.prog) t fuel (d+1)) (.func 54 []) [.aB,.int 3 0,.slice G4.n 0 1 2 0] G5 k=k (.slice G5.n 0 1 0 1) G6:=λ{d k}=>by rw [lO hi rfl rfl,List.append_nil,DZ w5 p5 rfl,hG6]
 obtain ⟨q,hq⟩:∃ q,fuel=q+1+1:=⟨fuel-2,by omega⟩
 have hL:∀ {c:ai} {ph:cW} {kx:Nat->KE} {e:Env} {G:Heap},jF c fuel ph kx fuel e G=jF c fuel ph kx (q+1+1) e G:=λ{c ph kx e G}=>by rw [<- hq]
 have f14:=f2.trans (f3.trans f4)
 have f16:=f14.trans (f5.trans f6)
 have f06:=f1.trans f16
 have k2:∀ j,j<G2.n->G6.get j=G2.get j:=λj h=>(f6.same _ (by omega)).trans ((f5.same _ (by omega)).trans ((f4.same _ (by omega)).trans (f3.same _ (by omega))))
 have q1:G6.get H.n = .cells [.ptr vp 0]:=(k2 _ (by omega)).trans ((f2.same _ (by omega)).trans p1)
 have q2:G6.get G1.n = .cells (du l v):=(k2 _ (by omega)).trans p2
 have q3:G6.get G2.n = .cells (Q7 7 l'.ep l'.bf l'.ls v' 0 (0,0) (0,0) 0):=(f6.same _ (by omega)).trans ((f5.same _ (by omega)).trans ((f4.same _ (by omega)).trans p3))
 have q4:G6.get G3.n = .cells [.int 7 0,.int 3 0,.bool false,.aB]:=(f6.same _ (by omega)).trans ((f5.same _ (by omega)).trans p4)
 have r1:G4.get H.n = .cells [.ptr vp 0]:=(f14.same _ (by omega)).trans p1
 have r3:G4.get G2.n = .cells (Q7 7 l'.ep l'.bf l'.ls v' 0 (0,0) (0,0) 0):=(f4.same _ (by omega)).trans p3
 have hl6:=hl.fresh f06
 have hl6':=hl'.fresh f06
 obtain ⟨G7,z7o,f7⟩:=DO (cp:=aO Tryz.prog) (fuel:=fuel) (l:=l') T w6 hl6' nl' hg el' hbf (by omega)
 have z7:=λ{d:Nat} {k:K}=>z7o d k
 have w7:=f7.wf
 have k7:∀ j,j<G6.n->G7.get j=G6.get j:=λj h=>f7.same j h
 have s1:G7.get H.n = .cells [.ptr vp 0]:=(k7 _ (by omega)).trans q1
 have s2:G7.get G1.n = .cells (du l v):=(k7 _ (by omega)).trans q2
 have s3:G7.get G2.n = .cells (Q7 7 l'.ep l'.bf l'.ls v' 0 (0,0) (0,0) 0):=(k7 _ (by omega)).trans q3
 have s4:G7.get G3.n = .cells [.int 7 0,.int 3 0,.bool false,.aB]:=(k7 _ (by omega)).trans q4
 have s5:G7.get G5.n = .cells [.func 56 [.ptr H.n 0]]:=(k7 _ (by omega)).trans p6
 have hl7:=hl6.fresh f7
 have hl7':=hl6'.fresh f7
 have f07:=f06.trans f7
 have m7:=f7.n
 have jv:=λ{id:Nat} {k:R}=>aI hl.one (id:=id) (k:=k)
 have jw:=λ{id:Nat} {k:R}=>aI hl'.one (id:=id) (k:=k)
 by_cases h0:Q6 l'=0
 .have e1:RO l l'=pO l l':=by unfold RO;rw [if_pos h0]
  have e2:ZN m.ah l l'=m.ah.take (po (m.ah.map (·.g)) (pO l l')):=by unfold ZN;rw [if_pos h0]
  rw [e1,e2,if_pos h0]
  rw [h0]at z7
  obtain ⟨G8,v8,z8o,f8,o8⟩:=GZ (cp:=aO Tryz.prog) (fuel:=fuel) (a:=l) (b:=l') T w7 hl7 hl7' nl nl' el el' (by omega)
  have z8:=λ{d:Nat} {k:K}=>z8o d k
  have w8:=f8.wf
  have nk:(pO l l').gs.length<1000:=by unfold pO;split<;>assumption
  have ek:(pO l l').ep<18446744073709551616:=by unfold pO;split<;>assumption
  obtain ⟨G9,v9,z9o,f9,o9⟩:=Ei (cp:=aO Tryz.prog) (fuel:=fuel) (ep:=(pO l l').ep) (bf:=(pO l l').bf) (ls:=(pO l l').ls) (O:=λ_=>False) T w8 (o8.toRow λb h=>h.elim) (λb h=>h.elim) (show (pO l l').gs.length<1000000 by omega)
  have z9:=λ{d:Nat} {k:K}=>z9o d k
  have w9:=f9.wf
  have m8:=f8.n
  have m9:=f9.n
  obtain ⟨Ga,hGa,fa,pa,na⟩:=Heap.aU w9 (.cells [.int 7 0,.int 3 0,.bool false,.aB])
  have wa:=fa.wf
  have f0a:=f07.trans (f8.trans (f9.trans fa))
  have ba:G9.n<Ga.n:=by omega
  have f7a:=f8.trans (f9.trans fa)
  obtain ⟨Gb,hGb,fb,pb,nb',wb,kb⟩:=Heap.bd (b:=G9.n) f7a (by omega) ba (.cells (du (pO l l') v9))
  have f0b:=f07.trans fb
  have Sb:=S.fresh f0b
  have kk:∀ j,j<G7.n->Gb.get j=G7.get j:=λj h=>fb.same j h
  have u1:=(kk _ (by omega)).trans s1
  have u3:=(kk _ (by omega)).trans s4
  have u5:=(kk _ (by omega)).trans s5
  have o9b:Own G8 Gb v9 2 (pO l l').gs.length (bz (pO l l').gs):=by
   have:=o9.fresh fa
   rw [<- hGb]
   exact this.nJ wa ba (by rcases o9.2.2 with ⟨e,-⟩|⟨b,c,s,rest,e,-,-,-,hb⟩<;>rw [e]<;>intro b' o' n' c' s' e'<;>cases e';omega)
  have hr9:Row Gb (λ_=>False) v9 2 (pO l l').gs.length (bz (pO l l').gs):=o9b.toRow λb h=>h.elim
  obtain ⟨H',O',zco,RR⟩:=JW (fuel:=fuel) (B:=H.n) T hc F hp Sb I hf hA h1 h2 hr9 nk ek (by omega) u1 hfu
  have zc:=λ{d:Nat} {k:K}=>zco d k
  have RP:=Fz.put (r:=G3.n) (x:=.cells (du (pO l l') v9)) f0b S RR (by omega) (by omega)
  have ow:Own H (H'.put G3.n (.cells (du (pO l l') v9))) v9 2 (pO l l').gs.length (bz (pO l l').gs):=by
   have lo:=S.lt
   have:=(o9b.step RR.1 λb h1 _ h=>by have:=lo _ h;omega).sub (H:=H) (by omega)
   exact this.nJ RR.1.wf (by have:=RR.1.n;omega) (o9.off (by omega))
  obtain ⟨sc,A',m',vl',vs',vi',a',n',us',x1,x2,x3,x4,x5⟩:=RR
  have wc:=x2.jh.wf
  have lo:=S.lt
  have nO:∀ {j:Nat},H.n<=j->¬ bM O vp j:=λhj h=>by have:=lo _ h;omega
  have kc:∀ {j:Nat},H.n<=j->j<Gb.n->H'.get j=Gb.get j:=λh h'=>(sc.same _ h' (nO h)).1
  have y3:=(kc (by omega) (by omega)).trans u3
  have y5:=(kc (by omega) (by omega)).trans u5
  have yb:=(kc (by omega) (by omega)).trans pb
  have u5':=u5
  have bH:G3.n<H'.n:=by have:=sc.n;omega
  have hgd:(H'.put G3.n (.cells (du (pO l l') v9))).get G3.n = .cells (du (pO l l') v9):=by rw [Heap.aF wc bH,if_pos rfl]
  obtain ⟨Hd,hHd⟩:∃ Hd,H'.put G3.n (.cells (du (pO l l') v9))=Hd:=⟨_,rfl⟩
  rw [hHd]at hgd RP ow
  have j9:=λ{id:Nat} {k:R}=>aI o9.one (id:=id) (k:=k)
  refine ⟨Hd,O',v9,λd k=>?_,RP,ow,λb o n c s e=>(by have:=o9.cO e;exact ⟨(sc.same b (by omega) (nO (by omega))).2,by omega⟩)⟩
  simp only [du]at hG2 p2 q2 s2 z8 z9 hGb pb zc yb hHd hgd
  simp only [Q7]at hG3 p3 r3 q3 s3 z7
  have n11:nn 1:=by unfold nn;omega
  simp only [du]at z7
  rw [aR T.k9 rfl rfl]
  simp only [go_sem,c9,Xc,Xd,Xe,du,Q7,w0,hG1,w1,hG2,w2,hG3,w3,hG4,↓jv,↓jw,r1,r3,w4,hG5,↓zi]
  simp only [go_sem,Xf,aaW,q3,↓z7,s2,s3,↓z8,↓z9,w9,hGa,pa,wa,ba,↓j9,hGb]
  simp only [go_sem,ZE,aaX,aaV,↓hL,ak,n11,u5,pb,↓zc]
  simp only [go_sem,aaY,aaZ,yb,y3,wc,bH,↓j9,hHd,hgd,↓vh]
 .have e1:RO l l'=l:=by unfold RO;rw [if_neg h0]
  have e2:ZN m.ah l l'=m.ah:=by unfold ZN;rw [if_neg h0]
  rw [e1,e2,if_neg h0]
  obtain ⟨G8,v8,z8o,f8,o8⟩:=Ei (cp:=aO Tryz.prog) (fuel:=fuel) (ep:=l.ep) (bf:=l.bf) (ls:=l.ls) (O:=λ_=>False) T w7 (hl7.kT λb _ h=>h.elim) (λb h=>h.elim) (show l.gs.length<1000000 by omega)
  have z8:=λ{d:Nat} {k:K}=>z8o d k
  have m8:=f8.n
  have w8:=f8.wf
  have y4:=(f8.same _ (by omega)).trans s4
  have b8:G3.n<G8.n:=by omega
  have f08:=f07.trans f8
  obtain ⟨Hd,hHd,fd,pd,nd,wd,kd⟩:=Heap.bd (b:=G3.n) f08 (by omega) b8 (.cells (du l v8))
  have j8:=λ{id:Nat} {k:R}=>aI o8.one (id:=id) (k:=k)
  have ow:Own H Hd v8 2 l.gs.length (bz l.gs):=by
   rw [<- hHd]
   exact (o8.sub (by omega)).nJ w8 b8 (o8.off (by omega))
  have RP:=(Fz.no (S.fresh fd) I hf).before fd
  refine ⟨Hd,O,v8,λd k=>?_,RP,ow,λb o n c s e=>(by have:=o8.cO e;exact ⟨λh=>(by have:=S.lt b h;omega),by omega⟩)⟩
  have hne:(Q6 l'=0)=False:=by simp [h0]
  simp only [du]at hG2 p2 q2 s2 z8 hHd pd
  simp only [Q7]at hG3 p3 r3 q3 s3 z7
  simp only [du]at z7
  rw [aR T.k9 rfl rfl]
  simp only [go_sem,c9,Xc,Xd,Xe,du,Q7,w0,hG1,w1,hG2,w2,hG3,w3,hG4,↓jv,↓jw,r1,r3,w4,hG5,↓zi]
  simp only [go_sem,Xf,q3,↓z7,hne,s2,↓z8,y4,w8,b8,↓j8,hHd,pd,↓vh]
end Go.Ev
end
section
namespace Go.Ev
open Go.Proofs
theorem gY.mono {b n:Nat}:∀ {ss:List Sn} {last:Gd} {j:Nat},gY b n last ss->j<ss.length->last.1<=((ss.map (·.g)).getD j (0,0)).1
 | [],_,j,_,hj=>by simp at hj
 | s :: ss,last,0,h,_=>by
  have:=h.1
  unfold Du at this
  show last.1<=s.g.1
  omega
 | s :: ss,last,j+1,h,hj=>by
  have h1:=h.1
  unfold Du at h1
  have:=gY.mono (j:=j) h.2.2 (by simpa using hj)
  show last.1<=((ss.map (·.g)).getD j (0,0)).1
  omega
theorem gY.Vp {b n:Nat}:∀ {ss:List Sn} {last:Gd} {i j:Nat},gY b n last ss->i<=j->j<ss.length->((ss.map (·.g)).getD i (0,0)).1<=((ss.map (·.g)).getD j (0,0)).1
 | [],_,_,j,_,_,hj=>by simp at hj
 | s :: ss,last,0,0,h,_,_=>YA _
 | s :: ss,last,0,j+1,h,_,hj=>h.2.2.mono (j:=j) (by simpa using hj)
 | s :: ss,last,i+1,j+1,h,hi,hj=>gY.Vp (i:=i) (j:=j) h.2.2 (by omega) (by simpa using hj)
theorem vT:∀ {l:List Gd} {q p:Nat},q<=l.length->p<=l.length->lQ (l.take q) (l.take p)=min q p
 | [],q,p,h,h'=>by simp at h h';subst h h';rfl
 | g :: l,0,p,_,_=>by simp [lQ]
 | g :: l,q+1,0,_,_=>by simp [lQ]
 | g :: l,q+1,p+1,h,h'=>by
  simp only [List.take_succ_cons,lQ,if_true]
  rw [vT (by simpa using h) (by simpa using h')]
  omega
theorem Zr {ep:Nat} {l:List Gd}:Lw ep l<=l.length:=(YH3 _).length_le
theorem EW {ep:Nat}:∀ {l:List Gd},Lw ep l<l.length->(l.getD (Lw ep l) (0,0)).1<ep
 | [],h=>by simp [Lw]at h
 | g :: l,h=>by
  unfold Lw at h ⊢
  by_cases hg:g.1<ep
  .simp [hg]
  .simp only [hg,decide_false,Qh,YD1,if_true,YF,List.getD_cons_succ]at h ⊢
   exact EW (l:=l) (by unfold Lw;omega)
theorem PG {l:List Gd} {q p:Nat} {k:Ln} (hq:q<=l.length) (hp:p<=l.length) (hk:k.gs=l.take p):
 min p q<=po (l.take q) k/\po (l.take q) k<=q/\(po (l.take q) k<q->p<=po (l.take q) k->(l.getD (po (l.take q) k) (0,0)).1<k.ep):=by
 have hl:k.gs.length=p:=by rw [hk,Yp];omega
 unfold po
 rw [hl,hk,vT hq hp]
 by_cases h:q<p
 .rw [show min q p=q by omega,if_pos h]
  exact ⟨by omega,YA _,λh=>by omega⟩
 .rw [show min q p=p by omega,if_neg (Wa _)]
  have h1:=Zr (ep:=k.ep) (l:=(l.take q).drop p)
  have h2:((l.take q).drop p).length=q-p:=by rw [WU,Yp];omega
  refine ⟨by omega,by omega,λh3 _=>?_⟩
  have h4:=EW (ep:=k.ep) (l:=(l.take q).drop p) (by omega)
  rw [YH,Yx,Yk,if_pos (by omega)]at h4
  rw [YH]
  exact h4
end Go.Ev
end
section
namespace Go.Ev
open Go.Proofs
theorem qI {l:List Gd} {i:Nat} (h:i<l.length):((bz l).drop (i*2)).take 2=bq (l.getD i (0,0)):=by
 have:=lV (YB h)
 rw [this,YH,YB h];rfl
theorem wj {l:List Gd} {i:Nat} (h:i<l.length):(bz l)[i*2]? = some (.int 7 (l.getD i (0,0)).1):=by
 have:=congrArg (·[0]?) (qI h)
 simpa [bq,Yk,Yx] using this
theorem Ls {l:List Gd} {k:Nat} (h:k<l.length):l.take (k+1)=l.take k ++ [l.getD k (0,0)]:=by
 rw [List.take_add_one,YH,YB h];rfl
theorem Gt {l:List Gd} {g:Gd}:bz (l ++ [g])=bz l ++ bq g:=by rw [rU];simp [bz]
theorem Oc {a b} (ha:a<18446744073709551616) (hb:b<18446744073709551616):dW (.le 0 18446744073709551616) a b=decide (a<=b):=by
 show Nat.ble ((a+0)%_) ((b+0)%_)=_
 rw [WD,WD,Yr ha,Yr hb,YO4]
 simp
theorem abg {a b} (ha:a<18446744073709551616) (hb:b<18446744073709551616):dW (.ge 0 18446744073709551616) a b=decide (b<=a):=by
 show Nat.ble ((b+0)%_) ((a+0)%_)=_
 rw [WD,WD,Yr ha,Yr hb,YO4]
 simp
variable {cp:RC->ai} {t:Nat->Option cF} {fuel:Nat}
variable {dp vp a n:Nat} {A:AD} {O:Nat->Prop} {m:MT} {vl vs vi:V}
theorem N5 (T:aG t) {Gs G0:Heap} (S:VP Gs dp vp a n A O m vl vs vi) {al:List Gd} {va vk:V} {kn:Ln} {KB L ep N:Nat} {Q:Nat->Prop} (hva:Row Gs Q va 2 al.length (bz al)) (hK:KB<Gs.n) (gK:Gs.get KB = .cells (du kn vk)) (hvk:Row Gs Q vk 2 kn.gs.length (bz kn.gs)) (nk:kn.gs.length<1000) (na:al.length<1000) (f0:ae Gs G0) (hL:Gs.n<=L) (bL:L<G0.n) (gL:G0.get L = .cells (du ⟨ep,0,false,[]⟩ .aB)) (hN:N<=al.length) (hep:ep<18446744073709551616) (hg:∀ g ∈ al,jm g) (mono:∀ i j,i<=j->j<al.length->(al.getD i (0,0)).1<=(al.getD j (0,0)).1) (hfu:1000<fuel) {v1 v10:V}:
 ∃ G' c w,ae Gs G'/\L<G'.n/\G'.get L = .cells (du ⟨ep,0,false,al.take c⟩ w)/\Own Gs G' w 2 c (bz (al.take c))/\jM w L/\c<=N/\∀ (d:Nat) (kx:Nat->KE) (e:Env) (x:R),aa s001 e=v1->aa s005 e = .ptr vp 0->aa s006 e=va->aa s007 e = .ptr KB 0->aa s010 e=v10->aa s011 e = .ptr L 0->aa s012 e = .int 3 N->aa s013 e = .int 3 0->
  (∀ e',aa s001 e'=v1->aa s005 e' = .ptr vp 0->aa s006 e'=va->aa s007 e' = .ptr KB 0->aa s010 e'=v10->aa s011 e' = .ptr L 0->kx 3 e' G'=x)->jF Cv fuel (aQ cp t fuel (d+1)) kx fuel e G0=x:=by
 have hn:=S.ok.num
 have nN:nn N:=by unfold nn;omega
 have run:=bV (c:=Cv) (fuel:=fuel) (ph:=λd=>aQ cp t fuel (d+1)) (σ:=Nat × V) (n:=N)
  (I:=λk s G=>ae Gs G/\L<G.n/\G.get L = .cells (du ⟨ep,0,false,al.take s.1⟩ s.2)/\Own Gs G s.2 2 s.1 (bz (al.take s.1))/\jM s.2 L/\s.1<=k/\(s.1=k\/¬ (s.1<kn.gs.length\/(al.getD s.1 (0,0)).1<=ep/\s.1<m.ah.length)))
  (S:=λk s e=>aa s001 e=v1/\aa s005 e = .ptr vp 0/\aa s006 e=va/\aa s007 e = .ptr KB 0/\aa s010 e=v10/\aa s011 e = .ptr L 0/\aa s012 e = .int 3 N/\aa s013 e = .int 3 k) (λk s G hkN ⟨f,bl,g,o,of,hck,hc⟩=>by
   obtain ⟨c,w⟩:=s
   simp only at g o of hck hc
   have hka:k<al.length:=by omega
   have wf:=f.wf
   have gK':=(f.same _ hK).trans gK
   have hva':=hva.fresh f
   have hvk':=hvk.fresh f
   have sk:=λ{id:Nat} {f:Nat->R}=>hvk'.sn (id:=id) (f:=f)
   obtain ⟨b0,o0,c0,z0,hv0,hb0,-,hr0⟩:=hva'.open hka
   rw [qI hka,wj hka]at hr0
   have rA:=λ{G:Heap} (h:G.get b0=_) {id:Nat} {k:List V->R}=>(hr0 h).1 (id:=id) (k:=k)
   have rB:=λ{G:Heap} (h:G.get b0=_) {id:Nat} {k:V->R}=>(hr0 h).2 rfl (id:=id) (k:=k)
   have ck:k<9223372036854775808:=by omega
   have kk:nn k:=by unfold nn;omega
   have k1:(k+1)%18446744073709551616=k+1:=by omega
   have np:nn kn.gs.length:=by unfold nn;omega
   have nq:nn m.ah.length:=by unfold nn;omega
   have nz:kn.gs.length<9223372036854775808:=by omega
   have nz':m.ah.length<9223372036854775808:=by omega
   have hgk:=hg _ (YY (show al[k]? = some (al.getD k (0,0)) by rw [YH,YB hka];rfl))
   have app:∀ {G1:Heap},ae G G1->c=k->∃ (G2:Heap) (v':V) (G3 G4:Heap),G1.new (.cells (bq (al.getD k (0,0))))=G2/\(∀ {id:Nat} {ph:cW} {e:Env} {kk:K} {a y:Arg},ay a e=w->ay y e = .slice G1.n 0 1 2 0->aM (.app false 2 a y) id ph e G2 kk=kk v' G3)/\G3.put L (.cells (du ⟨ep,0,false,[]⟩ v'))=G4/\G1.wf/\L<G1.n/\G1.get L = .cells (du ⟨ep,0,false,[]⟩ w)/\G1.get b0=G.get b0/\G3.wf/\L<G3.n/\G3.get L = .cells (du ⟨ep,0,false,[]⟩ w)/\v'.one=true/\ae Gs G4/\L<G4.n/\G4.get L = .cells (du ⟨ep,0,false,al.take (k+1)⟩ v')/\Own Gs G4 v' 2 (k+1) (bz (al.take (k+1)))/\jM v' L:=λ{G1} f1 e=>by
    subst e
    obtain ⟨G2,hG2,f2,p2,n2⟩:=Heap.aU f1.wf (.cells (bq (al.getD c (0,0))))
    have m1:=f1.n
    obtain ⟨v',G3,hap,o3,f3,k3,m3,of3⟩:=Own.app (w:=w) (x:=.slice G1.n 0 1 2 0) (sz:=2) (m:=1) (f.trans (f1.trans f2)) ((o.fresh f1).fresh f2) (λ{id f}=>kh p2 rfl) rfl (C1 _) (by omega)
    have b3:L<G3.n:=by omega
    obtain ⟨G4,hG4,f4,p4,n4,w4,k4⟩:=Heap.bd (b:=L) f3 hL b3 (.cells (du ⟨ep,0,false,[]⟩ v'))
    have g1:=(f1.same L bl).trans g
    have g3:G3.get L=_:=(k3 L (by omega) of).trans ((f2.same L (by omega)).trans g1)
    rw [<- Gt,<- Ls hka]at o3
    refine ⟨G2,v',G3,G4,hG2,hap,hG4,f1.wf,by omega,g1,f1.same b0 hb0,f3.wf,b3,g3,o3.one,f4,by omega,p4,?_,of3 L (by omega) of⟩
    rw [<- hG4]
    exact o3.nJ f3.wf b3 (of3 L (by omega) of)
   by_cases hp:k<kn.gs.length
   .obtain rfl:c=k:=hc.elim id λh=>absurd (YG (by omega)) h
    obtain ⟨G2,v',G3,G4,hG2,hap,hG4,w1,bl1,g1,gb1,w3,bl3,g3,jv',f4,bl4,g4,o4,of4⟩:=app (ae.refl wf) rfl
    have hrA:=λ{id:Nat} {k:List V->R}=>rA gb1 (id:=id) (k:=k)
    have j1:=λ{id:Nat} {k:R}=>aI jv' (id:=id) (k:=k)
    refine ⟨(c+1,v'),G4,⟨f4,bl4,g4,o4,of4,YA _,YG rfl⟩,λd kx r e x ⟨q1,q5,q6,q7,q10,q11,q12,q13⟩ hk=>?_⟩
    rw [ak]
    rw [hv0]at q6
    simp only [du,bq]at gK' g g1 g3 hG2 hrA hG4
    simp only [go_sem,↓uY,Cv,q6,q7,q11,q12,q13,hkN,nN,ck,kk,k1,gK',↓sk,np,nz,hp,g,↓hrA,wf,hG2,↓hap,w3,bl3,g3,↓j1,hG4,hka]
    exact hk _ (by simp only [go_sem,q1,q5,q6,q7,q10,q11,q12,hv0,and_self])
   .have hpf:¬ k<kn.gs.length:=hp
    by_cases he:(al.getD k (0,0)).1<=ep
    .obtain ⟨G1,vL,zLo,f1,o1⟩:=kK (cp:=cp) (fuel:=fuel) T (S.fresh f) hfu
     have zL:=λ{d:Nat} {k:K}=>zLo d k
     have sL:=λ{id:Nat} {f:Nat->R}=>o1.sn (id:=id) (f:=f)
     by_cases hq:k<m.ah.length
     .obtain rfl:c=k:=hc.elim id λh=>(by
       by_cases e:c=k
       .exact e
       .exact absurd (YD ⟨Nat.le_trans (mono c k hck hka) he,by omega⟩) h)
      obtain ⟨G2,v',G3,G4,hG2,hap,hG4,w1,bl1,g1,gb1,w3,bl3,g3,jv',f4,bl4,g4,o4,of4⟩:=app f1 rfl
      have hrA:=λ{id:Nat} {k:List V->R}=>rA gb1 (id:=id) (k:=k)
      have hrB:=λ{id:Nat} {k:V->R}=>rB rfl (id:=id) (k:=k)
      have j1:=λ{id:Nat} {k:R}=>aI jv' (id:=id) (k:=k)
      refine ⟨(c+1,v'),G4,⟨f4,bl4,g4,o4,of4,YA _,YG rfl⟩,λd kx r e x ⟨q1,q5,q6,q7,q10,q11,q12,q13⟩ hk=>?_⟩
      rw [ak]
      rw [hv0]at q6
      have hle:=Oc hgk.1 hep
      simp only [du,bq]at gK' g g1 g3 hG2 hrA hG4
      simp only [go_sem,Cv,q5,q6,q7,q11,q12,q13,hkN,nN,ck,kk,k1,gK',↓sk,np,nq,nz,nz',hp,hka,g,↓hrB,hle,he,decide_true,↓zL,↓sL,hq,g1,↓hrA,w1,hG2,↓hap,w3,bl3,g3,↓j1,hG4]
      exact hk _ (by simp only [go_sem,q1,q5,q6,q7,q10,q11,q12,hv0,and_self])
     .refine ⟨(c,w),G1,⟨f.trans f1,by have:=f1.n;omega,(f1.same _ bl).trans g,o.fresh f1,of,by omega,YD λh=>h.elim (λh=>by omega) λh=>by omega⟩,λd kx r e x ⟨q1,q5,q6,q7,q10,q11,q12,q13⟩ hk=>?_⟩
      have hrB:=λ{id:Nat} {k:V->R}=>rB rfl (id:=id) (k:=k)
      rw [ak]
      rw [hv0]at q6
      have hle:=Oc hgk.1 hep
      simp only [du]at gK' g
      simp only [go_sem,Cv,q5,q6,q7,q11,q12,q13,hkN,nN,ck,kk,k1,gK',↓sk,np,nq,nz,nz',hp,hka,g,↓hrB,hle,he,decide_true,↓zL,↓sL,hq]
      exact hk _ (by simp only [go_sem,q1,q5,q6,q7,q10,q11,q12,hv0,and_self])
    .refine ⟨(c,w),G,⟨f,bl,g,o,of,by omega,?_⟩,λd kx r e x ⟨q1,q5,q6,q7,q10,q11,q12,q13⟩ hk=>?_⟩
     .refine YD ?_
      rcases hc with rfl|hc
      .exact λh=>h.elim hp λh=>he h.1
      .exact hc
     .have hrB:=λ{id:Nat} {k:V->R}=>rB rfl (id:=id) (k:=k)
      rw [ak]
      rw [hv0]at q6
      have hle:=Oc hgk.1 hep
      simp only [du]at gK' g
      simp only [go_sem,Cv,q6,q7,q11,q12,q13,hkN,nN,ck,kk,k1,gK',↓sk,np,nz,hp,hka,g,↓hrB,hle,he,decide_false]
      exact hk _ (by simp only [go_sem,q1,q5,q6,q7,q10,q11,q12,hv0,and_self])) N 0 (0,.aB) G0 (by omega) ⟨f0,bL,gL,Own.nil,λb o n c s e=>(by cases e),YA _,YG rfl⟩
 obtain ⟨⟨c,w⟩,G',⟨f,bl,g,o,of,hck,-⟩,z⟩:=run
 refine ⟨G',c,w,f,bl,g,o,of,hck,λd kx e x q1 q5 q6 q7 q10 q11 q12 q13 hk=>?_⟩
 refine z d kx fuel e x (by omega) ⟨q1,q5,q6,q7,q10,q11,q12,q13⟩ λr e' ⟨q1,q5,q6,q7,q10,q11,q12,q13⟩=>?_
 rw [ak]
 simp only [go_sem,Cv,q12,q13,nN,Wa]
 exact hk _ q1 q5 q6 q7 q10 q11
end Go.Ev
end
section
namespace Go.Ev
open Go.Proofs
theorem og {l:List Gd} {q i:Nat} (hi:i<q) (hq:q<=l.length):((bz (l.take q)).drop (i*2)).take 2=bq (l.getD i (0,0)):=by
 have hl:i<(l.take q).length:=by rw [Yp];omega
 rw [qI hl,YH,Yk,if_pos hi,<- YH]
variable {cp:RC->ai} {t:Nat->Option cF} {fuel:Nat}
theorem DH {G:Heap} {Q:Nat->Prop} {al:List Gd} {kn:Ln} {vk vb vn:V} {KB p q q':Nat} (gK:G.get KB = .cells (du kn vk)) (hk:kn.gs=al.take p) (rk:Row G Q vk 2 p (bz (al.take p))) (rb:Row G Q vb 2 q (bz (al.take q))) (rn:Row G Q vn 2 q' (bz (al.take q'))) (np:p<=al.length) (nq:q<=al.length) (nq':q'<=al.length) (na:al.length<1000) (hmin:min p q<=q') (hfu:1000<fuel) {v1 v5 v6 v10:V} (ph:cW) (kx:Nat->KE) (e:Env) (x:R) (q1:aa s001 e=v1) (q5:aa s005 e=v5) (q6:aa s006 e=v6) (q7:aa s007 e = .ptr KB 0) (q10:aa s010 e=v10) (q14:aa s014 e=vb) (q17:aa s017 e=vn) (q20:aa s020 e = .int 3 0)
 (hx:∀ e',aa s001 e'=v1->aa s005 e'=v5->aa s006 e'=v6->aa s007 e' = .ptr KB 0->aa s010 e'=v10->aa s014 e'=vb->aa s017 e'=vn->kx 5 e' G=x):jF J4 fuel ph kx fuel e G=x:=by
 have sk:=λ{id:Nat} {f:Nat->R}=>rk.sn (id:=id) (f:=f)
 have sb:=λ{id:Nat} {f:Nat->R}=>rb.sn (id:=id) (f:=f)
 have sn:=λ{id:Nat} {f:Nat->R}=>rn.sn (id:=id) (f:=f)
 have a1:nn p:=by unfold nn;omega
 have a2:nn q:=by unfold nn;omega
 have a3:nn q':=by unfold nn;omega
 have b1:p<9223372036854775808:=by omega
 have b2:q<9223372036854775808:=by omega
 have b3:q'<9223372036854775808:=by omega
 obtain ⟨_,G',hG',z⟩:=bV (c:=J4) (fuel:=fuel) (ph:=λ_=>ph) (σ:=Unit) (n:=min p q)
  (I:=λj _ X=>X=G)
  (S:=λj _ e=>aa s001 e=v1/\aa s005 e=v5/\aa s006 e=v6/\aa s007 e = .ptr KB 0/\aa s010 e=v10/\aa s014 e=vb/\aa s017 e=vn/\aa s020 e = .int 3 j) (λj _ X hj hX=>by
   subst hX
   have jp:j<p:=by omega
   have jq:j<q:=by omega
   have jn:j<q':=by omega
   have jn':¬ q'<=j:=by omega
   have cj:j<9223372036854775808:=by omega
   have nj:nn j:=by unfold nn;omega
   have j1:(j+1)%18446744073709551616=j+1:=by omega
   obtain ⟨bK,oK,cK,zK,hvK,hbK,-,hrK⟩:=rk.open jp
   obtain ⟨bB,oB,cB,zB,hvB,hbB,-,hrB⟩:=rb.open jq
   obtain ⟨bN,oN,cN,zN,hvN,hbN,-,hrN⟩:=rn.open jn
   rw [og jp np]at hrK
   rw [og jq nq]at hrB
   rw [og jn nq']at hrN
   have hrK:=λ{id:Nat} {k:List V->R}=>(hrK (G:=X) rfl).1 (id:=id) (k:=k)
   have hrB:=λ{id:Nat} {k:List V->R}=>(hrB (G:=X) rfl).1 (id:=id) (k:=k)
   have hrN:=λ{id:Nat} {k:List V->R}=>(hrN (G:=X) rfl).1 (id:=id) (k:=k)
   have eq1:=λ{id:Nat} {f:Bool->R}=>abb (id:=id) (f:=f) (rfl:al.getD j (0,0)=al.getD j (0,0))
   refine ⟨(),X,rfl,λd kx r e x ⟨q1,q5,q6,q7,q10,q14,q17,q20⟩ hk=>?_⟩
   rw [ak]
   simp only [bq]at hrK hrB hrN
   simp only [du]at gK
   rw [hvB]at q14
   rw [hvN]at q17
   rw [hvK]at gK
   simp only [go_sem,ZE,↓uY,J4,q7,q14,q17,q20,gK,a1,a2,a3,b1,b2,b3,jp,jq,jn,jn',cj,nj,j1,↓hrK,↓hrB,↓hrN,cJ,↓eq1,Qh,Wt]
   exact hk _ (by simp only [go_sem,q1,q5,q6,q7,q10,q14,q17,hvB,hvN,and_self])) (min p q) 0 () G (by omega) rfl
 subst hG'
 refine z 0 kx fuel e x (by omega) ⟨q1,q5,q6,q7,q10,q14,q17,q20⟩ λr e' ⟨q1,q5,q6,q7,q10,q14,q17,q20⟩=>?_
 rw [ak]
 have nm:nn (min p q):=by unfold nn;omega
 simp only [du]at gK
 by_cases h:p<=q
 .rw [show min p q=p by omega]at q20 nm
  simp only [go_sem,J4,q7,q20,gK,↓sk,b1,a1,Wa]
  exact hx _ q1 q5 q6 q7 q10 q14 q17
 .have hqp:q<p:=by omega
  rw [show min p q=q by omega]at q20 nm
  simp only [go_sem,J4,q7,q14,q20,gK,↓sk,↓sb,b1,b2,a1,a2,hqp,Wa]
  exact hx _ q1 q5 q6 q7 q10 q14 q17
end Go.Ev
end
section
namespace Go.Ev
open Go.Proofs
variable {cp:RC->ai} {t:Nat->Option cF} {fuel:Nat}
theorem N7 {G:Heap} {Q:Nat->Prop} {al:List Gd} {kn:Ln} {vk vb:V} {KB p q q':Nat} (gK:G.get KB = .cells (du kn vk)) (rk:Row G Q vk 2 p (bz (al.take p))) (rb:Row G Q vb 2 q (bz (al.take q))) (np:p<=al.length) (nq:q<=al.length) (nq':q'<=q) (na:al.length<1000) (hmin:min p q<=q') (hfu:1000<fuel) {v1 v5 v6 v10 v17:V} (ph:cW) (kx:Nat->KE) (e:Env) (x:R) (q1:aa s001 e=v1) (q5:aa s005 e=v5) (q6:aa s006 e=v6) (q7:aa s007 e = .ptr KB 0) (q10:aa s010 e=v10) (q14:aa s014 e=vb) (q17:aa s017 e=v17) (q21:aa s021 e = .int 3 q')
 (hx:∀ e',aa s001 e'=v1->aa s005 e'=v5->aa s006 e'=v6->aa s007 e' = .ptr KB 0->aa s010 e'=v10->aa s014 e'=vb->aa s017 e'=v17->kx 7 e' G=x):jF Mu fuel ph kx fuel e G=x:=by
 have sk:=λ{id:Nat} {f:Nat->R}=>rk.sn (id:=id) (f:=f)
 have sb:=λ{id:Nat} {f:Nat->R}=>rb.sn (id:=id) (f:=f)
 have a1:nn p:=by unfold nn;omega
 have a2:nn q:=by unfold nn;omega
 have b1:p<9223372036854775808:=by omega
 have b2:q<9223372036854775808:=by omega
 obtain ⟨_,G',hG',z⟩:=bV (c:=Mu) (fuel:=fuel) (ph:=λ_=>ph) (σ:=Unit) (n:=q-q')
  (I:=λj _ X=>X=G)
  (S:=λj _ e=>aa s001 e=v1/\aa s005 e=v5/\aa s006 e=v6/\aa s007 e = .ptr KB 0/\aa s010 e=v10/\aa s014 e=vb/\aa s017 e=v17/\aa s021 e = .int 3 (q'+j)) (λj _ X hj hX=>by
   subst hX
   have jq:q'+j<q:=by omega
   have jp:¬ q'+j<p:=by omega
   have cj:q'+j<9223372036854775808:=by omega
   have nj:nn (q'+j):=by unfold nn;omega
   have j1:(q'+j+1)%18446744073709551616=q'+(j+1):=by omega
   refine ⟨(),X,rfl,λd kx r e x ⟨q1,q5,q6,q7,q10,q14,q17,q21⟩ hk=>?_⟩
   rw [ak]
   simp only [du]at gK
   simp only [go_sem,Mu,q7,q14,q21,gK,↓sk,↓sb,a1,a2,b1,b2,jq,jp,nj,j1]
   exact hk _ (by simp only [go_sem,q1,q5,q6,q7,q10,q14,q17,and_self])) (q-q') 0 () G (by omega) rfl
 subst hG'
 refine z 0 kx fuel e x (by omega) ⟨q1,q5,q6,q7,q10,q14,q17,q21⟩ λr e' ⟨q1,q5,q6,q7,q10,q14,q17,q21⟩=>?_
 rw [ak]
 rw [show q'+(q-q')=q by omega]at q21
 simp only [go_sem,Mu,q14,q21,↓sb,b2,a2,Wa]
 exact hx _ q1 q5 q6 q7 q10 q14 q17
end Go.Ev
end
section
namespace Go.Ev
open Go.Proofs
theorem Own.toRowOff {H G:Heap} {v:V} {sz n:Nat} {row:List V} {Q:Nat->Prop} (h:Own H G v sz n row) (hO:∀ b o n c s,v = .slice b o n c s->¬ Q b):Row G Q v sz n row:=by
 obtain ⟨h1,h2,⟨e,e0⟩|⟨b,c,s,rest,e,hb,hc,hb0,hbn⟩⟩:=h
 .exact ⟨h1,h2,YG ⟨YG e,e0⟩⟩
 .refine ⟨h1,h2,YD ⟨b,0,c,s,row ++ rest,e,YG hb,hbn,hO _ _ _ _ _ e,?_,?_⟩⟩
  .rw [YC];omega
  .rw [WV,<- h1,YJ3]
theorem Row.at_ {H:Heap} {O:Nat->Prop} {v:V} {sz n:Nat} {row:List V} (h:Row H O v sz n row) (hn:0<n):∃ b o c s,v = .slice b o n c s/\b<H.n/\¬ O b/\∀ {G:Heap},G.get b=H.get b->∀ {j:Nat} {x:V},row[j]? = some x->∀ {id:Nat} {k:V->R},LR id (G.get b) (o+j) k=k x:=by
 obtain ⟨h1,h2,⟨_,e0⟩|⟨b,o,c,s,l,e,hr,hb,hO,hl,bC⟩⟩:=h
 .omega
 .refine ⟨b,o,c,s,e,hb,hO,λ{G} hG {j x} hx {id k}=>?_⟩
  have hj:j<row.length:=by
   rcases Nat.lt_or_ge j row.length with h|h
   .exact h
   .rw [WW h]at hx;cases hx
  rw [<- bC,Yk,if_pos (by omega),Yx]at hx
  exact Pd (by rw [hG];exact hr) hx (h2 x (by rw [<- bC];exact YY (i:=j) (by rw [Yk,if_pos (by omega),Yx];exact hx)))
def ai.fst:ai->ai
 | .seq a _=>a
 | c=>c
def ai.snd:ai->ai
 | .seq _ b=>b
 | c=>c
def ai.ZT:ai->ai
 | .block _ a=>a
 | c=>c
theorem Row.dL {H:Heap} {O:Nat->Prop} {v:V} {sz n:Nat} {row:List V} (h:Row H O v sz n row) (hn:n<9223372036854775808) {id:Nat} {ph:cW} {e:Env} {G:Heap} {k:K} {x:Arg} (e1:ay x e=v):aM (.dL x) id ph e G k=k (.int 3 n) G:=by
 rw [JA,e1,h.sn (f:=λn=>ke id n G k)]
 simp only [go_sem,hn]
noncomputable def kB:ai:=nY.snd.fst.ZT
noncomputable def LP:ai:=kB.snd.snd.snd
noncomputable def LQ:ai:=LP.snd.snd.snd
noncomputable def Vm:ai:=LQ.snd.snd.snd.snd
noncomputable def kT4:ai:=Vm.snd
theorem kC3:Vm = .seq Vm.fst kT4:=rfl
theorem kC0:nY = .seq nY.fst (.seq (.block 1 (.seq kB.fst (.seq kB.snd.fst (.seq kB.snd.snd.fst LP)))) nY.snd.snd):=rfl
theorem kC1:LP = .seq LP.fst (.seq LP.snd.fst (.seq LP.snd.snd.fst LQ)):=rfl
theorem kC2:LQ = .seq LQ.fst (.seq LQ.snd.fst (.seq LQ.snd.snd.fst (.seq LQ.snd.snd.snd.fst Vm))):=rfl
def ya (l:List (Nat × Nat)):List V:=l.flatMap λp=>[.int 4 p.1,.int 4 p.2]
theorem AS:∀ {l:List (Nat × Nat)} {i:Nat},i<l.length->(ya l)[i*2]? = some (.int 4 (l.getD i (0,0)).1)/\(ya l)[i*2+1]? = some (.int 4 (l.getD i (0,0)).2)
 | [],i,h=>by simp at h
 | p :: l,0,h=>⟨rfl,rfl⟩
 | p :: l,i+1,h=>by
  have:=AS (l:=l) (i:=i) (by simpa using h)
  rw [show (i+1)*2=i*2+2 by omega]
  exact this
def KI (pk:List UInt8->List (List UInt8)) (H G:Heap) (vp KB i:Nat) (ss:List Sn) (va:V):Prop:=
 ∃ dp A O m vl vs vi a k us p q kn vk,VP G dp vp a k A O m vl vs vi/\VJ pk A a k us m 3/\A.aV=0/\m.ah=ss.take q/\q<=ss.length/\p<=ss.length/\kn.gs=(ss.map (·.g)).take p/\kn.ep<=i/\G.get KB = .cells (du kn vk)/\KB<G.n/\¬ bM O vp KB/\gj G (λb=>b=KB\/bM O vp b) m vl vs vi/\Row G (λb=>b=KB\/bM O vp b) va 2 (ss.map (·.g)).length (bz (ss.map (·.g)))/\Row G (λb=>b=KB\/bM O vp b) vk 2 p (bz ((ss.map (·.g)).take p))/\ae H G/\(∀ b,bM O vp b->H.n<=b)/\H.n<=KB
variable {t:Nat->Option cF} {fuel:Nat} {H:Heap} {pk:List UInt8->List (List UInt8)} {unpk:List (List UInt8)->Option (List UInt8)}
set_option maxRecDepth 5000 in
theorem DI (T:aG t) (hc:bg t) (F:bX pk unpk) (hp:t 123=some (.nat (eD pk))) (hi:t 27=some (.nat iK)) {G:Heap} {vp KB i:Nat} {ss:List Sn} {va vls:V} {ps:List (Nat × Nat)} (ssn:ss.length<=20) (sg:∀ s ∈ ss,jm s.g) (mono:∀ i j,i<=j->j<(ss.map (·.g)).length->((ss.map (·.g)).getD i (0,0)).1<=((ss.map (·.g)).getD j (0,0)).1) (hls:Row H (λ_=>False) vls 2 ps.length (ya ps)) (hpl:ps.length<9223372036854775808) (h8:∀ x ∈ ps,x.1<256/\x.2<256) (hin:i<ps.length) (hi10:i<10) (I:KI pk H G vp KB i ss va) (hfu:1000000<fuel):
 ∃ G',KI pk H G' vp KB (i+1) ss va/\∀ (d:Nat) (kx:Nat->KE) (r:Nat) (e:Env) (x:R),aa s001 e=vls->aa s005 e = .ptr vp 0->aa s006 e=va->aa s007 e = .ptr KB 0->aa s010 e = .int 3 i->
  (∀ e',aa s001 e'=vls->aa s005 e' = .ptr vp 0->aa s006 e'=va->aa s007 e' = .ptr KB 0->aa s010 e' = .int 3 (i+1)->jF nY fuel (aQ (aO Tryz.prog) t fuel (d+12)) kx r e' G'=x)->jF nY fuel (aQ (aO Tryz.prog) t fuel (d+12)) kx (r+1) e G=x:=by
 obtain ⟨dp,A,O,m,vl,vs,vi,a,k,us,p,q,kn,vk,S,I,hf,hms,hq,hpp,hkg,hke,gK,bK,nK,hM,rva,rvk,fr,own,hHK⟩:=I
 have w0:=S.jh.wf
 have lo:=S.lt
 generalize hal:ss.map (·.g)=al at *
 have aln:al.length=ss.length:=by rw [<- hal,WB]
 have hgo:∀ g ∈ al,jm g:=λg hg=>by rw [<- hal]at hg;obtain ⟨s,hs,rfl⟩:=Yc.1 hg;exact sg s hs
 have hkl:kn.gs.length=p:=by rw [hkg,Yp];omega
 obtain ⟨bL,oL,cL,zL,hvL,hbL,-,hrL⟩:=(hls.fresh fr).at_ (by omega)
 obtain ⟨e0,e1⟩:=AS hin
 obtain ⟨y08,y18⟩:=h8 _ (YY (show ps[i]? = some (ps.getD i (0,0)) by rw [YH,YB hin];rfl))
 generalize (ps.getD i (0,0)).1=y0 at *
 generalize (ps.getD i (0,0)).2=y1 at *
 have hr0:=λ{X:Heap} (h:X.get bL=_) {id:Nat} {k:V->R}=>hrL h e0 (id:=id) (k:=k)
 have hr1:=λ{X:Heap} (h:X.get bL=_) {id:Nat} {k:V->R}=>hrL h e1 (id:=id) (k:=k)
 obtain ⟨ep,hep⟩:∃ ep,ep=kn.ep+y1%2:=⟨_,rfl⟩
 obtain ⟨N,hN⟩:∃ N,N=max p (min (y0%11) al.length):=⟨_,rfl⟩
 obtain ⟨G1,hG1,f1,p1,n1⟩:=Heap.aU w0 (.cells [.int 7 0,.int 3 0,.bool false,.aB])
 have w1:=f1.wf
 have b1:G.n<G1.n:=by omega
 obtain ⟨G2,hG2,f2,p2,n2,w2,k2⟩:=Heap.bd (b:=G.n) f1 (YA _) b1 (.cells (du ⟨ep,0,false,[]⟩ .aB))
 obtain ⟨G3,c,w,f3,b3,g3,o3,of3,hcN,z3⟩:=N5 (cp:=aO Tryz.prog) (fuel:=fuel) (L:=G.n) (ep:=ep) (N:=N) (v1:=vls) (v10:=.int 3 i) T S rva bK gK (by rw [hkl,hkg];exact rvk) (by omega) (by omega) f2 (YA _) (by omega) p2 (by omega) (by omega) hgo mono (by omega)
 obtain ⟨G4,hG4,f4,p4,n4,w4,k4⟩:=Heap.bd (b:=G.n) f3 (YA _) b3 (.cells (du ⟨ep,c,false,al.take c⟩ w))
 have hcl:(al.take c).length=c:=by rw [Yp];omega
 have b4:G.n<G4.n:=by omega
 obtain ⟨G5,vb,z5o,f5,o5⟩:=kK (cp:=aO Tryz.prog) (fuel:=fuel) T (S.fresh f4) (by omega)
 have z5:=λ{d:Nat} {k:K}=>z5o d k
 have f05:=f4.trans f5
 have m5:=f05.n
 have g5:G5.get G.n = .cells (du ⟨ep,c,false,al.take c⟩ w):=(f5.same _ b4).trans p4
 have ow4:Own G G4 w 2 c (bz (al.take c)):=by rw [<- hG4];exact o3.nJ f3.wf b3 of3
 have r5:Row G5 (bM O vp) w 2 (al.take c).length (bz (al.take c)):=by rw [hcl];exact (ow4.toRow lo).fresh f5
 have rk5:Row G5 (bM O vp) vk 2 kn.gs.length (bz kn.gs):=by rw [hkl,hkg];exact (rvk.kT λb _ h=>YD h).fresh f05
 have hA:okV (32,0):=⟨rfl,by show 0<256 ^ 32;omega⟩
 obtain ⟨H6,O',w',z6o,RB,o6,off6⟩:=Ck (fuel:=fuel) (l':=⟨ep,c,false,al.take c⟩) T hc F hp hi (S.fresh f05) I hf hA (by omega) (by omega) rk5 r5 (by omega) (by rw [hcl];omega) (λg hg=>hgo g (WN hg)) (by omega) (show ep<_ by omega) (show c<1000 by omega) hfu
 have z6:=λ{d:Nat} {k:K}=>z6o d k
 obtain ⟨s6,A',m',vl',vs',vi',a',n',us',hs',S',I',hf',hX⟩:=RB
 have hM6:=hX (λb=>b=KB) (λb h=>by omega) (hM.fresh f05)
 have w6:=S'.jh.wf
 have nK':=(s6.same KB (by omega) nK).2
 obtain ⟨kn',hkn'⟩:∃ kn',kn'=RO kn ⟨ep,c,false,al.take c⟩:=⟨_,rfl⟩
 obtain ⟨E,hE⟩:∃ E,E=if Q6 ⟨ep,c,false,al.take c⟩=0 then 0 else 2:=⟨_,rfl⟩
 rw [<- hkn']at z6 o6
 rw [<- hE]at z6
 obtain ⟨H7,hH7,f7,p7,n7⟩:=Heap.aU w6 (.cells [.int 7 0,.int 3 0,.bool false,.aB])
 have w7:=f7.wf
 have b7:H6.n<H7.n:=by omega
 obtain ⟨H8,hH8,f8,p8,n8,w8,k8⟩:=Heap.bd (b:=H6.n) f7 (YA _) b7 (.cells (du kn' w'))
 have m6:=s6.n
 have m8:=f8.n
 have bK8:KB<H8.n:=by omega
 obtain ⟨G9,hG9⟩:∃ G9,H8.put KB (.cells (du kn' w'))=G9:=⟨_,rfl⟩
 have w9:G9.wf:=by rw [<- hG9,Heap.bE];exact w8
 have n9:G9.n=H8.n:=by rw [<- hG9,Heap.aT]
 have so:Step H8 (λb=>b=KB) G9 (λb=>b=KB):=by rw [<- hG9];exact Step.eO w8 bK8
 have g9K:G9.get KB = .cells (du kn' w'):=by rw [<- hG9,Heap.aF w8 bK8,if_pos rfl]
 have hM9:gj G9 (λb=>b=KB\/bM O' vp b) m' vl' vs' vi':=(((hM6.fresh f8).kT (Q:=λb=>bM O' vp b\/b=KB) λb _ h=>h.symm).dm (so.or (O:=bM O' vp))).kT λb _ h=>h.symm
 have S9:=(S'.fresh f8).dm so (λb hb e=>nK' (by rw [<- e];exact hb)) (hM9.kT λb _ h=>YD h)
 obtain ⟨Ga,vn,zao,fa,oa⟩:=kK (cp:=aO Tryz.prog) (fuel:=fuel) T S9 (by omega)
 have za:=λ{d:Nat} {k:K}=>zao d k
 have gaK:=(fa.same KB (by omega)).trans g9K
 have hmg:m.ah.map (·.g)=al.take q:=by rw [hms,QZ,hal]
 have pure:∃ p' q',m'.ah=ss.take q'/\q'<=q/\p'<=al.length/\kn'.gs=al.take p'/\kn'.ep<=i+1/\min p' q<=q'/\(q'<q->p'<=q'->(al.getD q' (0,0)).1<kn'.ep):=by
  rw [hs',hkn']
  unfold ZN RO
  by_cases h0:Q6 ⟨ep,c,false,al.take c⟩=0
  .rw [if_pos h0,if_pos h0,hmg]
   have hmgL:∃ p',p'<=al.length/\(pO kn ⟨ep,c,false,al.take c⟩).gs=al.take p'/\(pO kn ⟨ep,c,false,al.take c⟩).ep<=i+1:=by
    unfold pO
    split
    .exact ⟨c,by omega,rfl,by show ep<=i+1;omega⟩
    .exact ⟨p,by omega,hkg,by omega⟩
   obtain ⟨p',h1,h2,h3⟩:=hmgL
   obtain ⟨h4,h5,h6⟩:=PG (q:=q) (by omega) h1 h2
   exact ⟨p',po (al.take q) (pO kn ⟨ep,c,false,al.take c⟩),by rw [hms,List.take_take,show min (po (al.take q) (pO kn ⟨ep,c,false,al.take c⟩)) q=po (al.take q) (pO kn ⟨ep,c,false,al.take c⟩) by omega],h5,h1,h2,h3,h4,h6⟩
  .rw [if_neg h0,if_neg h0]
   exact ⟨p,q,hms,YA _,by omega,hkg,by omega,by omega,λh=>by omega⟩
 obtain ⟨p',q',hsq,hqq,hpa,hkg',hke',hmin,hepo⟩:=pure
 have hkl':kn'.gs.length=p':=by rw [hkg',Yp];omega
 have hqa:q<=al.length:=by omega
 have hml:m.ah.length=q:=by rw [hms,Yp];omega
 have hml':m'.ah.length=q':=by rw [hsq,Yp];omega
 rw [hmg,hml]at o5
 rw [hsq,QZ,hal,<- hsq,hml']at oa
 rw [hkl',hkg']at o6
 have rv6:Row H6 (λb=>b=KB\/bM O' vp b) va 2 al.length (bz al):=(rva.fresh f05).N3 s6 λb hb h=>⟨λh'=>h (YD h'),λh'=>h'.elim (λe=>h (YG e)) λh'=>(s6.same b hb λh''=>h (YD h'')).2 h'⟩
 have rw6:Row H6 (λb=>b=KB\/bM O' vp b) w' 2 p' (bz (al.take p')):=o6.toRowOff λb o n c s e h=>h.elim (λe'=>by have:=(off6 _ _ _ _ _ e).2;omega) (off6 _ _ _ _ _ e).1
 have rb6:Row H6 (λb=>b=KB\/bM O' vp b) vb 2 q (bz (al.take q)):=(o5.toRow (O:=λb=>b=KB\/bM O vp b) (λb h=>h.elim (λe=>by have:=f4.n;omega) λh=>by have:=lo b h;have:=f4.n;omega)).N3 s6 λb hb h=>⟨λh'=>h (YD h'),λh'=>h'.elim (λe=>h (YG e)) λh'=>(s6.same b hb λh''=>h (YD h'')).2 h'⟩
 have to9:∀ {v:V} {n:Nat} {row:List V},Row H6 (λb=>b=KB\/bM O' vp b) v 2 n row->Row Ga (λb=>b=KB\/bM O' vp b) v 2 n row:=λ{v n row} h=>((h.fresh f8).N3 so λb _ h=>⟨λe=>h (YG e),h⟩).fresh fa
 have rva':=to9 rv6
 have rvk':=to9 rw6
 have rvb':=to9 rb6
 obtain ⟨fr6,own6⟩:=(fr.trans f05).own s6 own
 have fr9:ae H G9:=by rw [<- hG9];exact (fr6.trans f8).put hHK bK8
 have rvn':Row Ga (λb=>b=KB\/bM O' vp b) vn 2 q' (bz (al.take q')):=oa.toRow λb h=>h.elim (λe=>by omega) λh=>by have:=S9.lt b h;omega
 refine ⟨Ga,⟨dp,A',O',m',vl',vs',vi',a',n',us',p',q',kn',w',S9.fresh fa,I',hf',hsq,by omega,by omega,by rw [hal];exact hkg',hke',gaK,by have:=fa.n;omega,nK',hM9.fresh fa,by rw [hal];exact rva',by rw [hal];exact rvk',fr9.trans fa,own6,hHK⟩,λd kx r e x q1 q5 q6 q7 q10 hk=>?_⟩
 have w0':=w0
 have sbb:=λ{id:Nat} {f:Nat->R}=>rvb'.sn (id:=id) (f:=f)
 have snn:=λ{id:Nat} {f:Nat->R}=>rvn'.sn (id:=id) (f:=f)
 have skk:=λ{id:Nat} {f:Nat->R}=>rvk'.sn (id:=id) (f:=f)
 have nq:nn q:=by unfold nn;omega
 have nq':nn q':=by unfold nn;omega
 have np':nn p':=by unfold nn;omega
 have cq:q<9223372036854775808:=by omega
 have cq':q'<9223372036854775808:=by omega
 have cpp:p'<9223372036854775808:=by omega
 have st4:∀ (KN:KE) (KX:Nat->KE) (e:Env),aa s001 e=vls->aa s005 e = .ptr vp 0->aa s006 e=va->aa s007 e = .ptr KB 0->aa s010 e = .int 3 i->aa s014 e=vb->aa s017 e=vn->
  (∀ e',aa s001 e'=vls->aa s005 e' = .ptr vp 0->aa s006 e'=va->aa s007 e' = .ptr KB 0->aa s010 e' = .int 3 i->KN e' Ga=x)->gZ Vm fuel (aQ (aO Tryz.prog) t fuel (d+12)) e Ga KN KX=x:=λKN KX e q1 q5 q6 q7 q10 q14 q17 hK=>by
  rw [kC3]
  generalize hT4:kT4=T4
  simp only [ai.fst,ai.snd,ai.ZT,Vm,LQ,LP,kB,nY]
  simp only [go_sem,q17,↓snn,cq']
  refine N7 (v1:=vls) (v5:=.ptr vp 0) (v6:=va) (v10:=.int 3 i) (v17:=vn) gaK rvk' rvb' hpa hqa hqq (by omega) hmin (by omega) _ _ _ _ ?_ ?_ ?_ ?_ ?_ ?_ ?_ ?_ λe1 q1 q5 q6 q7 q10 q14 q17=>?_
  all_goals first|(simp only [go_sem,q1,q5,q6,q7,q10,q14,q17];done)|skip
  subst hT4
  simp only [ai.fst,ai.snd,ai.ZT,kT4,Vm,LQ,LP,kB,nY]
  simp only [if_true]
  have gaK':=gaK
  simp only [du]at gaK'
  by_cases hlt:q'<q
  .obtain ⟨bB,oB,cB,zB,hvB,hbB,-,hrB⟩:=rvb'.open hlt
   have hx1:(bz (al.take q))[q'*2]? = some (.int 7 (al.getD q' (0,0)).1):=by
    rw [wj (by rw [Yp];omega),YH,Yk,if_pos hlt,<- YH]
   have hrB:=λ{id:Nat} {k:V->R}=>(hrB (G:=Ga) rfl).2 hx1 (id:=id) (k:=k)
   have hgq:=hgo _ (YY (show al[q']? = some (al.getD q' (0,0)) by rw [YH,YB (by omega)];rfl))
   have hge:=abg hgq.1 (show kn'.ep<18446744073709551616 by omega)
   rw [hvB]at q14 sbb
   by_cases hge2:kn'.ep<=(al.getD q' (0,0)).1
   .have hpq:¬ p'<=q':=λh=>by have:=hepo hlt h;omega
    simp only [go_sem,q7,q14,q17,↓snn,↓skk,nq,nq',np',cq,cq',cpp,hlt,↓hrB,gaK',hge,hge2,hpq,decide_true]
    exact hK _ q1 q5 q6 q7 q10
   .simp only [go_sem,q7,q14,q17,↓snn,nq,nq',cq,cq',hlt,↓hrB,gaK',hge,hge2,decide_false]
    exact hK _ q1 q5 q6 q7 q10
  .simp only [go_sem,q14,q17,↓snn,↓sbb,nq,nq',cq,cq',hlt]
   exact hK _ q1 q5 q6 q7 q10
 have st3:∀ (KN:KE) (KX:Nat->KE) (e:Env),aa s001 e=vls->aa s005 e = .ptr vp 0->aa s006 e=va->aa s007 e = .ptr KB 0->aa s010 e = .int 3 i->aa s014 e=vb->aa s015 e = .ptr H6.n 0->aa s016 e = .int 3 E->
  (∀ e',aa s001 e'=vls->aa s005 e' = .ptr vp 0->aa s006 e'=va->aa s007 e' = .ptr KB 0->aa s010 e' = .int 3 i->KN e' Ga=x)->gZ LQ fuel (aQ (aO Tryz.prog) t fuel (d+12)) e H8 KN KX=x:=λKN KX e q1 q5 q6 q7 q10 q14 q15 q16 hK=>by
  rw [kC2]
  generalize hT3:Vm=T3
  simp only [ai.fst,ai.snd,ai.ZT,LQ,LP,kB,nY]
  have jw':=λ{id:Nat} {k:R}=>aI o6.one (id:=id) (k:=k)
  have gK8:∃ l,H8.get KB = .cells l/\l.length=4:=⟨_,(f8.same KB (by omega)).trans ((s6.same KB (by omega) nK).1.trans ((f05.same KB bK).trans gK)),rfl⟩
  obtain ⟨l4,gK8,hl4⟩:=gK8
  obtain ⟨x0,x1,x2,x3,rfl⟩:∃ x0 x1 x2 x3,l4=[x0,x1,x2,x3]:=by
   match l4,hl4 with
   | [a,b,c,d],_=>exact ⟨a,b,c,d,rfl⟩
  have hE2:¬ E=0->E=2:=λh=>by rw [hE]at h ⊢;split at h<;>simp_all
  simp only [du]at p8 hG9
  by_cases h0:E=0
  .simp only [go_sem,q5,q7,q15,q16,h0,p8,gK8,w8,bK8,↓jw',hG9,↓za]
   subst hT3
   refine DH (v1:=vls) (v5:=.ptr vp 0) (v6:=va) (v10:=.int 3 i) gaK hkg' rvk' rvb' rvn' hpa hqa (by omega) (by omega) hmin (by omega) _ _ _ _ ?_ ?_ ?_ ?_ ?_ ?_ ?_ ?_ λe1 q1 q5 q6 q7 q10 q14 q17=>?_
   all_goals first|(simp only [go_sem,q1,q5,q6,q7,q10,q14];done)|skip
   simp only [go_sem]
   exact st4 _ _ _ q1 q5 q6 q7 q10 q14 q17 hK
  .simp only [go_sem,q5,q7,q15,q16,hE2 h0,p8,gK8,w8,bK8,↓jw',hG9,↓za]
   subst hT3
   refine DH (v1:=vls) (v5:=.ptr vp 0) (v6:=va) (v10:=.int 3 i) gaK hkg' rvk' rvb' rvn' hpa hqa (by omega) (by omega) hmin (by omega) _ _ _ _ ?_ ?_ ?_ ?_ ?_ ?_ ?_ ?_ λe1 q1 q5 q6 q7 q10 q14 q17=>?_
   all_goals first|(simp only [go_sem,q1,q5,q6,q7,q10,q14];done)|skip
   simp only [go_sem]
   exact st4 _ _ _ q1 q5 q6 q7 q10 q14 q17 hK
 have st2:∀ (KN:KE) (KX:Nat->KE) (e:Env),aa s001 e=vls->aa s005 e = .ptr vp 0->aa s006 e=va->aa s007 e = .ptr KB 0->aa s010 e = .int 3 i->aa s011 e = .ptr G.n 0->
  (∀ e',aa s001 e'=vls->aa s005 e' = .ptr vp 0->aa s006 e'=va->aa s007 e' = .ptr KB 0->aa s010 e' = .int 3 i->KN e' Ga=x)->gZ LP fuel (aQ (aO Tryz.prog) t fuel (d+12)) e G3 KN KX=x:=λKN KX e q1 q5 q6 q7 q10 q11 hK=>by
  rw [kC1]
  generalize hT2:LQ=T2
  simp only [ai.fst,ai.snd,ai.ZT,LP,kB,nY]
  have sw:=λ{id:Nat} {f:Nat->R}=>o3.sn (id:=id) (f:=f)
  have jw:=λ{id:Nat} {k:R}=>aI o3.one (id:=id) (k:=k)
  have jw':=λ{id:Nat} {k:R}=>aI o6.one (id:=id) (k:=k)
  have gK5:=(f05.same KB bK).trans gK
  have nc:nn c:=by unfold nn;omega
  have cc:c<9223372036854775808:=by omega
  have w3:=f3.wf
  simp only [du]at g3 hG4 p4 g5 gK5 z6 hH7 p7 hH8
  simp only [Q7]at z6
  simp only [go_sem,q5,q7,q11,g3,↓sw,cc,w3,b3,hG4,↓z5,gK5,g5,↓z6,w6,hH7,w7,b7,p7,↓jw',hH8]
  subst hT2
  refine st3 _ _ _ ?_ ?_ ?_ ?_ ?_ ?_ ?_ ?_ hK
  all_goals simp only [go_sem,q1,q5,q6,q7,q10]
 have sl:=λ{id:Nat} {f:Nat->R}=>hls.sn (id:=id) (f:=f)
 have sk:=λ{id:Nat} {f:Nat->R}=>rvk.sn (id:=id) (f:=f)
 have sa:=λ{id:Nat} {f:Nat->R}=>rva.sn (id:=id) (f:=f)
 have np:nn ps.length:=hpl
 have ni:nn i:=by unfold nn;omega
 have ci:i<9223372036854775808:=by omega
 have i1:(i+1)%18446744073709551616=i+1:=by omega
 have gl:G.get bL=G.get bL:=rfl
 have hr0a:=λ{id:Nat} {k:V->R}=>hr0 rfl (id:=id) (k:=k)
 have hr1a:∀ {id:Nat} {k:V->R},LR id (G.get bL) (oL+i*2+1) k=k (.int 4 y1):=λ{id k}=>by rw [Wh];exact hr1 rfl
 have hr0b:=λ{id:Nat} {k:V->R}=>hr0 (f2.same bL hbL) (id:=id) (k:=k)
 have rm2:∀ {id:Nat} {f:Nat->R},iS id (.rem 256) y1 2 f=f (y1%2):=λ{id f}=>uN (by omega) (by omega) (by omega)
 have rm11:∀ {id:Nat} {f:Nat->R},iS id (.rem 9223372036854775808) y0 11 f=f (y0%11):=λ{id f}=>uN (by omega) (by omega) (by omega)
 have gK2:=(f2.same KB bK).trans gK
 have u1:y1%2%18446744073709551616=y1%2:=by omega
 have u2:(kn.ep+y1%2)%18446744073709551616=ep:=by omega
 have u3:y0%18446744073709551616=y0:=by omega
 have lk:=λ{id:Nat} {ph:cW} {e:Env} {G:Heap} {k:K} {x:Arg}=>rvk.dL (by omega) (id:=id) (ph:=ph) (e:=e) (G:=G) (k:=k) (x:=x)
 have la:=λ{id:Nat} {ph:cW} {e:Env} {G:Heap} {k:K} {x:Arg}=>rva.dL (by omega) (id:=id) (ph:=ph) (e:=e) (G:=G) (k:=k) (x:=x)
 have mm1:sI true 9223372036854775808 18446744073709551616 p (sI false 9223372036854775808 18446744073709551616 (y0%11) al.length)=N:=by
  rw [On (by unfold nn;omega) (by unfold nn;omega),Ol (by unfold nn;omega) (by unfold nn;omega),hN]
 have npp:nn p:=by unfold nn;omega
 have cp':p<9223372036854775808:=by omega
 have ca:al.length<9223372036854775808:=by omega
 rw [hvL]at q1 sl hls
 simp only [du]at gK gK2 hG2 p2
 rw [ak]
 generalize hL0:jF nY fuel (aQ (aO Tryz.prog) t fuel (d+12)) kx r=LL at hk ⊢
 rw [kC0]
 generalize hT1:LP=T1
 simp only [ai.fst,ai.snd,ai.ZT,kB,nY]
 simp only [go_sem,ZE,q1,q6,q7,q10,np,ni,ci,hin,hi10,gK,w0,hG1,p1,w1,b1,hG2,↓hr1a,↓rm2,u1,u2,u3,hpl,gK2,↓sk,↓hr0b,↓rm11,↓sa,cp',ca,mm1]
 refine z3 (d+11) _ _ _ ?_ ?_ ?_ ?_ ?_ ?_ ?_ ?_ λe1 q1 q5 q6 q7 q10 q11=>?_
 all_goals first|(simp only [go_sem,q1,q5,q6,q7,q10,hvL];done)|skip
 subst hT1
 simp only [go_sem]
 refine st2 _ _ _ q1 q5 q6 q7 q10 q11 λe' q1 q5 q6 q7 q10=>?_
 simp only [go_sem,q10,i1]
 subst hL0
 exact hk _ q1 q5 q6 q7 rfl
end Go.Ev
end
section
namespace Go.Ev
open Go.Proofs
variable {t:Nat->Option cF} {fuel:Nat} {H:Heap} {pk:List UInt8->List (List UInt8)} {unpk:List (List UInt8)->Option (List UInt8)}
theorem wT (T:aG t) (hc:bg t) (F:bX pk unpk) (hp:t 123=some (.nat (eD pk))) (hu:t 89=some (.nat (fC unpk))) (hi:t 27=some (.nat iK)) (hwk:t 7=some (.nat D0)) (hw:H.wf) {l0 vls:V} {rs:List (List Nat)} {ps:List (Nat × Nat)} (hr:FB H l0 rs) (hls:Row H (λ_=>False) vls 2 ps.length (ya ps)) (hpl:ps.length<9223372036854775808) (h8:∀ x ∈ ps,x.1<256/\x.2<256) (hfu:1000000<fuel)
 (d:Nat) (k:K) (x:R) (hx:∀ H',ae H H'->k (.bool true) H'=x):aj (aQ (aO Tryz.prog) t fuel (d+13)) (.func 6 []) [l0,vls] H k=x:=by
 obtain ⟨G1,v,z1o,f1,hv⟩:=DU (fuel:=fuel) T hc F hp hu hw hr hfu
 have z1:=λ{k:K}=>z1o d k
 have zw:=λ{d:Nat} {k:K} {G:Heap}=>Ca (fuel:=fuel) hwk (cp:=aO Tryz.prog) d k G
 have il0:=λ{id:Nat} {k:R}=>(let ⟨_,_,h,_⟩:=hr;aI h.one (id:=id) (k:=k))
 have il1:=λ{id:Nat} {k:R}=>aI hls.one (id:=id) (k:=k)
 rcases hv with rfl|⟨vp,rfl,dp,A,O,m,vl,vs,vi,a,kk,us,S,I,hf,fr,own,hM⟩
 .rw [aR T.k3 rfl rfl]
  simp only [go_sem,c3,Xa,Xb,↓z1,↓zw]
  exact hx _ f1
 have hn:=I.ok.num
 have lo:=S.lt
 obtain ⟨G2,va,z2o,f2,o2⟩:=kK (cp:=aO Tryz.prog) (fuel:=fuel) T S (by omega)
 have z2:=λ{d:Nat} {k:K}=>z2o d k
 have w2:=f2.wf
 obtain ⟨G3,hG3,f3,p3,n3⟩:=Heap.aU w2 (.cells [.int 7 0,.int 3 0,.bool false,.aB])
 have w3:=f3.wf
 have b3:G2.n<G3.n:=by omega
 obtain ⟨G4,hG4,f4,p4,n4,w4,k4⟩:=Heap.bd (b:=G2.n) f3 (YA _) b3 (.cells (du ⟨0,0,false,[]⟩ .aB))
 have f14:=f2.trans f4
 have m2:=f2.n
 have m1:=f1.n
 have hal:(m.ah.map (·.g)).length=m.ah.length:=WB ..
 have hM4:gj G4 (λb=>b=G2.n\/bM O vp b) m vl vs vi:=(hM.kT λb hb h=>h.elim (λe=>by omega) YD).fresh f14
 have rva:Row G4 (λb=>b=G2.n\/bM O vp b) va 2 (m.ah.map (·.g)).length (bz (m.ah.map (·.g))):=by
  rw [hal]
  exact (o2.fresh f4).toRowOff λb o n c s e h=>by
   have:=o2.cO e
   exact h.elim (λe=>by omega) λh=>by have:=lo b h;omega
 have K0:KI pk H G4 vp G2.n 0 m.ah va:=⟨dp,A,O,m,vl,vs,vi,a,kk,us,0,m.ah.length,⟨0,0,false,[]⟩,.aB,S.fresh f14,I,hf,(List.take_length).symm,YA _,Yd _,rfl,YA _,p4,by omega,λh=>by have:=lo _ h;omega,hM4,rva,Uc,fr.trans f14,own,by omega⟩
 have sn:=λ{id:Nat} {f:Nat->R}=>hls.sn (id:=id) (f:=f)
 have np:nn ps.length:=hpl
 obtain ⟨_,G',K',z⟩:=bV (c:=nY) (fuel:=fuel) (ph:=λd=>aQ (aO Tryz.prog) t fuel (d+12)) (σ:=Unit) (n:=min ps.length 10)
  (I:=λi _ G=>KI pk H G vp G2.n i m.ah va)
  (S:=λi _ e=>aa s001 e=vls/\aa s005 e = .ptr vp 0/\aa s006 e=va/\aa s007 e = .ptr G2.n 0/\aa s010 e = .int 3 i) (λi _ G hi0 K=>by
   obtain ⟨G',K',z⟩:=DI (fuel:=fuel) T hc F hp hi I.ok.num (λs hs=>gh I.Eg s hs) (λi j hij hj=>I.ok.ah.Vp hij (by rw [hal]at hj;exact hj)) hls hpl h8 (by omega) (by omega) K hfu
   exact ⟨(),G',K',λd kx r e x ⟨q1,q5,q6,q7,q10⟩ hk=>z d kx r e x q1 q5 q6 q7 q10 λe' q1 q5 q6 q7 q10=>hk e' ⟨q1,q5,q6,q7,q10⟩⟩) (min ps.length 10) 0 () G4 (by omega) K0
 obtain ⟨dp',A',O',m',vl',vs',vi',a',kk',us',p',q',kn',vk',-,-,-,-,-,-,-,-,-,-,-,-,-,-,frl,-,-⟩:=K'
 have jva:=λ{id:Nat} {k:R}=>aI o2.one (id:=id) (k:=k)
 rw [aR T.k3 rfl rfl]
 simp only [du]at hG4
 simp only [go_sem,c3,Xa,Xb,aaK,aaL,aaM,↓z1,↓z2,w2,hG3,p3,w3,b3,hG4]
 refine z d _ fuel _ _ (by omega) ⟨?_,?_,?_,?_,?_⟩ λr e' ⟨q1,q5,q6,q7,q10⟩=>?_
 all_goals first|(simp only [go_sem];done)|skip
 rw [ak]
 by_cases h:ps.length<10
 .have e1:min ps.length 10=ps.length:=by omega
  rw [e1]at q10
  simp only [go_sem,nY,So,Sp,q1,q10,↓sn,hpl,np,Wa,↓zw]
  exact hx _ frl
 .have e1:min ps.length 10=10:=by omega
  rw [e1]at q10
  have n10:nn 10:=by unfold nn;omega
  by_cases h1:10<ps.length
  .simp only [go_sem,nY,So,Sp,q1,q10,↓sn,hpl,np,n10,h1,Wa,↓zw]
   exact hx _ frl
  .have e2:ps.length=10:=by omega
   rw [e2]at sn
   simp only [go_sem,ZE,nY,So,Sp,q1,q10,↓sn,n10,Wa,↓zw]
   exact hx _ frl
end Go.Ev
end
section
namespace Go.Ev
open Go.Deep Go.ChangeShapes Go.WideShapes Go.RowKit
theorem wk:∀ l:List (Nat × Nat),(ya l).length=l.length*2
 | []=>rfl
 | p :: l=>by
  show (_ ++ ya l).length=_
  rw [YC,wk l]
  simp only [YF,YM];omega
theorem Nw:∀ {l:List (Nat × Nat)},∀ x ∈ ya l,x.one=true:=λ{l} x hx=>by
 obtain ⟨p,_,h⟩:=YG4.1 hx
 simp only [YP,List.not_mem_nil,or_false]at h
 rcases h with rfl|rfl<;>rfl
section
variable {H:Type} {enc:TypeId × Value->H} {P:Program} {w:World}
theorem T7 {t e g:TypeId} {fuel:Nat} {v:Value} {x:DataW H × List MemPlace} (ht:P.underlying t=some (.slice e)) (hz:P.cellsOf e=2) (he:P.underlying e=some (.array 2 g)) (hg:P.cellsOf g=1) (hu:P.underlying g=some (.int .u8)) (h:DataW.trod enc P w 0 (λ_=>true) true fuel t [v]=some x) (hnf:w.noneFrozen x.2):
 (qt w.heap.size v).one=true/\∃ ps:List (Nat × Nat),ps.length<9223372036854775808/\(∀ q ∈ ps,q.1<256/\q.2<256)/\Row (dQ w) (λ_=>False) (qt w.heap.size v) 2 ps.length (ya ps):=by
 obtain ⟨h1,h2⟩:=qX ht hz (by omega) h hnf (λ_ _ _ _ _ hb=>(show False from hb).elim)
 refine ⟨h1,?_⟩
 rcases h2 with h2|⟨b,o,len,c,row,hl0,hl,hv,hb,hbn,hx⟩
 .exact ⟨[],by simp,λx hx=>(by cases hx),⟨rfl,λx hx=>(by cases hx),YG ⟨h2,rfl⟩⟩⟩
 have each:∀ i,i<len->∃ p:Nat × Nat,row[o+i*2]? = some (.int 4 p.1)/\row[o+i*2+1]? = some (.int 4 p.2)/\p.1<256/\p.2<256:=λi hi=>by
  obtain ⟨cs,n,y,hlen,hcs,htr,hnf'⟩:=hx i hi
  obtain ⟨ys,m,_,rfl,hl,hyl,hel⟩:=DataW.trod_array he htr
  match cs,hlen,ys,hyl with
  | [v0,v1],_,[y0,y1],_=>
   have e0:=hel 0 (by omega)
   have e1:=hel 1 (by omega)
   simp [hg]at e0 e1
   obtain ⟨a0,q0,_,x0⟩:=DataW.trod_int hu e0
   obtain ⟨a1,q1,_,x1⟩:=DataW.trod_int hu e1
   cases q0
   cases q1
   have r0:=hcs 0 _ rfl
   have r1:=hcs 1 _ rfl
   rw [WD,BY x0]at r0
   rw [BY x1]at r1
   exact ⟨(_,_),r0,r1,Iw,Iw⟩
 obtain ⟨p,hp⟩:=choose_lt each
 have hpl:((WT len).map p).length=len:=by rw [WB,List.length_range]
 have hget:∀ i,i<len->((WT len).map p).getD i (0,0)=p i:=λi hi=>by
  rw [YH,Yj,List.getElem?_range hi];rfl
 have hlast:=(List.getElem?_eq_some_iff.1 (hp (len-1) (by omega)).2.1).1
 refine ⟨(WT len).map p,by rw [hpl];omega,λq hq=>?_,?_⟩
 .obtain ⟨i,hi,rfl⟩:=Yc.1 hq
  exact (hp i (List.mem_range.1 hi)).2.2
 .rw [hpl]
  refine ⟨by rw [wk,hpl],Nw,YD ⟨b,o,c,0,row,hv,YD hb,hbn,λh=>h,by omega,List.ext_getElem? λk=>?_⟩⟩
  rw [Yk]
  by_cases hk:k<len*2
  .rw [if_pos hk,Yx]
   obtain ⟨i,hi⟩:∃ i,i=k/2:=⟨_,rfl⟩
   have hil:i<len:=by omega
   obtain ⟨e0,e1⟩:=AS (l:=(WT len).map p) (i:=i) (by omega)
   rw [hget i hil]at e0 e1
   rcases (by omega:k=i*2\/k=i*2+1) with rfl|rfl
   .rw [e0];exact (hp i hil).1
   .rw [e1,<- Wh];exact (hp i hil).2.1
  .rw [if_neg hk,WW (by rw [wk,hpl];omega)]
end
end Go.Ev
end

