/- VB: a part of the evaluator,of its logic,or of the laws' walk in it. -/
import Derived.Test.YtnndgkcpacpleaaGreatDoorLC
open List renaming getElem?_eq_getElem → YA,length_append → YC,getD_eq_getElem?_getD → YF,length_cons → YH,mem_cons_of_mem → YI,nil_append → YK,cons_append → YL,length_nil → YO,map_cons → YP,eq_nil_of_length_eq_zero → YQ,append_nil → YR,mem_of_getElem? → YS,mem_singleton → YU,take_of_length_le → YV,getElem_mem → YW,replicate → YZ,mem_cons → Yb,map_nil → Yc,getElem?_map → Yg,mem_map → Yi,getElem?_append_right → Ym,mem_append → Yn,getElem?_eq_some_iff → Yo,getElem?_append_left → Yp,length_map → Ys,getElem?_take → Yu,getElem?_drop → Yy,append_assoc → WA,map_append → WB,take_zero → WK,take_length → WZ,mem_of_mem_take → Wc,findIdx?_eq_some_iff_getElem → Wh,length_set → YA0
open Nat renaming le_refl → YB,lt_of_lt_of_le → YD,zero_le → Yf,le_trans → Yr,add_zero → WL,mul_one → WS,add_mul → Wi,not_lt_zero → Wm,sub_self → QR,add_assoc → Qe,le_zero → YG4
open Or renaming inr → YE,inl → YG
open Bool renaming false_eq_true → YT,or_false → Qx,and_false → YB2,and_true → YH0
open Option renaming getD_some → Yl,getD_none → Wq
open Prod renaming fst → YF1,snd → YN3
set_option linter.unusedVariables false
set_option linter.unusedSimpArgs false
set_option linter.unusedSectionVars false
set_option maxHeartbeats 8000000
open Nat renaming reduceAdd→ZA,reduceSub→ZB,reduceMul→ZC,reduceEqDiff→ZD,reduceLT→ZE,reduceDiv→ZF,reduceMod→ZG,reduceLeDiff→ZH
section
namespace Go.Ev
def iI (A:AD) (ss:List (List UInt8)):Nat->List Wr
 | 0=>[]
 | i+1=>iI A ss i ++ (if A.read (145+i)=tx (ss.getD i []) then [] else [(145+i,tx (ss.getD i []))])
theorem sk (A) (ss):∀ i,(iI A ss i).length<=i
 | 0=>YB _
 | i+1=>by
  have:=sk A ss i
  simp only [iI,YC]
  split<;>simp<;>omega
theorem oZ {A} {ss}:∀ {i} {w},w ∈ iI A ss i->∃ j,j<i/\w=(145+j,tx (ss.getD j []))
 | 0,w,h=>by cases h
 | i+1,w,h=>by
  rcases Yn.1 h with h|h
  .obtain ⟨j,hj,e⟩:=oZ h;exact ⟨j,by omega,e⟩
  .split at h
   .cases h
   .exact ⟨i,by omega,YU.1 h⟩
theorem rf {A} {ss}:∀ i,((iI A ss i).map (·.1)).Nodup
 | 0=>List.nodup_nil
 | i+1=>by
  simp only [iI,WB]
  refine List.nodup_append.2 ⟨rf i,by split<;>simp,λx hx y hy=>?_⟩
  obtain ⟨w,hw,rfl⟩:=Yi.1 hx
  obtain ⟨j,hj,rfl⟩:=oZ hw
  split at hy
  .cases hy
  .simp only [YP,Yc,YU]at hy
   omega
theorem L7 {A} {ss}:∀ {i j},j<i->A.read (145+j)≠tx (ss.getD j [])->((145+j,tx (ss.getD j [])):Wr) ∈ iI A ss i
 | 0,j,h,_=>by omega
 | i+1,j,h,hn=>by
  simp only [iI]
  by_cases hj:j=i
  .simp_all
  .exact List.mem_append_left _ (L7 (by omega) hn)
theorem Nb {A B:AD} {ss} {n} (hB:∀ k,145<=k->find B.es k=find (laid A.es (iI A ss n)) k) {j} (hj:j<n):B.read (145+j)=tx (ss.getD j []):=by
 rw [AD.read,hB _ (by omega)]
 by_cases h:A.read (145+j)=tx (ss.getD j [])
 .have hno:145+j ∉ (iI A ss n).map (·.1):=λhm=>by
   obtain ⟨w,hw,e⟩:=Yi.1 hm
   have:∀ m,((145+j,tx (ss.getD j [])):Wr) ∉ iI A ss m:=by
    intro m
    induction m with
    | zero=>intro h;cases h
    | succ m ih=>
     intro hx
     simp only [iI]at hx
     simp_all
   obtain ⟨i,hi,rfl⟩:=oZ hw
   simp_all
  rw [dB hno]
  exact h
 .rw [show find (laid A.es (iI A ss n)) (145+j)=some (tx (ss.getD j [])) from fu (rf n) (L7 hj h)]
  rfl
theorem Cu {len}:∀ {ws} {seen},(∀ w ∈ ws,qO len w/\w.1 ∉ seen)->(ws.map (·.1)).Nodup->iq len seen ws=true
 | [],_,_,_=>rfl
 | w :: ws,seen,h,hn=>by
  rw [YP,List.nodup_cons]at hn
  simp only [iq]
  rw [if_pos (h w (List.mem_cons_self ..))]
  refine Cu (λv hv=>⟨(h v (YI _ hv)).1,λhm=>?_⟩) hn.2
  rcases Yn.1 hm with hm|hm
  .exact (h v (YI _ hv)).2 hm
  .exact hn.1 (Yi.2 ⟨v,hv,YU.1 hm⟩)
theorem Mn {m} (h:(pH m).2=0):(pH m).1.length<=1530:=by
 unfold pH at h ⊢
 split at h
 .rename_i h0
  rw [if_pos h0]
  split at h
  .omega
  .rename_i h1
   rw [if_neg h1]
   show (bj (nB m)).length<=1530
   omega
 omega
section
variable {cp:RC->ah} {t:Nat->Option cP} {fuel:Nat} {H:Heap} {O:Nat->Prop} {pk:List UInt8->List (List UInt8)} {unpk:List (List UInt8)->Option (List UInt8)}
theorem yK (T:aA t) (F:cD pk unpk) (hp:t 102=some (.nat (gI pk))) {m} {vl vs vi} (hw:H.wf) (M:ku H O m vl vs vi) (Y:rP m) (hfu:1000<fuel):
 ∃ H' v,(∀ (d) (k),aj (aN cp t fuel (d+7)) (.func 78 []) [.agg (aW m vl vs vi)] H k=k (.cH [v,.int 3 (pH m).2]) H')/\af H H'/\v.one=true/\((pH m).2=0->Own H H' v 1 (pk (pH m).1).length ((pk (pH m).1).map tv)):=by
 have i1:=λ{id} {k}=>aI M.live.one (id:=id) (k:=k)
 have i2:=λ{id} {k}=>aI (let ⟨_,h,_⟩:=M.aa;h.one) (id:=id) (k:=k)
 have i3:=λ{id} {k}=>aI M.cF.one (id:=id) (k:=k)
 obtain ⟨G1,hG1,f1,p1,n1⟩:=Heap.aO hw (.cells (aW m vl vs vi))
 obtain ⟨G2,z2,f2⟩:=uB (cp:=cp) T f1.wf (M.fresh f1) Y hfu
 have w2:=f2.wf
 have z2:=λ{d} {k}=>z2 d k
 by_cases h0:(pH m).2=0
 .have hl:=Mn h0
  obtain ⟨G3,hG3,f3,p3,n3⟩:=Heap.aO w2 (.cells ((pk (pH m).1).map tv))
  have hpl:∀ {d} {k},aj (aN cp t fuel (d+1)) (.func 204 []) [.str (pH m).1.length (enc (pH m).1)] G2 k=k (.cH [.slice G2.n 0 (pk (pH m).1).length 0 1,.int 3 0]) G3:=λ{d k}=>by
   rw [oO hp rfl rfl]
   simp only [gI,YR,fN]
   rw [if_pos ⟨by omega,jA _⟩,cE w2,hG3]
  refine ⟨G3,.slice G2.n 0 (pk (pH m).1).length 0 1,λd k=>?_,(f1.trans f2).trans f3,rfl,λ_=>⟨by simp,λx hx=>?_,YE ⟨_,_,_,[],rfl,by rw [YR];omega,YE ⟨rfl,rfl,rfl⟩,(f1.trans f2).n,by omega⟩⟩⟩
  .rw [h0]at z2 ⊢
   simp only [tv]at z2
   simp only [aW,bq]at hG1 p1 z2
   rw [aJ T.k39 rfl rfl]
   simp only [go_sem,c39,aW,bq,↓i1,↓i2,↓i3,hw,hG1,p1,↓z2,↓hpl]
  .obtain ⟨s,-,rfl⟩:=Yi.1 hx
   rfl
 .refine ⟨G2,.az,λd k=>?_,f1.trans f2,rfl,λh=>absurd h h0⟩
  simp only [aW,bq]at hG1 p1 z2
  rw [aJ T.k39 rfl rfl]
  simp only [go_sem,c39,aW,bq,↓i1,↓i2,↓i3,hw,hG1,p1,↓z2,h0]
end
end Go.Ev
end
section
namespace Go.Ev
theorem Gr.grow {H G:Heap} {v x:V} {sz n m:Nat} {row new:List V} (f:af H G) (h:Gr H G v sz n row) (hN:∀ {id:Nat} {f:Nat->List V->R},cT id sz G x f=f m new) (hl:new.length=m*sz) (hone:∀ v ∈ new,v.one=true) (hb:n+m<1000000):
 ∃ v' G',(∀ {id:Nat} {ph:cU} {e:Env} {k:K} {a y:Arg},ay a e=v->ay y e=x->aL (.app false sz a y) id ph e G k=k v' G')/\Gr H G' v' sz (n+m) (row ++ new)/\af H G'/\(∀ j,j<G.n->js v j->G'.get j=G.get j):=by
 by_cases hm:m=0
 .subst hm
  have hr:new=[]:=YQ (by omega)
  subst hr
  refine ⟨v,G,λ{id ph e k a y} ha hx=>?_,by rw [YR];exact h,f,λj _ _=>rfl⟩
  rw [cW,ha,hx,hN]
  obtain ⟨_,_,⟨rfl,_⟩|⟨b,c,s,rfl,_⟩⟩:=h
  .rw [eC,if_pos rfl]
  .rw [cw,if_pos rfl]
 have hw:=f.wf
 obtain ⟨h1,h2,⟨rfl,rfl⟩|⟨b,c,s,rfl,g2,g3,g4,g5,g6⟩⟩:=h
 .have hr:row=[]:=YQ (by omega)
  subst hr
  refine ⟨.slice G.n 0 m 0 sz,G.new (.cells new),λ{id ph e k a y} ha hx=>?_,⟨by simp [hl],by simpa using hone,YE ⟨G.n,0,sz,by rw [Nat.zero_add],by omega,YE ⟨rfl,rfl⟩,?_,f.n,by rw [Heap.aM];omega⟩⟩,f.trans (af.new hw),λj hj _=>?_⟩
  .rw [cW,ha,hx,hN,eC,if_neg hm,bT hone,if_pos (by omega),cE hw]
  .rw [Heap.aD hw,if_pos rfl];rfl
  .rw [Heap.aD hw,if_neg (by omega)]
 .have hlr:∀ {id:Nat} {g:List V->R},ec id G b 0 (n*sz) g=g row:=λ{id g}=>by
   rw [pE,g4,fR,fk (Yf _),eP (by simp [h1])]
   rw [List.drop_zero,YV (by omega)]
  have hlen:(row ++ new).length=(n+m)*sz:=by rw [YC,h1,hl,Wi]
  have hon:∀ v ∈ row ++ new,v.one=true:=λv hv=>(Yn.1 hv).elim (h2 v) (hone v)
  rcases g3 with rfl|⟨rfl,rfl⟩
  .refine ⟨.slice G.n 0 (n+m) 0 sz,G.new (.cells (row ++ new)),λ{id ph e k a y} ha hx=>?_,⟨hlen,hon,YE ⟨G.n,0,sz,rfl,by omega,YE ⟨rfl,rfl⟩,?_,f.n,by rw [Heap.aM];omega⟩⟩,f.trans (af.new hw),λj hj _=>?_⟩
   .rw [cW,ha,hx,hN,cw,if_neg hm,iE (by omega),bT hone,if_pos (by omega),hlr,bT h2,cE hw]
   .rw [Heap.aD hw,if_pos rfl]
   .rw [Heap.aD hw,if_neg (by omega)]
  .have hw2:(G.put b .dead).wf:=by rw [Heap.bF];exact hw
   refine ⟨.slice G.n 0 (n+m) 0 s,(G.put b .dead).new (.cells (row ++ new)),λ{id ph e k a y} ha hx=>?_,⟨hlen,hon,YE ⟨G.n,0,s,rfl,by omega,YE ⟨rfl,rfl⟩,?_,f.n,by rw [Heap.aM,Heap.aR];omega⟩⟩,(f.put g5 g6).trans (af.new hw2),λj hj ho=>?_⟩
   .rw [cW,ha,hx,hN,cw,if_neg hm,mb,bT hone,if_pos (by omega),g4,fR,if_pos h1,fm hw g6,cE hw2,Heap.aR]
   .rw [Heap.aD hw2,if_pos (by rw [Heap.aR])]
   .rw [Heap.aD hw2,if_neg (by rw [Heap.aR];omega),Heap.aE hw g6,if_neg (ho _ _ _ _ _ rfl)]
theorem tQ {ph} {e} {H H'} {kn:KE} {n0 id} {l} {fl st} {dd} {i bf} {ad} {op} {v w} {x} (hb:ay ad e=w) (hw:w = .az\/∃ b o n c s,w = .slice b o n c s/\∀ k:R,dv id bf b fl k=k) (hop:∀ k:K,aL op id ph e H k=k v H')
 (hx:∀ st',bD ph n0 l (dJ dd v e) H' fl st' kn=x):bD ph n0 (⟨id,dd,none,3,i,bf,ad,op⟩:: l) e H fl st kn=x:=by
 show aG ad e (λa=>nR id a λob=>Option.rec (aL op id ph e H λv H'=>bV dd v e λe'=>bD ph n0 l e' H' fl st kn)
  (λb=>dv id bf b fl (aL op id ph e H λv H'=>bV dd v e λe'=>bD ph n0 l e' H' fl ((i,b):: st) kn)) ob)=_
 rw [aq,hb]
 rcases hw with rfl|⟨b,o,n,c,s,rfl,h⟩
 .show aL op id ph e H (λv H'=>bV dd v e λe'=>bD ph n0 l e' H' fl st kn)=_
  rw [hop,cq]
  simp_all
 .show dv id bf b fl (aL op id ph e H λv H'=>bV dd v e λe'=>bD ph n0 l e' H' fl ((i,b):: st) kn)=_
  rw [h,hop,cq]
  simp_all
def Lx (cp:RC->ah) (t:Nat->Option cP) (fuel B bt:Nat):List V->Heap->Heap->Prop
 | [],G,G'=>G'=G
 | f :: fs,G,G'=>∃ G1,(∀ (d:Nat) (k:K),aj (aN cp t fuel (d+5)) f [.ptr B 0] G k=k (.cH []) G1)/\G1.get bt=G.get bt/\Lx cp t fuel B bt fs G1 G'
def vc (m:MT) (vl vs vi:V) (dp:Nat) (lost:Bool):List V:=aW m vl vs vi ++ [.ptr dp 0,.bool lost]
section
variable {cp:RC->ah} {t:Nat->Option cP} {fuel:Nat} {H:Heap}
theorem kX (T:aA t) {B bt c z vp} {vb} {all} (hn:all.length<1000) (ha:∀ f ∈ all,f.one=true):
 ∀ (fs pre) (G G'),all=pre ++ fs->Lx cp t fuel B bt fs G G'->G.get bt = .cells all->∀ (d) (kx) (r) (e),fs.length<r->ae s000 e = .ptr vp 0->ae s001 e=vb->ae s007 e = .ptr B 0->ae s026 e = .slice bt 0 all.length c z->ae s027 e = .int 3 all.length->ae s030 e = .int 3 pre.length->
  ∀ x:R,(∀ e',ae s000 e' = .ptr vp 0->ae s001 e'=vb->ae s007 e' = .ptr B 0->kx 1 e' G'=x)->
  jQ LI fuel (aN cp t fuel (d+7)) kx r e G=x
 | [],pre,G,G',hal,hT,hg,d,kx,r,e,hr,q0,q1,q7,q26,q27,q30,x,hk=>by
  obtain ⟨r,rfl⟩:∃ q,r=q+1:=⟨r-1,by omega⟩
  rw [YR]at hal
  subst hal
  obtain rfl:G'=G:=hT
  have e1:¬ all.length<all.length:=by omega
  have e2:nn all.length:=by unfold nn;omega
  rw [ak]
  simp only [go_sem,LI,q27,q30,e1,e2]
  exact hk _ q0 q1 q7
 | f :: fs,pre,G,G',hal,⟨G1,z1,h1,hT⟩,hg,d,kx,r,e,hr,q0,q1,q7,q26,q27,q30,x,hk=>by
  obtain ⟨r,rfl⟩:∃ q,r=q+1:=⟨r-1,by omega⟩
  have hl:all.length=pre.length+(fs.length+1):=by rw [hal];simp
  have hget:all[pre.length]? = some f:=by rw [hal];simp
  have hf1:=ha f (YS hget)
  have hrd:∀ {id} {k},nth id all pre.length k=k f:=jT hget
  have e1:pre.length<all.length:=by omega
  have e2:nn all.length:=by unfold nn;omega
  have e3:nn pre.length:=by unfold nn;omega
  have e4:pre.length<9223372036854775808:=by omega
  have e5:(pre.length+1)%18446744073709551616=pre.length+1:=by omega
  have e6:=by omega
  have i1:=λ{id} {k}=>aI hf1 (id:=id) (k:=k)
  have z1:=λ{d} {k}=>z1 d k
  rw [ak]
  simp only [go_sem,LI,q7,q26,q27,q30,e1,e2,e3,e4,e5,hg,↓hrd,↓z1]
  refine kX (c:=c) (z:=z) T hn ha fs (pre ++ [f]) G1 G' (by rw [hal];simp) hT (h1.trans hg) d kx r _ (by simp at hr;omega) ?_ ?_ ?_ ?_ ?_ ?_ x hk
  .exact q0
  .exact q1
  .exact q7
  .exact q26
  .exact q27
  .simp only [go_sem,YC,YH,YO]
theorem Nc (T:aA t) (hc:aY t) {vp dp B:Nat} {m:MT} {vl vs vi vS vb:V} {lost:Bool} {A:AD} {O Q:Nat->Prop} {ss:List (List UInt8)} (hD:cN H dp A O) (ho:A.off=false) (hV:H.get vp = .cells (vc m vl vs vi dp lost)) (hVn:vp<H.n) (hvs:Row H Q vS 1 ss.length (ss.map tv)) (hN:ss.length<=48) (hA:193<=A.len) (hA2:A.len<=1024):
 ∀ (m i:Nat) (G:Heap) (vw:V),i+m=ss.length->af H G->Gr H G vw 2 (iI A ss i).length (bC (iI A ss i))->
 ∃ G' vw',af H G'/\Gr H G' vw' 2 (iI A ss ss.length).length (bC (iI A ss ss.length))/\∀ (d:Nat) (kx:Nat->KE) (r:Nat) (e:Env),m<r->ae s000 e = .ptr vp 0->ae s001 e=vb->ae s007 e = .ptr B 0->ae s014 e=vw->ae s047 e=vS->ae s050 e = .int 3 ss.length->ae s051 e = .int 3 i->
  ∀ x:R,(∀ e',ae s000 e' = .ptr vp 0->ae s001 e'=vb->ae s007 e' = .ptr B 0->ae s014 e'=vw'->kx 3 e' G'=x)->
  jQ Eo fuel (aN cp t fuel (d+3)) kx r e G=x:=by
 intro mm
 induction mm with
 | zero=>
  intro i G vw hi f hg
  obtain rfl:i=ss.length:=by omega
  refine ⟨G,vw,f,hg,λd kx r e hr q0 q1 q7 q14 q47 q50 q51 x hT=>?_⟩
  obtain ⟨r,rfl⟩:∃ q,r=q+1:=⟨r-1,by omega⟩
  have e1:¬ ss.length<ss.length:=by omega
  have e2:nn ss.length:=by unfold nn;omega
  rw [ak]
  simp only [go_sem,Eo,q50,q51,e1,e2]
  exact hT _ q0 q1 q7 q14
 | succ mm ih=>
  intro i G vw hi f hg
  have hlt:i<ss.length:=by omega
  have hget:ss[i]? = some ss[i]:=YA hlt
  have hgd:ss.getD i []=ss[i]:=by rw [YF,hget];rfl
  have hdif:iI A ss (i+1)=iI A ss i ++ (if A.read (145+i)=tx ss[i] then [] else [(145+i,tx ss[i])]):=by rw [<- hgd];rfl
  generalize ss[i]=sx at hget hdif
  have hrow:(ss.map tv)[i*1]? = some (tv sx):=by rw [WS,Yg,hget];rfl
  obtain ⟨bs,os,cs,zs,rfl,hbn,-,hop⟩:=hvs.open hlt
  have hrd:∀ {id:Nat} {k:V->R},Du id (G.get bs) (os+i) k=k (tv sx):=λ{id k}=>by
   have:=(hop (f.same bs hbn)).2 hrow (id:=id) (k:=k)
   rwa [WS]at this
  have gK:G.get vp = .cells (vc m vl vs vi dp lost):=(f.same vp hVn).trans hV
  obtain ⟨G1,z1,f1⟩:=pQ (cp:=cp) (fuel:=fuel) (a:=145+i) (T.jh hc) (hD.fresh f) ho (by omega)
  have w1:=f1.wf
  have e1:nn i:=by unfold nn;omega
  have e2:nn ss.length:=by unfold nn;omega
  have e3:i<9223372036854775808:=by omega
  have e9:(i+1)%18446744073709551616=i+1:=by omega
  have e10:(145+i)%18446744073709551616=145+i:=by omega
  have z1':=λ{d:Nat} {k:K}=>z1 d k
  generalize hq:A.read (145+i)=q at z1' hdif
  simp only [vc,aW,bq,YL,YK]at gK
  by_cases hqs:q=tx sx
  .rw [if_pos hqs,YR]at hdif
   obtain ⟨G',vw',f',hg',hL⟩:=ih (i+1) G1 vw (by omega) (f.trans f1) (by rw [hdif];exact hg.fresh f1)
   refine ⟨G',vw',f',hg',λd kx r e hr q0 q1 q7 q14 q47 q50 q51 x hT=>?_⟩
   obtain ⟨r,rfl⟩:∃ q,r=q+1:=⟨r-1,by omega⟩
   rw [hqs]at z1'
   simp only [sv,tx]at z1'
   simp only [tv]at hrd
   rw [ak]
   simp only [go_sem,Eo,q0,q47,q50,q51,hlt,e1,e2,e3,e9,e10,↓hrd,gK,↓z1',and_self]
   refine hL d kx r _ (by omega) ?_ ?_ ?_ ?_ ?_ ?_ ?_ x hT
   .exact q0
   .exact q1
   .exact q7
   .exact q14
   .exact q47
   .exact q50
   .rfl
  .rw [if_neg hqs]at hdif
   obtain ⟨G2,hG2,f2,p2,n2⟩:=Heap.aO w1 (.cells [.int 3 (145+i),tv sx])
   obtain ⟨v',G3,hap,hg3,f3,_,_,_⟩:=Gr.app (cx:=2) (sx:=0) ((f.trans f1).trans f2) ((hg.fresh f1).fresh f2) p2 rfl (by simp [tv,V.one]) (by have:=sk A ss i;omega)
   have hl1:(iI A ss (i+1)).length=(iI A ss i).length+1:=by rw [hdif];simp
   have hl2:bC (iI A ss (i+1))=bC (iI A ss i) ++ [.int 3 (145+i),tv sx]:=by rw [hdif,er];rfl
   obtain ⟨G',vw',f',hg',hL⟩:=ih (i+1) G3 v' (by omega) f3 (by rw [hl1,hl2];exact hg3)
   refine ⟨G',vw',f',hg',λd kx r e hr q0 q1 q7 q14 q47 q50 q51 x hT=>?_⟩
   obtain ⟨r,rfl⟩:∃ q,r=q+1:=⟨r-1,by omega⟩
   have hne:(q.1=sx.length/\q.2=enc sx)=False:=eq_false λh=>hqs (Prod.ext h.1 h.2)
   simp only [sv]at z1'
   simp only [tv]at hrd hG2
   rw [ak]
   simp only [go_sem,Eo,q0,q14,q47,q50,q51,hlt,e1,e2,e3,e9,e10,↓hrd,gK,↓z1',hne,w1,hG2,↓hap]
   refine hL d kx r _ (by omega) ?_ ?_ ?_ ?_ ?_ ?_ ?_ x hT
   .exact q0
   .exact q1
   .exact q7
   .rfl
   .exact q47
   .exact q50
   .rfl
end
end Go.Ev
end
section
namespace Go.Ev
def bQ (O:Nat->Prop) (kp:Nat):Nat->Prop:=λb=>O b\/b=kp
theorem Step.jV {H:Heap} {P:Nat->Prop} {kp:Nat} {x:eK} (hw:H.wf) (hk:kp<H.n) (hp:P kp):Step H P (H.put kp x) P:=
 ⟨by rw [Heap.bF];exact hw,by rw [Heap.aR];exact YB _,λb hb ho=>⟨by rw [Heap.aE hw hk,if_neg (λe=>ho (by rw [e];exact hp))],ho⟩,λlo h1 h2 h3=>⟨Heap.eY h1 (h3 kp hp),h3⟩⟩
theorem Step.Bm {H H':Heap} {O O':Nat->Prop} {kp:Nat} (s:Step H O H' O'):Step H (bQ O kp) H' (bQ O' kp):=
 ⟨s.wf,s.n,λb hb ho=>⟨(s.same b hb λh=>ho (YG h)).1,λh=>h.elim (λh=>(s.same b hb λh=>ho (YG h)).2 h) λh=>ho (YE h)⟩,λlo h1 h2 h3=>⟨(s.lo lo h1 h2 λb hb=>h3 b (YG hb)).1,λb hb=>hb.elim (λhb=>(s.lo lo h1 h2 λb hb=>h3 b (YG hb)).2 b hb) λhb=>h3 b (YE hb)⟩⟩
theorem fV.jX {H:Heap} {O Q:Nat->Prop} {v:V} {ss:List Sn} (h:fV H O v ss) (h0:∀ b,b<H.n->Q b->O b):fV H Q v ss:=
 let ⟨xs,h1,h2,h3⟩:=h
 ⟨xs,h1.jX h0,h2,λi s hs=>let ⟨x,g1,g2⟩:=h3 i s hs; ⟨x,g1,Row.jX g2 h0⟩⟩
theorem ku.jX {H:Heap} {O Q:Nat->Prop} {m:MT} {vl vs vi:V} (h:ku H O m vl vs vi) (h0:∀ b,b<H.n->Q b->O b):ku H Q m vl vs vi:=⟨Row.jX h.live h0,h.aa.jX h0,Row.jX h.cF h0⟩
def Q4 (pk:List UInt8->List (List UInt8)) (A:AD) (m:MT) (bw:List Wr):List Wr:=iI A (pk (pH m).1) (pk (pH m).1).length ++ bw
def sh (pk:List UInt8->List (List UInt8)) (A:AD) (a:Nat) (m:MT) (bw:List Wr):AD × Nat:=if (pH m).2=0 then A.eG pk a (Q4 pk A m bw) else (A,(pH m).2)
section
variable {cp:RC->ah} {t:Nat->Option cP} {fuel:Nat} {H:Heap} {pk:List UInt8->List (List UInt8)} {unpk:List (List UInt8)->Option (List UInt8)}
set_option maxRecDepth 4000 in
theorem EE (T:aA t) (hc:aY t) (F:cD pk unpk) (hp:t 102=some (.nat (gI pk))) {dp vp a n bt c z:Nat} {A:AD} {O:Nat->Prop} {m m':MT} {vl vs vi vb:V} {lost:Bool} {bw:List Wr} {fs:List V}
 {Hb:Heap} (f0:af Hb H) (hD:cN Hb dp A O) (ho:A.off=false) (C:qb A a n) (hA:193<=A.len) (hA2:A.len<=1024) (hV:Hb.get vp = .cells (vc m vl vs vi dp lost)) (hVn:vp<Hb.n) (hVO:¬ O vp) (M:ku Hb (bQ O vp) m vl vs vi) (Y:rP m) (Y':rP m')
 (hbw:∀ w ∈ bw,w.1<18446744073709551616/\w.2.1<1000000/\vk w.2) (hbl:bw.length<1000) (hbt:H.get bt = .cells fs) (hbn:bt<H.n) (hfl:fs.length<1000) (hf1:∀ f ∈ fs,f.one=true)
 (ht:∀ (G1 G:Heap) (vl1 vs1 vi1:V),af H G1->MO H G1 m vl1 vs1 vi1->af G1 G->G.get G1.n = .cells (aW m vl1 vs1 vi1)->G.n=G1.n+1->∃ G' vl2 vs2 vi2,Lx cp t fuel G1.n bt fs G G'/\af Hb G'/\G1.n<G'.n/\G'.get G1.n = .cells (aW m' vl2 vs2 vi2)/\ku G' (λb=>b<Hb.n) m' vl2 vs2 vi2/\Row G' (bQ O vp) vb 2 bw.length (bC bw)) (hfu:1000000<fuel):
 ∃ H' O',(∀ (d:Nat) (k:K),aj (aN cp t fuel (d+8)) (.func 112 []) [.ptr vp 0,vb,.slice bt 0 fs.length c z] H k=k (.int 3 (sh pk A a m' bw).2) H')/\Step Hb (bQ O vp) H' (bQ O' vp)/\cN H' dp (sh pk A a m' bw).1 O'/\¬ O' vp/\vp<H'.n/\
  (((sh pk A a m' bw).2=0/\∃ vl2 vs2 vi2,H'.get vp = .cells (vc m' vl2 vs2 vi2 dp lost)/\ku H' (bQ O' vp) m' vl2 vs2 vi2/\∀ X:Nat->Prop,(∀ b,X b->b<Hb.n)->ku H' (λb=>X b\/bQ O' vp b) m' vl2 vs2 vi2)\/((sh pk A a m' bw).2≠0/\H'.get vp = .cells (vc m vl vs vi dp (lost || ((pH m').2 == 0 && (sh pk A a m' bw).2 == 6)))/\ku H' (bQ O' vp) m vl vs vi/\∀ X:Nat->Prop,ku Hb (λb=>X b\/bQ O vp b) m vl vs vi->ku H' (λb=>X b\/bQ O' vp b) m vl vs vi)):=by
 have hw:=f0.wf
 have m0:=f0.n
 have hWn:∀ b,bQ O vp b->b<Hb.n:=λb h=>h.elim (hD.lt b) λh=>by rw [h];exact hVn
 have i1:=λ{id:Nat} {k:R}=>aI M.live.one (id:=id) (k:=k)
 have i2:=λ{id:Nat} {k:R}=>aI (let ⟨_,h,_⟩:=M.aa;h.one) (id:=id) (k:=k)
 have i3:=λ{id:Nat} {k:R}=>aI M.cF.one (id:=id) (k:=k)
 obtain ⟨G1,vl1,vs1,vi1,z1,f1,o1⟩:=OL (cp:=cp) (fuel:=fuel) T hw (M.fresh f0) Y (by omega)
 obtain ⟨o1a,o1b,o1c⟩:=o1.one
 have j1:=λ{id:Nat} {k:R}=>aI o1a (id:=id) (k:=k)
 have j2:=λ{id:Nat} {k:R}=>aI o1b (id:=id) (k:=k)
 have j3:=λ{id:Nat} {k:R}=>aI o1c (id:=id) (k:=k)
 have w1:=f1.wf
 obtain ⟨G2,hG2,f2,p2,n2⟩:=Heap.aO w1 (.cells [.az,.az,.int 7 0,.int 7 0,.int 7 0,.int 7 0,.int 3 0,.int 3 0,.az])
 have w2:=f2.wf
 have hB2:G1.n<G2.n:=by omega
 obtain ⟨G3,hG3,f3,p3,n3,w3,k3⟩:=Heap.aU (b:=G1.n) f2 (YB _) hB2 (.cells (aW m vl1 vs1 vi1))
 obtain ⟨G4,vl2,vs2,vi2,hT,f4,hB4,p4,M4',R4⟩:=ht G1 G3 vl1 vs1 vi1 f1 o1 f3 p3 (by omega)
 have M4:ku G4 (bQ O vp) m' vl2 vs2 vi2:=M4'.jX λb _ h=>hWn b h
 have hbt3:G3.get bt = .cells fs:=(f3.same _ (by have:=f1.n;omega)).trans ((f1.same _ hbn).trans hbt)
 obtain ⟨G5,vS,z5,f5,hS1,hS⟩:=yK (cp:=cp) (fuel:=fuel) T F hp f4.wf M4 Y' (by omega)
 have m1:=f1.n
 have m4:=f4.n
 have m5:=f5.n
 have f45:=f4.trans f5
 have z1:=λ{d:Nat} {k:K}=>z1 (d+4) k
 have z5:=λ{d:Nat} {k:K}=>z5 d k
 have hV':=(f0.same _ hVn).trans hV
 simp only [vc,aW,bq,YL,YK]at hV'
 have gB4':=p4
 have hVs:∀ {x:eK},Hb.get vp=x->G5.get vp=x:=λh=>(f45.same _ hVn).trans h
 simp only [aW,bq]at z1 hG3 gB4' z5
 have hcz:fs.length<9223372036854775808:=by omega
 unfold sh
 by_cases h0:(pH m').2=0
 .rw [if_pos h0]
  have hS:=hS h0
  have hlen:=Mn h0
  have hsz:=F.size (pH m').1 (by omega)
  rw [h0]at z5
  have h32:=F.len (pH m').1 (by omega)
  generalize hws:Q4 pk A m' bw=ws
  unfold Q4 at hws
  generalize pk (pH m').1=ss at hS hsz h32 hws
  have hSr:Row G5 (bQ O vp) vS 1 ss.length (ss.map tv):=hS.toRow λb h=>YD (hWn b h) m4
  have hsS:=λ{id:Nat} {f:Nat->R}=>hS.sn (id:=id) (f:=f)
  have e1:ss.length<9223372036854775808:=by omega
  obtain ⟨G6,vw,f6,hvw,hL⟩:=Nc (cp:=cp) (fuel:=fuel) (B:=G1.n) (vb:=vb) T hc (hD.fresh f45) ho (hVs hV) (by omega) hSr (by omega) hA hA2 ss.length 0 G5 .az (by omega) (af.refl f5.wf) Gr.az
  have hdl:=sk A ss ss.length
  have f46:=f45.trans f6
  have m6:=f6.n
  obtain ⟨vws,G7,hop,hvws,f7,k7⟩:=Gr.grow (x:=vb) f6 hvw (λ{id f}=>R4.nc λb hb _=>(f5.trans f6).same b hb) (by rw [dh]) (λv hv=>R4.2.1 v hv) (by omega)
  have f47:=f45.trans f7
  have gV6:=(f46.same _ hVn).trans hV
  have gV7:=(f47.same _ hVn).trans hV
  have gV6':=gV6
  simp only [vc,aW,bq,YL,YK]at gV6'
  have hoff:vw = .az\/∃ b o n c s,vw = .slice b o n c s/\∀ k:R,dv 0 48 b [(3,vp)] k=k:=by
   obtain ⟨_,_,⟨h,_⟩|⟨b,c,s,h,_,_,_,g,_⟩⟩:=hvw
   .exact YG h
   .exact YE ⟨b,0,_,c,s,h,λk=>by rw [eo,if_neg (by decide),if_neg (by omega),dL]⟩
  rw [<- YC,<- er,hws]at hvws
  have hws':∀ w ∈ ws,w.1<18446744073709551616/\w.2.1<1000000/\vk w.2:=by
   intro w hw
   rw [<- hws]at hw
   rcases Yn.1 hw with h|h
   .obtain ⟨j,hj,rfl⟩:=oZ h
    have:(ss.getD j []).length=32:=h32 _ (by rw [YF,YA hj];exact YW _)
    exact ⟨by show 145+j<_;omega,by show (ss.getD j []).length<_;omega,jA _⟩
   .exact hbw w h
  have hwl:ws.length<10000:=by rw [<- hws,YC];omega
  have hwsAt:mU G7 vws ws O:=by
   obtain ⟨p1,p2,⟨p3,p4⟩|⟨b,c,s,p3,p4,p5,p6,p7,p8⟩⟩:=hvws
   .exact YG ⟨p3,YQ p4⟩
   .exact YE ⟨b,c,s,p3,p6,p8,λhb=>by have:=hD.lt b hb;omega⟩
  obtain ⟨G8,O8,z8,s8,D8⟩:=uy (cp:=cp) (fuel:=fuel) T hc F hp (hD.fresh f47) C hwsAt hws' hwl (by omega)
  have z8:=λ{d:Nat} {k:K}=>z8 d k
  have hn47:=f47.n
  have hs8:=s8.n
  have hV8:G8.get vp = .cells (vc m vl vs vi dp lost):=(s8.same _ (by omega) hVO).1.trans gV7
  have hVO8:¬ O8 vp:=(s8.same _ (by omega) hVO).2
  have M48:ku G8 (bQ O8 vp) m' vl2 vs2 vi2:=(M4.fresh (f5.trans f7)).cG s8.Bm
  have M08:ku G8 (bQ O8 vp) m vl vs vi:=(M.fresh f47).cG s8.Bm
  have s08:Step Hb (bQ O vp) G8 (bQ O8 vp):=f47.step.trans s8.Bm
  have hBO:¬ O G1.n:=λh=>by have:=hD.lt _ h;omega
  have hB8:G8.get G1.n = .cells (aW m' vl2 vs2 vi2):=(s8.same _ (by have:=f7.n;omega) hBO).1.trans (((f5.trans f7).same _ hB4).trans p4)
  have w8:=s8.wf
  have hp8:vp<G8.n:=by omega
  have hV8':=hV8
  simp only [vc,aW,bq,YL,YK]at hV8'
  have hB8':=hB8
  simp only [aW,bq]at hB8'
  have y1:=λ{id:Nat} {k:R}=>aI M48.live.one (id:=id) (k:=k)
  have y2:=λ{id:Nat} {k:R}=>aI (let ⟨_,h,_⟩:=M48.aa;h.one) (id:=id) (k:=k)
  have y3:=λ{id:Nat} {k:R}=>aI M48.cF.one (id:=id) (k:=k)
  generalize (A.eG pk a ws).2=cd at z8 ⊢
  by_cases c0:cd=0
  .subst c0
   obtain ⟨G9,hG9,-,p9,n9,w9,k9⟩:=Heap.aU (b:=vp) (af.refl w8 |> λf=>(⟨f.wf,Yf _,λj hj=>absurd hj (Wm _),λlo _ h=>by rw [show lo=0 from YG4.1 h];exact Yf _⟩:af (.mk 0 0 .e) G8)) (Yf _) hp8 (.cells (vc m' vl2 vs2 vi2 dp lost))
   have s9:Step G8 (bQ O8 vp) G9 (bQ O8 vp):=by rw [<- hG9];exact Step.jV w8 hp8 (YE rfl)
   refine ⟨G9,O8,λd k=>?_,s08.trans s9,?_,hVO8,by omega,YG ⟨rfl,vl2,vs2,vi2,p9,M48.cG s9,λX hX=>(((M4'.jX λb _ h=>h.elim (hX b) (hWn b)).fresh (f5.trans f7)).cG s8.Bm.or).cG s9.or⟩⟩
   .simp only [vc,aW,bq,YL,YK]at hG9
    rw [aJ T.k56 rfl rfl]
    simp only [go_sem,c56,Ep,hV',↓z1,↓j1,↓j2,↓j3,w1,hG2,p2,w2,hB2,hG3]
    simp only [go_sem,Er,hcz]
    refine kX (cp:=cp) (fuel:=fuel) (vp:=vp) (vb:=vb) (c:=c) (z:=z) T hfl hf1 fs [] G3 G4 rfl hT hbt3 d _ fuel _ (by omega) ?_ ?_ ?_ ?_ ?_ ?_ _ λe' q0 q1 q7=>?_
    .rfl
    .rfl
    .rfl
    .rfl
    .rfl
    .simp only [go_sem,YO]
    simp only [go_sem,Es,Et,q7,gB4',↓z5]
    simp only [go_sem,LJ,LK,↓hsS,e1]
    refine hL (d+4) _ fuel _ (by omega) ?_ ?_ ?_ ?_ ?_ ?_ ?_ _ λe'' q0 q1 q7 q14=>?_
    .exact q0
    .exact q1
    .exact q7
    .rfl
    .rfl
    .rfl
    .rfl
    simp only [go_sem,LM,pq,dG,q0]
    refine (kF (b:=vp) (o:=9) (v:=.ptr dp 0) rfl (by omega) (λk=>by simp only [go_sem,gV6']) (λk=>dL)).trans ?_
    simp only [go_sem,dG,q1,q14]
    refine tQ (v:=vws) (H':=G7) (w:=vw) rfl hoff (λk=>hop rfl rfl) λst'=>?_
    simp only [go_sem,dG,kG,↓z8]
    simp only [go_sem,LN,q0,q7,hB8',↓y1,↓y2,↓y3,hV8',w8,hp8,hG9]
    simp only [go_sem,LO,BL]
   .rw [<- hG9]
    exact (D8.cG (Q:=λb=>b=vp) (Step.jV w8 hp8 rfl) λb hb e=>hVO8 (by rw [<- e];exact hb)).1
  .by_cases c6:cd=6
   .subst c6
    obtain ⟨G9,hG9,-,p9,n9,w9,k9⟩:=Heap.aU (b:=vp) (af.refl w8 |> λf=>(⟨f.wf,Yf _,λj hj=>absurd hj (Wm _),λlo _ h=>by rw [show lo=0 from YG4.1 h];exact Yf _⟩:af (.mk 0 0 .e) G8)) (Yf _) hp8 (.cells (vc m vl vs vi dp true))
    have s9:Step G8 (bQ O8 vp) G9 (bQ O8 vp):=by rw [<- hG9];exact Step.jV w8 hp8 (YE rfl)
    refine ⟨G9,O8,λd k=>?_,s08.trans s9,?_,hVO8,by omega,YE ⟨c0,?_,M08.cG s9,λX hX=>((hX.fresh f47).cG s8.Bm.or).cG s9.or⟩⟩
    .simp only [vc,aW,bq,YL,YK]at hG9
     rw [aJ T.k56 rfl rfl]
     simp only [go_sem,c56,Ep,hV',↓z1,↓j1,↓j2,↓j3,w1,hG2,p2,w2,hB2,hG3]
     simp only [go_sem,Er,hcz]
     refine kX (cp:=cp) (fuel:=fuel) (vp:=vp) (vb:=vb) (c:=c) (z:=z) T hfl hf1 fs [] G3 G4 rfl hT hbt3 d _ fuel _ (by omega) ?_ ?_ ?_ ?_ ?_ ?_ _ λe' q0 q1 q7=>?_
     .rfl
     .rfl
     .rfl
     .rfl
     .rfl
     .simp only [go_sem,YO]
     simp only [go_sem,Es,Et,q7,gB4',↓z5]
     simp only [go_sem,LJ,LK,↓hsS,e1]
     refine hL (d+4) _ fuel _ (by omega) ?_ ?_ ?_ ?_ ?_ ?_ ?_ _ λe'' q0 q1 q7 q14=>?_
     .exact q0
     .exact q1
     .exact q7
     .rfl
     .rfl
     .rfl
     .rfl
     simp only [go_sem,LM,pq,dG,q0]
     refine (kF (b:=vp) (o:=9) (v:=.ptr dp 0) rfl (by omega) (λk=>by simp only [go_sem,gV6']) (λk=>dL)).trans ?_
     simp only [go_sem,dG,q1,q14]
     refine tQ (v:=vws) (H':=G7) (w:=vw) rfl hoff (λk=>hop rfl rfl) λst'=>?_
     simp only [go_sem,dG,kG,↓z8]
     simp only [go_sem,LN,q0,hV8',w8,hp8,hG9]
     simp only [go_sem,LO,BL]
    .rw [<- hG9]
     exact (D8.cG (Q:=λb=>b=vp) (Step.jV w8 hp8 rfl) λb hb e=>hVO8 (by rw [<- e];exact hb)).1
    .rw [p9,h0]
     simp
   .refine ⟨G8,O8,λd k=>?_,s08,D8,hVO8,by omega,YE ⟨c0,?_,M08,λX hX=>(hX.fresh f47).cG s8.Bm.or⟩⟩
    .rw [aJ T.k56 rfl rfl]
     simp only [go_sem,c56,Ep,hV',↓z1,↓j1,↓j2,↓j3,w1,hG2,p2,w2,hB2,hG3]
     simp only [go_sem,Er,hcz]
     refine kX (cp:=cp) (fuel:=fuel) (vp:=vp) (vb:=vb) (c:=c) (z:=z) T hfl hf1 fs [] G3 G4 rfl hT hbt3 d _ fuel _ (by omega) ?_ ?_ ?_ ?_ ?_ ?_ _ λe' q0 q1 q7=>?_
     .rfl
     .rfl
     .rfl
     .rfl
     .rfl
     .simp only [go_sem,YO]
     simp only [go_sem,Es,Et,q7,gB4',↓z5]
     simp only [go_sem,LJ,LK,↓hsS,e1]
     refine hL (d+4) _ fuel _ (by omega) ?_ ?_ ?_ ?_ ?_ ?_ ?_ _ λe'' q0 q1 q7 q14=>?_
     .exact q0
     .exact q1
     .exact q7
     .rfl
     .rfl
     .rfl
     .rfl
     simp only [go_sem,LM,pq,dG,q0]
     refine (kF (b:=vp) (o:=9) (v:=.ptr dp 0) rfl (by omega) (λk=>by simp only [go_sem,gV6']) (λk=>dL)).trans ?_
     simp only [go_sem,dG,q1,q14]
     refine tQ (v:=vws) (H':=G7) (w:=vw) rfl hoff (λk=>hop rfl rfl) λst'=>?_
     simp only [go_sem,dG,kG,↓z8]
     simp only [go_sem,LN,c0,c6]
     simp only [go_sem,LO,BL]
    .rw [hV8,show (cd == 6)=false from beq_eq_false_iff_ne.2 c6,YB2,Qx]
 .rw [if_neg h0]
  generalize (pH m').2=en at z5 h0
  refine ⟨G5,O,λd k=>?_,f45.step,hD.fresh f45,hVO,by omega,YE ⟨h0,?_,M.fresh f45,λX hX=>hX.fresh f45⟩⟩
  .rw [aJ T.k56 rfl rfl]
   simp only [go_sem,c56,Ep,hV',↓z1,↓j1,↓j2,↓j3,w1,hG2,p2,w2,hB2,hG3]
   simp only [go_sem,Er,hcz]
   refine kX (cp:=cp) (fuel:=fuel) (vp:=vp) (vb:=vb) (c:=c) (z:=z) T hfl hf1 fs [] G3 G4 rfl hT hbt3 d _ fuel _ (by omega) ?_ ?_ ?_ ?_ ?_ ?_ _ λe' q0 q1 q7=>?_
   .rfl
   .rfl
   .rfl
   .rfl
   .rfl
   .simp only [go_sem,YO]
   simp only [go_sem,Es,Et,q7,gB4',↓z5]
   simp only [go_sem,h0]
  .rw [hVs hV,show (en == 0)=false from beq_eq_false_iff_ne.2 h0,Bool.false_and,Qx]
end
end Go.Ev
end
section
namespace Go.Ev
def ef (a b:Gd):Bool:=decide (b.1<a.1) || (decide (a.1=b.1) && decide (b.2<a.2))
section
variable {cp:RC->ah} {t:Nat->Option cP} {fuel:Nat} {H:Heap} {O:Nat->Prop}
theorem I5 (T:aA t) {a b:Gd} (hw:H.wf) (ha:ld a) (hb:ld b):
 ∃ H',(∀ (d:Nat) (k:K),aj (aN cp t fuel (d+1)) (.func 404 []) [.agg (aS a),.agg (aS b)] H k=k (.bool (ef a b)) H')/\af H H':=by
 obtain ⟨G1,hG1,f1,p1,n1⟩:=Heap.aO hw (.cells (aS a))
 obtain ⟨G2,hG2,f2,p2,n2⟩:=Heap.jS (m:=H.n+1) n1 f1.wf (.cells (aS b))
 have q1:G2.get H.n = .cells (aS a):=(f2.same _ (by omega)).trans p1
 have w1:=f1.wf
 obtain ⟨a1,a2⟩:=a
 obtain ⟨b1,b2⟩:=b
 obtain ⟨u1,u2⟩:=ha
 obtain ⟨u3,u4⟩:=hb
 refine ⟨G2,λd k=>?_,f1.trans f2⟩
 simp only [aS]at hG1 p1 hG2 p2 q1
 rw [aJ T.aes rfl rfl]
 unfold ef
 have g1:=nU u1 u3
 have g2:=nU u2 u4
 have ne:¬ H.n=H.n+1:=by omega
 simp only at g1 g2 ⊢
 by_cases h2:a1=b1
 .subst h2
  have h1:¬ a1<a1:=by omega
  by_cases h3:b2<a2<;>
   simp only [go_sem,Z3,aS,hw,hG1,n1,w1,hG2,p2,q1,g1,g2,h1,h3,decide_true,decide_false,Bool.or_true,Qx,YH0,YB2]
 .by_cases h1:b1<a1<;>by_cases h3:b2<a2<;>
   simp only [go_sem,↓Cl,Z3,aS,hw,hG1,n1,w1,hG2,p2,q1,g1,h1,h2,h3,decide_true,decide_false,Qx,YH0,YB2]
theorem IF (T:aA t) (hc:aY t) {m:MT} {vl vs vi:V} {vp dp:Nat} {lost:Bool} {A:AD} (hD:cN H dp A O) (hV:H.get vp = .cells (vc m vl vs vi dp lost)) (hVn:vp<H.n) (hVO:¬ O vp):
 ∃ H',(∀ (d:Nat) (k:K),aj (aN cp t fuel (d+3)) (.func 106 []) [.ptr vp 0] H k=k (.int 3 (if lost=true\/A.off=true then 6 else 0)) H')/\Step H (bQ O vp) H' (bQ O vp)/\cN H' dp A O/\H'.n=H.n/\H'.get vp = .cells (vc m vl vs vi dp (lost || A.off))/\∀ j,j≠vp->H'.get j=H.get j:=by
 have hw:=hD.wf
 obtain ⟨G,hG,-,p,n,w,k'⟩:=Heap.aU (b:=vp) (af.refl hw |> λf=>(⟨f.wf,Yf _,λj hj=>absurd hj (Wm _),λlo _ h=>by rw [show lo=0 from YG4.1 h];exact Yf _⟩:af (.mk 0 0 .e) H)) (Yf _) hVn (.cells (vc m vl vs vi dp (lost || A.off)))
 have hon:=λ{d:Nat} {k:K}=>Km (cp:=cp) (fuel:=fuel) (T.jh hc) (d:=d) (k:=k) hD
 refine ⟨G,λd k=>?_,by rw [<- hG];exact Step.jV hw hVn (YE rfl),?_,n,p,k'⟩
 .simp only [vc,aW,bq,YL,YK]at hV hG p
  rw [aJ T.k53 rfl rfl]
  generalize hoff:A.off=off at hon hG p
  cases lost<;>cases off<;>
   simp only [Bool.not_true,Bool.not_false,Bool.or_true,Qx,YT,or_self,or_true,or_false]at hon hG p ⊢ <;>
   simp only [go_sem,c53,hV,hw,hVn,↓hon,hG,p]
 .rw [<- hG]
  exact (hD.cG (Q:=λb=>b=vp) (Step.jV hw hVn rfl) λb hb e=>hVO (by rw [<- e];exact hb)).1
def cR (m:MT):Sn:=m.aa.getLast?.getD ⟨(0,0),YZ m.live.length 0,false⟩
end
end Go.Ev
end
section
namespace Go.Ev
def dE (A:AD) (p:Nat):Tx:=if p=0 then (32,0) else A.read p
theorem TD {α:Type} {f:Nat->α} {z:α} {l:List Nat} {i:Nat} (h:i<l.length):((l.take i).map f ++ YZ (l.length-i) z).set i (f l[i])=(l.take (i+1)).map f ++ YZ (l.length-(i+1)) z:=by
 have e:((l.take i).map f).length=i:=by simp;omega
 rw [List.set_append_right _ _ (by omega),e,QR,show l.length-i=(l.length-(i+1))+1 by omega,List.replicate_succ,List.set_cons_zero,List.take_succ_eq_append_getElem h,WB,WA]
 rfl
section
variable {cp:RC->ah} {t:Nat->Option cP} {fuel:Nat} {H:Heap} {O:Nat->Prop}
theorem Uf (T:aA t) (hc:aY t) {m:MT} {vl vs vi v:V} {vp dp B:Nat} {lost:Bool} {A:AD} {Q:Nat->Prop} {l:List Nat} {G0:Heap} (hD:cN H dp A O) (ho:A.off=false) (hV:H.get vp = .cells (vc m vl vs vi dp lost)) (hVn:vp<H.n) (h:ee H Q v l) (hl:l.length<1000) (hlp:∀ p ∈ l,p<A.len) (hA:A.len<=1024)
 (f0:af H G0) (hBH:H.n<=B) (hB:B<G0.n) (gB:G0.get B = .cells (YZ l.length (.str 0 0))) (hfu:1000<fuel):
 ∃ G',af H G'/\G'.get B = .cells (l.map λp=>sv (dE A p))/\B<G'.n/\∀ (d:Nat) (kx:Nat->KE) (e:Env) (x:R),ae s000 e = .ptr vp 0->ae s006 e = .slice B 0 l.length (l.length+1) 0->ae s016 e=v->ae s017 e = .int 3 l.length->ae s020 e = .int 3 0->
  (∀ e',ae s006 e' = .slice B 0 l.length (l.length+1) 0->kx 1 e' G'=x)->jQ Ad fuel (aN cp t fuel (d+3)) kx fuel e G0=x:=by
 have nl:nn l.length:=by unfold nn;omega
 obtain ⟨_,G',⟨f',g',hB'⟩,z⟩:=bA (c:=Ad) (fuel:=fuel) (ph:=λd=>aN cp t fuel (d+3)) (σ:=Unit) (n:=l.length)
  (I:=λi _ G=>af H G/\G.get B = .cells ((l.take i).map (λp=>sv (dE A p)) ++ YZ (l.length-i) (.str 0 0))/\B<G.n)
  (S:=λi _ e=>ae s000 e = .ptr vp 0/\ae s006 e = .slice B 0 l.length (l.length+1) 0/\ae s016 e=v/\ae s017 e = .int 3 l.length/\ae s020 e = .int 3 i) (λi _ G hil ⟨f,g,hBn⟩=>by
   have hset:=TD (f:=λp=>sv (dE A p)) (z:=V.str 0 0) hil
   have hpl:=hlp _ (YW hil)
   obtain ⟨b,o,c,s,rfl,hbn,-,hrd⟩:=h.open hil
   have hrd:=λ{id:Nat} {k:V->R}=>hrd (f.same _ hbn) (id:=id) (k:=k)
   have hxl:((l.take i).map (λp=>sv (dE A p)) ++ YZ (l.length-i) (V.str 0 0)).length=l.length:=by simp;omega
   generalize l[i]=p at hset hpl hrd
   generalize (l.take i).map (λp=>sv (dE A p)) ++ YZ (l.length-i) (V.str 0 0)=X at g hset hxl
   obtain ⟨G1,hG1,f1,p1,n1⟩:=Heap.aO f.wf (.bytes 32 0)
   have g1:G1.get B = .cells X:=(f1.same _ hBn).trans g
   obtain ⟨G2,hG2,f2,p2,n2,w2,k2⟩:=Heap.aU (b:=B) (f.trans f1) hBH (by omega) (.cells (X.set i (.str 32 0)))
   have gV2:=(f2.same _ hVn).trans hV
   simp only [vc,aW,bq,YL,YK]at gV2
   have a1:nn i:=by unfold nn;omega
   have a2:i<9223372036854775808:=by omega
   have a3:(i+1)%18446744073709551616=i+1:=by omega
   have a4:i<X.length:=by omega
   have a5:B<G1.n:=by omega
   have w0:=f.wf
   have w1:=f1.wf
   by_cases hp:p=0
   .rw [show sv (dE A p) = .str 32 0 by unfold dE;rw [if_pos hp];rfl]at hset
    refine ⟨(),G2,⟨f2,by rw [<- hset];exact p2,by omega⟩,λd kx r e x ⟨q0,q6,q16,q17,q20⟩ hk=>?_⟩
    rw [ak]
    simp only [go_sem,Ad,q6,q16,q17,q20,hil,nl,a1,a2,a3,a4,a5,↓hrd,w0,hG1,p1,g1,w1,hG2,hp]
    exact hk _ (by simp only [go_sem,q0,q6,q16,q17])
   .rw [show sv (dE A p)=sv (A.read p) by unfold dE;rw [if_neg hp]]at hset
    obtain ⟨G3,z3,f3⟩:=pQ (cp:=cp) (fuel:=fuel) (a:=p) (T.jh hc) (hD.fresh f2) ho (by omega)
    have z3:=λ{d:Nat} {k:K}=>z3 d k
    have m3:=f3.n
    obtain ⟨G4,hG4,f4,p4,n4,w4,k4⟩:=Heap.aU (b:=B) (f2.trans f3) hBH (by omega) (.cells (X.set i (sv (A.read p))))
    have g3:G3.get B = .cells (X.set i (.str 32 0)):=(f3.same _ (by omega)).trans p2
    have w3:=f3.wf
    have a6:B<G3.n:=by omega
    have hss:(X.set i (.str 32 0)).set i (sv (A.read p))=X.set i (sv (A.read p)):=List.set_set ..
    refine ⟨(),G4,⟨f4,by rw [<- hset];exact p4,by omega⟩,λd kx r e x ⟨q0,q6,q16,q17,q20⟩ hk=>?_⟩
    have a7:i<(X.set i (.str 32 0)).length:=by rw [YA0];exact a4
    generalize A.read p=tq at z3 hG4 hss
    simp only [sv]at z3 hG4 hss
    generalize X.set i (.str tq.1 tq.2)=Y at hG4 hss
    rw [ak]
    simp only [go_sem,Ad,q0,q6,q16,q17,q20,hil,nl,a1,a2,a3,a4,a5,a6,↓hrd,w0,hG1,p1,g1,w1,hG2,hp,gV2,↓z3,g3,a7,hss,w3,hG4]
    exact hk _ (by simp only [go_sem,q0,q6,q16,q17])) l.length 0 () G0 (by omega) ⟨f0,by rw [WK,Yc,YK,Nat.sub_zero];exact gB,hB⟩
 rw [WZ,QR,List.replicate_zero,YR]at g'
 refine ⟨G',f',g',hB',λd kx e x q0 q6 q16 q17 q20 hk=>z d kx fuel e x (by omega) ⟨q0,q6,q16,q17,q20⟩ λr e' ⟨q0,q6,q16,q17,q20⟩=>?_⟩
 have e6:¬ l.length<l.length:=by omega
 rw [ak]
 simp only [go_sem,Ad,q17,q20,nl,e6]
 exact hk _ q6
theorem IE (T:aA t) (hc:aY t) {m:MT} {vl vs vi v:V} {vp dp:Nat} {lost:Bool} {A:AD} {Q:Nat->Prop} {l:List Nat} (hD:cN H dp A O) (ho:A.off=false) (hV:H.get vp = .cells (vc m vl vs vi dp lost)) (hVn:vp<H.n) (h:ee H Q v l) (hl:l.length<1000) (hlp:∀ p ∈ l,p<A.len) (hA:A.len<=1024) (hfu:1000<fuel):
 ∃ H' v',(∀ (d:Nat) (k:K),aj (aN cp t fuel (d+4)) (.func 172 []) [.ptr vp 0,v] H k=k (.cH [v',.int 3 0]) H')/\af H H'/\Own H H' v' 1 l.length (l.map λp=>sv (dE A p)):=by
 obtain ⟨G1,f1,o1,g1,n1,z1⟩:=Cv (n:=l.length) (kl:=3) (x:=V.str 0 0) (a:=kz) rfl hD.wf rfl (by omega) (YB _)
 obtain ⟨G2,f2,g2,n2,z2⟩:=Uf (cp:=cp) (fuel:=fuel) T hc hD ho hV hVn h hl hlp hA f1 (YB _) (by omega) g1 hfu
 have sn:=λ{id:Nat} {f:Nat->R}=>h.sn (id:=id) (f:=f)
 have e1:l.length<9223372036854775808:=by omega
 refine ⟨G2,.slice H.n 0 l.length (l.length+1) 0,λd k=>?_,f2,⟨by simp,λx hx=>?_,YE ⟨_,_,_,[],rfl,by rw [YR];exact g2,YG rfl,YB _,n2⟩⟩⟩
 .have z1:=λ{id:Nat} {ph:cU} {e:Env} {k:K} (h:ay kz e = .int 3 l.length)=>z1 (id:=id) (ph:=ph) (e:=e) (k:=k) h
  rw [aJ T.k86 rfl rfl]
  simp only [go_sem,c86,↓sn,e1,↓z1]
  refine z2 d _ _ _ ?_ ?_ ?_ ?_ ?_ λe' q6=>?_
  .rfl
  .rfl
  .rfl
  .rfl
  .rfl
  simp only [go_sem,q6]
 .obtain ⟨p,-,rfl⟩:=Yi.1 hx
  rfl
end
end Go.Ev
end
section
namespace Go.Ev
def c8 (m:MT):List (List Nat):=m.live :: m.tok.cF :: m.aa.map (·.cF)
theorem nu:∀ {cs:List Wr} {i:Nat} {c:Wr},cs[i]? = some c->((bC cs).drop (i*2)).take 2=[.int 3 c.1,.str c.2.1 c.2.2]
 | [],i,c,h=>by simp at h
 | a :: cs,0,c,h=>by
  simp at h
  subst h
  rfl
 | a :: cs,i+1,c,h=>by
  rw [show (i+1)*2=i*2+2 by omega]
  exact nu (cs:=cs) (by simpa using h)
def fT (cs:List Wr):Nat->Nat
 | 0=>0
 | i+1=>fT cs i+(if (cs.getD i (0,(32,0))).2=(32,0) then 0 else 1)
theorem pL (cs:List Wr):∀ i,fT cs i<=i
 | 0=>YB _
 | i+1=>by
  have:=pL cs i
  simp only [fT]
  split<;>omega
theorem yh {cs:List Wr} {i:Nat}:∀ {j:Nat},i<=j->fT cs i<=fT cs j
 | 0,h=>by rw [YG4.1 h];exact YB _
 | j+1,h=>by
  rcases Nat.lt_or_ge i (j+1) with h|h
  .exact Yr (yh (Nat.lt_succ_iff.1 h)) (by simp only [fT];omega)
  .rw [show i=j+1 by omega];exact YB _
def Hl (cs:List Wr) (fr:List Nat):Nat->List Nat
 | 0=>[]
 | i+1=>Hl cs fr i ++ [if (cs.getD i (0,(32,0))).2=(32,0) then 0 else fr.getD (fT cs i) 0]
def Hm (cs:List Wr) (fr:List Nat):Nat->List Wr
 | 0=>[]
 | i+1=>Hm cs fr i ++ (if (cs.getD i (0,(32,0))).2=(32,0) then [] else [(fr.getD (fT cs i) 0,(cs.getD i (0,(32,0))).2)])
theorem qv (cs:List Wr) (fr:List Nat):∀ i,(Hl cs fr i).length=i
 | 0=>rfl
 | i+1=>by simp only [Hl,YC,qv cs fr i];rfl
theorem CK (cs:List Wr) (fr:List Nat):∀ i,(Hm cs fr i).length=fT cs i
 | 0=>rfl
 | i+1=>by
  simp only [Hm,fT,YC,CK cs fr i]
  split<;>rfl
theorem yj {v w:V} (h:∀ b o n c s,w = .slice b o n c s->js v b):∀ b o n c s,v = .slice b o n c s->js w b:=λb o n c s e b' o' n' c' s' e' he=>h _ _ _ _ _ e' _ _ _ _ _ e he.symm
section
variable {cp:RC->ah} {t:Nat->Option cP} {fuel:Nat} {H:Heap} {O:Nat->Prop}
theorem NC (T:aA t) {vp:Nat} {vl vi vs vx:V} {ss:List Sn} {G0:Heap} {v0:V} (hS:fV H O vs ss) (hn:ss.length<1000) (f0:af H G0) (o0:Own H G0 v0 1 2 [vl,vi]) (hfu:1000<fuel):
 ∃ G' v' ns,af H G'/\Own H G' v' 1 (2+ss.length) (vl :: vi :: ns)/\(∀ (j:Nat) (s:Sn),ss[j]? = some s->∃ x,ns[j]? = some x/\ee H O x s.cF)/\∀ (d:Nat) (kx:Nat->KE) (e:Env) (x:R),ae s000 e = .ptr vp 0->ae s001 e=vx->ae s004 e = .az->ae s005 e = .az->ae s007 e=v0->ae s042 e=vs->ae s043 e = .int 3 ss.length->ae s044 e = .int 3 0->
  (∀ e',ae s000 e' = .ptr vp 0->ae s001 e'=vx->ae s004 e' = .az->ae s005 e' = .az->ae s007 e'=v'->kx 1 e' G'=x)->jQ En fuel (aN cp t fuel d) kx fuel e G0=x:=by
 have nl:nn ss.length:=by unfold nn;omega
 obtain ⟨⟨ns,v'⟩,G',⟨f',o',nl',hx'⟩,z⟩:=bA (c:=En) (fuel:=fuel) (ph:=λd=>aN cp t fuel d) (σ:=List V × V) (n:=ss.length)
  (I:=λi s G=>af H G/\Own H G s.2 1 (2+i) (vl :: vi :: s.1)/\s.1.length=i/\∀ (j:Nat) (q:Sn),j<i->ss[j]? = some q->∃ x,s.1[j]? = some x/\ee H O x q.cF)
  (S:=λi s e=>ae s000 e = .ptr vp 0/\ae s001 e=vx/\ae s004 e = .az/\ae s005 e = .az/\ae s007 e=s.2/\ae s042 e=vs/\ae s043 e = .int 3 ss.length/\ae s044 e = .int 3 i) (λi s G hil ⟨f,o,hl,hx⟩=>by
   obtain ⟨ns,v⟩:=s
   obtain ⟨b,ob,c,z,y,rfl,hbn,-,hy,hrd⟩:=hS.open hil
   have hsi:ss[i]? = some ss[i]:=YA hil
   have hrd:=λ{id:Nat} {k:List V->R}=>hrd (f.same _ hbn) (id:=id) (k:=k)
   generalize ss[i]=s at hsi hy hrd
   have w0:=f.wf
   obtain ⟨G1,hG1,f1,p1,n1⟩:=Heap.aO w0 (.cells [.int 7 0,.int 7 0,.az,.bool false])
   obtain ⟨G2,hG2,f2,p2,n2,w2,k2⟩:=Heap.aU (b:=G.n) f1 (YB _) (by omega) (.cells (bJ s y))
   obtain ⟨G3,hG3,f3,p3,n3⟩:=Heap.aO w2 (.cells [y])
   have f03:=(f.trans f2).trans f3
   obtain ⟨v',G4,hap,o4,f4,-⟩:=Own.app (w:=v) (x:=.slice G2.n 0 1 2 0) (m:=1) (new:=[y]) f03 ((o.fresh f2).fresh f3) (λ{id f}=>iN p3 rfl) rfl (λx hx=>by rw [YU.1 hx];exact hy.one) (by omega)
   have i1:=λ{id:Nat} {k:R}=>aI hy.one (id:=id) (k:=k)
   have cx:=λ{id:Nat} {f:List V->R}=>ID hy.one (id:=id) (f:=f)
   have w1:=f1.wf
   have a1:nn i:=by unfold nn;omega
   have a2:i<9223372036854775808:=by omega
   have a3:(i+1)%18446744073709551616=i+1:=by omega
   have a4:G.n<G1.n:=by omega
   refine ⟨(ns ++ [y],v'),G4,⟨f4,by have:=o4;rwa [show 2+i+1=2+(i+1) by omega]at this,by simp [hl],λj q hj hq=>?_⟩,λd kx r e x ⟨q0,q1,q4,q5,q7,q42,q43,q44⟩ hk=>?_⟩
   .show ∃ x,(ns ++ [y])[j]? = some x/\_
    have hl':ns.length=i:=hl
    by_cases hji:j<i
    .obtain ⟨x,b1,b2⟩:=hx j q hji hq
     exact ⟨x,by rw [Yp (by omega)];exact b1,b2⟩
    .obtain rfl:j=i:=by omega
     rw [hsi]at hq
     cases hq
     exact ⟨y,by rw [Ym (by omega),hl',QR];rfl,hy⟩
   .simp only [bJ]at hG2 p2 hrd
    rw [ak]
    simp only [go_sem,En,q7,q42,q43,q44,hil,nl,a1,a2,a3,a4,↓hrd,w0,hG1,p1,w1,hG2,p2,↓i1,↓cx,w2,hG3,↓hap]
    refine hk _ ?_
    simp only [go_sem,q0,q1,q4,q5,q42,q43,and_self]) ss.length 0 ([],v0) G0 (by omega) ⟨f0,o0,rfl,λj s hj=>by omega⟩
 refine ⟨G',v',ns,f',o',λj s hs=>hx' j s (Yo.1 hs).1 hs,λd kx e x q0 q1 q4 q5 q7 q42 q43 q44 hk=>z d kx fuel e x (by omega) ⟨q0,q1,q4,q5,q7,q42,q43,q44⟩ λr e' ⟨q0,q1,q4,q5,q7,q42,q43,q44⟩=>?_⟩
 have e6:¬ ss.length<ss.length:=by omega
 rw [ak]
 simp only [go_sem,En,q43,q44,nl,e6]
 exact hk _ q0 q1 q4 q5 q7
theorem VG (T:aA t) {vx vcn:V} {cs:List Wr} {G0:Heap} (hX:Row H O vx 2 cs.length (bC cs)) (hn:cs.length<1000) (f0:af H G0) (hfu:1000<fuel):
 ∃ G',af H G'/\af G0 G'/\∀ (d:Nat) (kx:Nat->KE) (e:Env) (x:R),ae s001 e=vx->ae s004 e = .az->ae s005 e = .az->ae s012 e=vcn->ae s013 e = .str 32 0->ae s014 e = .int 3 0->ae s075 e=vx->ae s076 e = .int 3 cs.length->ae s077 e = .int 3 0->
  (∀ e',ae s001 e'=vx->ae s004 e' = .az->ae s005 e' = .az->ae s012 e'=vcn->ae s013 e' = .str 32 0->ae s014 e' = .int 3 (fT cs cs.length)->kx 3 e' G'=x)->jQ Aa fuel (aN cp t fuel d) kx fuel e G0=x:=by
 have nl:nn cs.length:=by unfold nn;omega
 obtain ⟨_,G',⟨f',f0'⟩,z⟩:=bA (c:=Aa) (fuel:=fuel) (ph:=λd=>aN cp t fuel d) (σ:=Unit) (n:=cs.length)
  (I:=λi _ G=>af H G/\af G0 G)
  (S:=λi _ e=>ae s001 e=vx/\ae s004 e = .az/\ae s005 e = .az/\ae s012 e=vcn/\ae s013 e = .str 32 0/\ae s014 e = .int 3 (fT cs i)/\ae s075 e=vx/\ae s076 e = .int 3 cs.length/\ae s077 e = .int 3 i) (λi _ G hil ⟨f,f0⟩=>by
   have hsi:cs[i]? = some cs[i]:=YA hil
   have hgd:cs.getD i (0,(32,0))=cs[i]:=by rw [YF,hsi];rfl
   have hnz:fT cs (i+1)=fT cs i+(if cs[i].2=(32,0) then 0 else 1):=by rw [<- hgd];rfl
   have hle:=pL cs i
   have hrow:=nu hsi
   obtain ⟨b,ob,c,z,hvx,hbn,-,hrd⟩:=hX.open hil
   have hrd:=λ{id:Nat} {k:List V->R}=>(hrd (f.same _ hbn)).1 (id:=id) (k:=k)
   rw [hrow]at hrd
   generalize cs[i]=w at hnz hrd
   obtain ⟨wb,wl,wn⟩:=w
   have w0:=f.wf
   obtain ⟨G1,hG1,f1,p1,n1⟩:=Heap.aO w0 (.cells [.int 3 0,.str 0 0])
   obtain ⟨G2,hG2,f2,p2,n2,w2,k2⟩:=Heap.aU (b:=G.n) f1 (YB _) (by omega) (.cells [.int 3 wb,.str wl wn])
   have w1:=f1.wf
   have a1:nn i:=by unfold nn;omega
   have a2:i<9223372036854775808:=by omega
   have a3:(i+1)%18446744073709551616=i+1:=by omega
   have a4:G.n<G1.n:=by omega
   have a5:(fT cs i+1)%18446744073709551616=fT cs i+1:=by omega
   refine ⟨(),G2,⟨f.trans f2,f0.trans f2⟩,λd kx r e x ⟨q1,q4,q5,q12,q13,q14,q75,q76,q77⟩ hk=>?_⟩
   subst hvx
   by_cases hz:wl=32/\wn=0
   .obtain ⟨rfl,rfl⟩:=hz
    rw [if_pos rfl,WL]at hnz
    rw [ak]
    simp only [go_sem,Aa,q13,q75,q76,q77,hil,nl,a1,a2,a3,a4,↓hrd,w0,hG1,p1,w1,hG2,p2,and_self]
    exact hk _ (by simp only [go_sem,q1,q4,q5,q12,q13,q14,q75,q76,hnz,and_self])
   .have hz':(wl=32/\wn=0)=False:=eq_false hz
    rw [if_neg (λh=>hz ⟨congrArg YF1 h,congrArg YN3 h⟩)]at hnz
    rw [ak]
    simp only [go_sem,Aa,q13,q14,q75,q76,q77,hil,nl,a1,a2,a3,a4,a5,↓hrd,w0,hG1,p1,w1,hG2,p2,hz']
    exact hk _ (by simp only [go_sem,q1,q4,q5,q12,q13,q75,q76,hnz,and_self])) cs.length 0 () G0 (by omega) ⟨f0,af.refl f0.wf⟩
 refine ⟨G',f',f0',λd kx e x q1 q4 q5 q12 q13 q14 q75 q76 q77 hk=>z d kx fuel e x (by omega) ⟨q1,q4,q5,q12,q13,q14,q75,q76,q77⟩ λr e' ⟨q1,q4,q5,q12,q13,q14,q75,q76,q77⟩=>?_⟩
 have e6:¬ cs.length<cs.length:=by omega
 rw [ak]
 simp only [go_sem,Aa,q76,q77,nl,e6]
 exact hk _ q1 q4 q5 q12 q13 q14
end
end Go.Ev
end
section
namespace Go.Ev
section
variable {cp:RC->ah} {t:Nat->Option cP} {fuel:Nat} {H:Heap} {O:Nat->Prop}
theorem Te (T:aA t) {vx vf:V} {cs:List Wr} {fr:List Nat} (hw:H.wf) (hX:Row H O vx 2 cs.length (bC cs)) (hF:ee H O vf fr) (hfl:fr.length=fT cs cs.length) (hn:cs.length<1000) (hfu:1000<fuel):
 ∃ G' va vw,af H G'/\Own H G' va 1 cs.length ((Hl cs fr cs.length).map (V.int 3))/\Own H G' vw 2 (fT cs cs.length) (bC (Hm cs fr cs.length))/\∀ (d:Nat) (kx:Nat->KE) (e:Env) (x:R),ae s004 e = .az->ae s005 e = .az->ae s013 e = .str 32 0->ae s017 e=vf->ae s123 e=vx->ae s124 e = .int 3 cs.length->ae s125 e = .int 3 0->
  (∀ e',ae s004 e'=va->ae s005 e'=vw->kx 5 e' G'=x)->jQ Ab fuel (aN cp t fuel d) kx fuel e H=x:=by
 have nl:nn cs.length:=by unfold nn;omega
 obtain ⟨⟨va,vw⟩,G',⟨f',oa',ow',-⟩,z⟩:=bA (c:=Ab) (fuel:=fuel) (ph:=λd=>aN cp t fuel d) (σ:=V × V) (n:=cs.length)
  (I:=λi s G=>af H G/\Own H G s.1 1 i ((Hl cs fr i).map (V.int 3))/\Own H G s.2 2 (fT cs i) (bC (Hm cs fr i))/\∀ b o n c z,s.2 = .slice b o n c z->js s.1 b)
  (S:=λi s e=>ae s004 e=s.1/\ae s005 e=s.2/\ae s013 e = .str 32 0/\ae s017 e=vf/\ae s123 e=vx/\ae s124 e = .int 3 cs.length/\ae s125 e = .int 3 i) (λi s G hil ⟨f,oa,ow,oo⟩=>by
   obtain ⟨va,vw⟩:=s
   have oo:∀ b o n c z,vw = .slice b o n c z->js va b:=oo
   have oa:Own H G va 1 i ((Hl cs fr i).map (V.int 3)):=oa
   have ow:Own H G vw 2 (fT cs i) (bC (Hm cs fr i)):=ow
   have hsi:cs[i]? = some cs[i]:=YA hil
   have hgd:cs.getD i (0,(32,0))=cs[i]:=by rw [YF,hsi];rfl
   have hnz:fT cs (i+1)=fT cs i+(if cs[i].2=(32,0) then 0 else 1):=by rw [<- hgd];rfl
   have hpa:Hl cs fr (i+1)=Hl cs fr i ++ [if cs[i].2=(32,0) then 0 else fr.getD (fT cs i) 0]:=by rw [<- hgd];rfl
   have hpw:Hm cs fr (i+1)=Hm cs fr i ++ (if cs[i].2=(32,0) then [] else [(fr.getD (fT cs i) 0,cs[i].2)]):=by rw [<- hgd];rfl
   have hle:=pL cs i
   have hmo:=yh (cs:=cs) (show i+1<=cs.length by omega)
   have hrow:=nu hsi
   obtain ⟨b,ob,c,z,hvx,hbn,-,hrd⟩:=hX.open hil
   have hrd:=λ{id:Nat} {k:List V->R}=>(hrd (f.same _ hbn)).1 (id:=id) (k:=k)
   rw [hrow]at hrd
   generalize cs[i]=w at hnz hrd hpa hpw
   obtain ⟨wb,wl,wn⟩:=w
   have w0:=f.wf
   obtain ⟨G1,hG1,f1,p1,n1⟩:=Heap.aO w0 (.cells [.int 3 0,.str 0 0])
   obtain ⟨G2,hG2,f2,p2,n2,w2,k2⟩:=Heap.aU (b:=G.n) f1 (YB _) (by omega) (.cells [.int 3 wb,.str wl wn])
   have w1:=f1.wf
   have a1:nn i:=by unfold nn;omega
   have a2:i<9223372036854775808:=by omega
   have a3:(i+1)%18446744073709551616=i+1:=by omega
   have a4:G.n<G1.n:=by omega
   by_cases hz:wl=32/\wn=0
   .obtain ⟨rfl,rfl⟩:=hz
    rw [if_pos rfl]at hpa
    rw [if_pos rfl,YR]at hpw
    rw [if_pos rfl,WL]at hnz
    obtain ⟨G3,hG3,f3,p3,n3⟩:=Heap.aO w2 (.cells [.int 3 0])
    obtain ⟨va',G4,hap,oa4,f4,k4,n4,off4⟩:=Own.app (w:=va) (x:=.slice G2.n 0 1 2 0) (m:=1) (new:=[.int 3 0]) ((f.trans f2).trans f3) ((oa.fresh f2).fresh f3) (λ{id f}=>iN p3 rfl) rfl (λx hx=>by rw [YU.1 hx];rfl) (by omega)
    refine ⟨(va',vw),G4,⟨f4,by rw [hpa,WB];exact oa4,by rw [hnz,hpw];exact ((ow.fresh f2).fresh f3).jk n4 k4 oo,λb o n c z e=>off4 b (by have:=(ow.db e).2;omega) (oo _ _ _ _ _ e)⟩,λd kx r e x ⟨q4,q5,q13,q17,q123,q124,q125⟩ hk=>?_⟩
    subst hvx
    rw [ak]
    simp only [go_sem,Ab,q4,q13,q123,q124,q125,hil,nl,a1,a2,a3,a4,↓hrd,w0,hG1,p1,w1,hG2,p2,and_self,w2,hG3,↓hap]
    exact hk _ (by simp only [go_sem,q5,q13,q17,q123,q124,and_self])
   .have hz':(wl=32/\wn=0)=False:=eq_false hz
    have hz2:¬ ((wl,wn):Tx)=(32,0):=λh=>hz ⟨congrArg YF1 h,congrArg YN3 h⟩
    rw [if_neg hz2]at hpa hpw hnz
    have hj:fT cs i<fr.length:=by omega
    obtain ⟨fb,fo,fc,fz,rfl,RY,-,hfr⟩:=hF.open hj
    have hfr2:=λ{id:Nat} {k:V->R}=>hfr ((f.trans f2).same _ RY) (id:=id) (k:=k)
    have hfd:fr.getD (fT cs i) 0=fr[fT cs i]:=by rw [YF,YA hj];rfl
    rw [hfd]at hpa hpw
    generalize fr[fT cs i]=q at hpa hpw hfr hfr2
    obtain ⟨G3,hG3,f3,p3,n3⟩:=Heap.aO w2 (.cells [.int 3 q])
    obtain ⟨va',G4,hap,oa4,f4,k4,n4,off4⟩:=Own.app (w:=va) (x:=.slice G2.n 0 1 2 0) (m:=1) (new:=[.int 3 q]) ((f.trans f2).trans f3) ((oa.fresh f2).fresh f3) (λ{id f}=>iN p3 rfl) rfl (λx hx=>by rw [YU.1 hx];rfl) (by omega)
    have ow4:=((ow.fresh f2).fresh f3).jk n4 k4 oo
    have p4:G4.get G.n = .cells [.int 3 wb,.str wl wn]:=(k4 _ (by omega) (oa.Kk (YB _))).trans ((f3.same _ (by omega)).trans p2)
    have hfr4:=λ{id:Nat} {k:V->R}=>hfr (f4.same _ RY) (id:=id) (k:=k)
    have oo4:∀ b o n c z,vw = .slice b o n c z->js va' b:=λb o n c z e=>off4 b (by have:=(ow.db e).2;omega) (oo _ _ _ _ _ e)
    obtain ⟨G5,hG5,f5,p5,n5⟩:=Heap.aO f4.wf (.cells [.int 3 q,.str wl wn])
    have f45:=f4.trans f5
    obtain ⟨vw',G6,hap6,ow6,f6,k6,n6,off6⟩:=Own.app (w:=vw) (x:=.slice G4.n 0 1 2 0) (m:=1) (new:=[.int 3 q,.str wl wn]) f45 (ow4.fresh f5) (λ{id f}=>iN p5 rfl) rfl (λx hx=>by rcases Yb.1 hx with rfl|hx;rfl;rw [YU.1 hx];rfl) (by omega)
    have sw:=λ{id:Nat} {f:Nat->R}=>ow.sn (id:=id) (f:=f)
    have w4:=f4.wf
    have w5:=f5.wf
    have a5:nn (fT cs i):=by unfold nn;omega
    have a6:fT cs i<9223372036854775808:=by omega
    have hle2:=pL cs cs.length
    have a7:nn fr.length:=by unfold nn;omega
    refine ⟨(va',vw'),G6,⟨f6,?_,by rw [hnz,hpw,er];exact ow6,?_⟩,λd kx r e x ⟨q4,q5,q13,q17,q123,q124,q125⟩ hk=>?_⟩
    .rw [hpa,WB]
     exact (oa4.fresh f5).jk n6 k6 (yj oo4)
    .exact yj λb o n c z e=>off6 b (by have:=(oa4.db e).2;omega) (yj oo4 _ _ _ _ _ e)
    subst hvx
    rw [ak]
    simp only [go_sem,Ab,q4,q5,q13,q17,q123,q124,q125,hil,hj,nl,a1,a2,a3,a4,a6,↓hrd,w0,hG1,p1,w1,hG2,p2,hz',↓sw,↓hfr2,w2,hG3,↓hap,↓hfr4,p4,w4,hG5,↓hap6]
    exact hk _ (by simp only [go_sem,q13,q17,q123,q124,and_self])) cs.length 0 (.az,.az) H (by omega) ⟨af.refl hw,Own.nil,Own.nil,λb o n c z e=>by cases e⟩
 refine ⟨G',va,vw,f',oa',ow',λd kx e x q4 q5 q13 q17 q123 q124 q125 hk=>z d kx fuel e x (by omega) ⟨q4,q5,q13,q17,q123,q124,q125⟩ λr e' ⟨q4,q5,q13,q17,q123,q124,q125⟩=>?_⟩
 have e6:¬ cs.length<cs.length:=by omega
 rw [ak]
 simp only [go_sem,Ab,q124,q125,nl,e6]
 exact hk _ q4 q5
end
end Go.Ev
end
section
namespace Go.Ev
open Go.Proofs
def fW (m:MT) (n:Nat):List Nat:=qE n (nz (c8 m).flatten)
section
variable {t:Nat->Option cP} {fuel:Nat} {H:Heap} {O Q:Nat->Prop}
set_option maxRecDepth 4000 in
theorem KC (T:aA t) (hc:aY t) {m:MT} {vl vs vi vx:V} {vp dp:Nat} {lost:Bool} {A:AD} {cs:List Wr} (hD:cN H dp A O) (hV:H.get vp = .cells (vc m vl vs vi dp lost)) (hVn:vp<H.n) (M:ku H Q m vl vs vi) (Y:rP m) (hX:Row H Q vx 2 cs.length (bC cs)) (hn:cs.length<1000) (hA:A.len<=1024)
 (hok:∀ l ∈ c8 m,∀ a ∈ l,a≠0->193<=a/\a<A.len) (hQ:∀ b,Q b->b<H.n) (hfl:(c8 m).flatten.length<1000000) (hfu:1000000<fuel):
 ∃ H' va vw,(∀ (d:Nat) (k:K),aj (aN (aP Tryz.prog) t fuel (d+5)) (.func 110 []) [.ptr vp 0,vx] H k=k (.cH [va,vw,.int 3 (if (cZ (fW m A.len)).length<fT cs cs.length then 7 else 0)]) H')/\af H H'/\va.one=true/\vw.one=true/\
  (¬ (cZ (fW m A.len)).length<fT cs cs.length->Own H H' va 1 cs.length ((Hl cs ((cZ (fW m A.len)).take (fT cs cs.length)) cs.length).map (V.int 3))/\Own H H' vw 2 (fT cs cs.length) (bC (Hm cs ((cZ (fW m A.len)).take (fT cs cs.length)) cs.length))):=by
 have hw:=hD.wf
 have l1:=Y.live.1
 have l2:=Y.num
 have l3:=Y.tok.2.2.2.2.1
 obtain ⟨Ml,Ms,Mi⟩:=M
 have j1:=λ{id:Nat} {k:R}=>aI Ml.one (id:=id) (k:=k)
 have j2:=λ{id:Nat} {k:R}=>aI Mi.one (id:=id) (k:=k)
 have x1:=λ{id:Nat} {f:List V->R}=>ID Ml.one (id:=id) (f:=f)
 have x2:=λ{id:Nat} {f:List V->R}=>ID Mi.one (id:=id) (f:=f)
 have sn:=λ{id:Nat} {f:Nat->R}=>(let ⟨_,h,_⟩:=Ms;h.sn (id:=id) (f:=f):bG id vs (λ_ _ len _ _=>f len) (f 0)=f m.aa.length)
 have sx:=λ{id:Nat} {f:Nat->R}=>hX.sn (id:=id) (f:=f)
 have hV':=hV
 simp only [vc,aW,bq,YL,YK]at hV'
 obtain ⟨G1,hG1,f1,p1,n1⟩:=Heap.aO hw (.cells [vl,vi])
 have o1:Own H G1 (.slice H.n 0 2 3 0) 1 2 [vl,vi]:=⟨rfl,λx hx=>by rcases Yb.1 hx with rfl|hx;exact Ml.one;rw [YU.1 hx];exact Mi.one,YE ⟨_,_,_,[],rfl,p1,YG rfl,YB _,by omega⟩⟩
 obtain ⟨G2,vg,ns,f2,o2,hns,zi⟩:=NC (cp:=aP Tryz.prog) (fuel:=fuel) (vp:=vp) (vx:=vx) T Ms l2 f1 o1 (by omega)
 have hV1:=(f1.same _ hVn).trans hV'
 have hV2:=(f2.same _ hVn).trans hV'
 have hims:OU G2 Q vg (c8 m):=by
  refine ⟨vl :: vi :: ns,?_,λi l hl=>?_⟩
  .have:=o2.toRow hQ
   rwa [show 2+m.aa.length=(c8 m).length by simp [c8];omega]at this
  .match i,hl with
   | 0,hl=>cases hl;exact ⟨vl,rfl,Ml.fresh f2⟩
   | 1,hl=>cases hl;exact ⟨vi,rfl,Mi.fresh f2⟩
   | i+2,hl=>
    have hl:(m.aa.map (·.cF))[i]? = some l:=hl
    rw [Yg]at hl
    obtain ⟨s,hs,rfl⟩:=Option.map_eq_some_iff.1 hl
    obtain ⟨x,hx,hI⟩:=hns i s hs
    exact ⟨x,hx,hI.fresh f2⟩
 have hlen:∀ l ∈ c8 m,l.length<1000000:=λl hl=>by
  have:l.length<=(c8 m).flatten.length:=(List.sublist_flatten_of_mem hl).length_le
  omega
 have zl:=λ{d:Nat} {k:K}=>sH (cp:=aP Tryz.prog) (fuel:=fuel) (T.jh hc) (d:=d) (k:=k) (hD.fresh f2)
 obtain ⟨G3,vcn,zc,f3,o3⟩:=EN (t:=t) (fuel:=fuel) T f2.wf hims (by simp [c8];omega) hlen hfu hA hok hfl
 have zc:=λ{d:Nat} {k:K}=>zc d k
 have w3:=f3.wf
 obtain ⟨G4,hG4,f4,p4,n4⟩:=Heap.aO w3 (.bytes 32 0)
 have f24:=f2.trans (f3.trans f4)
 obtain ⟨G5,f5,f45,zn⟩:=VG (cp:=aP Tryz.prog) (fuel:=fuel) (vcn:=vcn) T hX hn f24 (by omega)
 have hcn:ee G5 Q vcn (fW m A.len):=((o3.toRow (O:=Q) λb h=>YD (hQ b h) f2.n).fresh (f4.trans f45):Row G5 Q vcn 1 A.len _) |> λh=>by
  unfold ee fW
  rw [dF]
  exact h
 have hnle:=pL cs cs.length
 obtain ⟨G6,vf,zt,f6,o6⟩:=Xq (t:=t) (fuel:=fuel) (n:=fT cs cs.length) T f5.wf hcn (by unfold fW;rw [dF];omega) hfu (by omega)
 have zt:=λ{d:Nat} {k:K}=>zt d k
 have e1:m.aa.length<9223372036854775808:=by omega
 have e2:cs.length<9223372036854775808:=by omega
 by_cases hlt:(cZ (fW m A.len)).length<fT cs cs.length
 .rw [if_pos hlt]at zt ⊢
  refine ⟨G6,.az,.az,λd k=>?_,f5.trans f6,rfl,rfl,λh=>absurd hlt h⟩
  rw [aJ T.k55 rfl rfl]
  simp only [go_sem,c55,PK,hV',↓j1,↓j2,↓x1,↓x2,hw,hG1]
  simp only [go_sem,PO,hV1,↓sn,e1]
  refine zi (d+4) _ _ _ ?_ ?_ ?_ ?_ ?_ ?_ ?_ ?_ λe' q0 q1 q4 q5 q7=>?_
  .rfl
  .rfl
  .rfl
  .rfl
  .rfl
  .rfl
  .rfl
  .rfl
  simp only [go_sem,PS,q0,q7,hV2,↓zl,↓zc]
  simp only [go_sem,PT,PU,PV,PW,q1,w3,hG4,p4,↓sx,e2]
  refine zn (d+4) _ _ _ ?_ ?_ ?_ ?_ ?_ ?_ ?_ ?_ ?_ λe' q1 q4 q5 q12 q13 q14=>?_
  .exact q1
  .exact q4
  .exact q5
  .rfl
  .rfl
  .rfl
  .rfl
  .rfl
  .rfl
  simp only [go_sem,PX,q12,q14,↓zt]
  simp only [go_sem,PY]
 .rw [if_neg hlt]at zt ⊢
  have o6:=o6 hlt
  have hfrl:((cZ (fW m A.len)).take (fT cs cs.length)).length=fT cs cs.length:=by rw [List.length_take];omega
  generalize (cZ (fW m A.len)).take (fT cs cs.length)=fr at o6 hfrl ⊢
  obtain ⟨G7,va,vw,f7,oa,ow,zp⟩:=Te (cp:=aP Tryz.prog) (fuel:=fuel) (vf:=vf) (fr:=fr) T f6.wf (hX.fresh (f5.trans f6)) (by unfold ee;rw [hfrl];exact o6.toRow λb h=>YD (hQ b h) f5.n) hfrl hn (by omega)
  have f56:=f5.trans f6
  refine ⟨G7,va,vw,λd k=>?_,f56.trans f7,oa.one,ow.one,λ_=>⟨oa.sub f56.n,ow.sub f56.n⟩⟩
  rw [aJ T.k55 rfl rfl]
  simp only [go_sem,c55,PK,hV',↓j1,↓j2,↓x1,↓x2,hw,hG1]
  simp only [go_sem,PO,hV1,↓sn,e1]
  refine zi (d+4) _ _ _ ?_ ?_ ?_ ?_ ?_ ?_ ?_ ?_ λe' q0 q1 q4 q5 q7=>?_
  .rfl
  .rfl
  .rfl
  .rfl
  .rfl
  .rfl
  .rfl
  .rfl
  simp only [go_sem,PS,q0,q7,hV2,↓zl,↓zc]
  simp only [go_sem,PT,PU,PV,PW,q1,w3,hG4,p4,↓sx,e2]
  refine zn (d+4) _ _ _ ?_ ?_ ?_ ?_ ?_ ?_ ?_ ?_ ?_ λe' q1 q4 q5 q12 q13 q14=>?_
  .exact q1
  .exact q4
  .exact q5
  .rfl
  .rfl
  .rfl
  .rfl
  .rfl
  .rfl
  simp only [go_sem,PX,q12,q14,↓zt]
  simp only [go_sem,PY,PL,q1,↓sx,e2]
  refine zp (d+4) _ _ _ ?_ ?_ ?_ ?_ ?_ ?_ ?_ λe' q4 q5=>?_
  .exact q4
  .exact q5
  .exact q13
  .rfl
  .rfl
  .rfl
  .rfl
  simp only [go_sem,PM,PN,q4,q5]
end
end Go.Ev
end
section
namespace Go.Ev
structure TS (H G:Heap) (B:Nat) (m:MT) (vl vs vi:V):Prop where
 f:af H G
 g:G.get B = .cells (aW m vl vs vi)
 hi:B<G.n
 base:∃ G1,af H G1/\MO H G1 m vl vs vi/\G1.n<=B/\af G1 G
theorem TS.of {H G1 G:Heap} {m:MT} {vl vs vi:V} (f1:af H G1) (o:MO H G1 m vl vs vi) (f:af G1 G) (g:G.get G1.n = .cells (aW m vl vs vi)) (n:G.n=G1.n+1):TS H G G1.n m vl vs vi:=⟨f1.trans f,g,by omega,G1,f1,o,YB _,f⟩
theorem TS.lo {H G:Heap} {B:Nat} {m:MT} {vl vs vi:V} (h:TS H G B m vl vs vi):H.n<=B:=let ⟨_,f,_,n,_⟩:=h.base;Yr f.n n
def Bf:Tk:=⟨(0,0),(0,0),0,0,[]⟩
theorem Am:∀ {ss} {xs} {s} {x},xs.length=ss.length->dU (ss ++ [s]) (xs ++ [x])=dU ss xs ++ bJ s x
 | [],[],s,x,_=>by rfl
 | [],_ :: _,_,_,h=>by simp_all
 | _ :: _,[],_,_,h=>by simp_all
 | a :: ss,b :: xs,s,x,h=>by
  show bJ a b ++ dU (ss ++ [s]) (xs ++ [x])=_
  rw [Am (by simp_all),<- WA]
  rfl
theorem Nl:∀ {ss} {xs} {i} {s},ss[i]? = some s->xs.length=ss.length->(dU ss xs).set (i*4+3) (.bool true)=dU (ss.set i {s with hid:=true }) xs
 | [],_,i,_,h,_=>by rfl
 | _ :: _,[],i,_,_,h=>by simp_all
 | a :: ss,b :: xs,0,s,h,_=>by
  simp at h
  subst h
  rfl
 | a :: ss,b :: xs,i+1,s,h,h'=>by
  rw [show (i+1)*4+3=(i*4+3)+4 by omega]
  show bJ a b ++ (dU ss xs).set (i*4+3) (.bool true)=_
  rw [Nl (by simpa using h) (by simp_all)]
  rfl
theorem Heap.Sv {H:Heap} (hw:H.wf) (x:eK):∃ Gm G,H.mark.new x=Gm/\Gm.dX H.bz=G/\H.n<=Gm.bz/\af H G/\G.get H.n=x/\G.n=H.n+1:=by
 have hm:H.mark.wf:=by rw [Heap.dm];exact hw
 have f:=af.new hm (x:=x)
 refine ⟨_,_,rfl,rfl,f.dX.2,f.dX.1,?_,?_⟩
 .show (H.mark.new x).get H.mark.n=x
  rw [Heap.aD hm,if_pos rfl]
 .show (H.mark.new x).n=H.mark.n+1
  exact Heap.aM
section
variable {cp:RC->ah} {t:Nat->Option cP} {fuel:Nat} {H G:Heap} {Q:Nat->Prop} {B:Nat} {m:MT} {vl vs vi:V}
theorem Dq (T:aA t) (S:TS H G B m vl vs vi):
 ∃ G',(∀ (d) (k),aj (aN cp t fuel (d+1)) (.func 126 []) [.ptr B 0] G k=k (.cH []) G')/\TS H G' B {m with tok:=Bf } vl vs .az/\∀ j,j≠B->G'.get j=G.get j:=by
 obtain ⟨f,g,hi,G1,f1,o1,n1,f13⟩:=S
 obtain ⟨G2,hG2,f2,p2,n2,w2,k2⟩:=Heap.aU f13 n1 hi (.cells (aW {m with tok:=Bf } vl vs .az))
 have w:=f.wf
 refine ⟨G2,λd k=>?_,⟨f1.trans f2,p2,by omega,G1,f1,⟨o1.live,o1.aa,Own.nil,o1.dl,λb o n c s e=>by cases e⟩,n1,f2⟩,k2⟩
 simp only [aW,bq,Bf]at g hG2
 rw [aJ T.k63 rfl rfl]
 simp only [go_sem,c63,g,w,hi,hG2]
end
end Go.Ev
end
section
namespace Go.Ev
section
variable {id:Nat} {ph:cU} {e:Env} {H:Heap} {k:K} {O:Nat->Prop}
end
theorem JF:∀ {ss} {xs} {n},xs.length=ss.length->(dU ss xs).take (n*4)=dU (ss.take n) (xs.take n)
 | [],[],n,_=>by simp [dU]
 | [],_ :: _,_,h=>by simp_all
 | _ :: _,[],_,h=>by simp_all
 | a :: ss,b :: xs,0,_=>by rfl
 | a :: ss,b :: xs,n+1,h=>by
  have:=JF (n:=n) (by simpa using h)
  show (bJ a b ++ dU ss xs).take ((n+1)*4)=bJ a b ++ dU (ss.take n) (xs.take n)
  rw [<- this,show (n+1)*4=(bJ a b).length+n*4 by simp [bJ];omega,List.take_length_add_append]
section
variable {cp:RC->ah} {t:Nat->Option cP} {fuel:Nat} {H G:Heap} {Q:Nat->Prop} {B:Nat} {m:MT} {vl vs vi:V}
end
end Go.Ev
end
section
namespace Go.Ev
def stM (m:MT) (tk:Tk) (l:List Nat):MT:=if tk.next<tk.all then {m with tok:={tk with cF:=l }} else {m with aa:=m.aa ++ [⟨tk.t,l,false⟩],live:=l }
section
variable {cp:RC->ah} {t:Nat->Option cP} {fuel:Nat} {H G:Heap} {Q:Nat->Prop} {B:Nat} {m:MT} {vl vs vi:V}
theorem K6 (T:aA t) {ca cb:Nat} {tk:Tk} {x0 vL:V} {l:List Nat} {Hb:Heap} (f0:af Hb H) (S:TS H G B m vl vs vi) (Y:rP m) (ga:G.get ca = .cells [vL]) (gc:G.get cb = .cells (bq tk x0)) (hca:ca<H.n) (hcb:cb<H.n) (hcc:ca≠cb) (hb:Hb.n<=cb) (hx0:x0.one=true) (hvL:vL.one=true) (hn1:nn tk.next) (hn2:nn tk.all) (hll:l.length<1000)
 (hL:∀ {G':Heap},(∀ j,j<H.n->j≠cb->G'.get j=G.get j)->G.n<=G'.n->ee G' Q vL l) (hQ:∀ b,Q b->b<Hb.n):
 ∃ G' vl' vs' vi',(∀ (d:Nat) (k:K),aj (aN cp t fuel (d+2)) (.func 308 [.ptr cb 0,.ptr ca 0]) [.ptr B 0] G k=k (.cH []) G')/\af Hb G'/\B<G'.n/\G'.get B = .cells (aW (stM m tk l) vl' vs' vi')/\ku G' Q (stM m tk l) vl' vs' vi'/\(∀ j,j<H.n->j≠cb->G'.get j=G.get j)/\G.n<=G'.n:=by
 have l1:=Y.live.1
 have l2:=Y.num
 obtain ⟨f,g,hi,G1,f1,o1,n1,f13⟩:=S
 have hQH:=λb h=>YD (hQ b h) f0.n
 have w:=f.wf
 have mf:=f1.n
 have m13:=f13.n
 have m0:=f0.n
 obtain ⟨xs,ho1,hxl,hx1⟩:=o1.aa
 have offB:∀ {v} {sz n} {row},Own H G1 v sz n row->∀ b o n c s,v = .slice b o n c s->b≠B:=λh b o n c s e=>by have:=(h.db e).2;omega
 have offC:∀ {v} {sz n} {row},Own H G1 v sz n row->∀ b o n c s,v = .slice b o n c s->b≠cb:=λh b o n c s e=>by have:=(h.db e).1;omega
 have jL:=λ{id} {k}=>aI hvL (id:=id) (k:=k)
 have j1:=λ{id} {k}=>aI o1.live.one (id:=id) (k:=k)
 have j2:=λ{id} {k}=>aI o1.cF.one (id:=id) (k:=k)
 have j4:=λ{id} {k}=>aI ho1.one (id:=id) (k:=k)
 have jx:=λ{id} {k}=>aI hx0 (id:=id) (k:=k)
 unfold stM
 by_cases hlt:tk.next<tk.all
 .rw [if_pos hlt]
  have fb:=f0.trans f
  obtain ⟨G2,hG2,f2,p2,n2,w2,k2⟩:=Heap.aU fb hb (by omega) (.cells (bq tk vL))
  have g2:=(k2 B (by omega)).trans g
  obtain ⟨G3,hG3,f3,p3,n3,w3,k3⟩:=Heap.aU (b:=B) f2 (by omega) (by omega) (.cells (aW {m with tok:={tk with cF:=l }} vl vs vL))
  have keepO:∀ {v} {sz n} {row},Own H G1 v sz n row->Own H G3 v sz n row:=λh=>((h.fresh f13).jk (v:=.slice cb 0 0 0 0) (by omega) (λj hj ho=>k2 j (ho _ _ _ _ _ rfl)) (λb o n c s e b' o' n' c' s' e'=>by cases e';exact offC h _ _ _ _ _ e)).jk (v:=.slice B 0 0 0 0) (by omega) (λj hj ho=>k3 j (ho _ _ _ _ _ rfl)) λb o n c s e b' o' n' c' s' e'=>by cases e';exact offB h _ _ _ _ _ e
  have hsame:∀ j,j<H.n->j≠cb->G3.get j=G.get j:=λj hj hne=>(k3 j (by omega)).trans (k2 j hne)
  refine ⟨G3,vl,vs,vL,λd k=>?_,f3,by omega,p3,⟨ee.pM (keepO o1.live) hQH,⟨xs,(keepO ho1).toRow hQH,hxl,λi s hs=>let ⟨x,b1,b2,b3⟩:=hx1 i s hs; ⟨x,b1,ee.pM (keepO b2) hQH⟩⟩,hL hsame (by omega)⟩,hsame,by omega⟩
  have hcn:cb<G.n:=by omega
  have hBn:B<G2.n:=by omega
  simp only [aW,bq]at g gc hG2 g2 hG3 p2
  rw [ax T.aaL rfl rfl]
  simp only [YL,YK]
  simp only [go_sem,Z0,gc,ga,hn1,hn2,hlt,↓jL,w,hcn,hG2,p2,g2,w2,hBn,hG3]
 .rw [if_neg hlt]
  have ho:=ho1.fresh f13
  have hvB:=ho1.Kk n1
  obtain ⟨Gn,G3,hGn,hu3,hl3,f3,p3,n3⟩:=Heap.Sv w (.cells [.int 7 tk.t.1,.int 7 tk.t.2,vL,.bool false])
  obtain ⟨vs',G4,hap,o4,f4,k4,n4,off4⟩:=Own.app (w:=vs) (x:=.slice G.n 0 1 2 0) (f.trans f3) (ho.fresh f3) (λ{id f}=>iN p3 rfl) rfl (λx hx=>by
   rcases Yb.1 hx with rfl|hx;rfl
   rcases Yb.1 hx with rfl|hx;rfl
   rcases Yb.1 hx with rfl|hx;exact hvL
   rw [YU.1 hx];rfl) (by omega)
  have o4:Own H G4 vs' 4 (m.aa.length+1) (dU m.aa xs ++ bJ ⟨tk.t,l,false⟩ vL):=o4
  rw [<- Am hxl]at o4
  have g4:=(k4 B (by omega) hvB).trans ((f3.same _ hi).trans g)
  have hB4:B<G4.n:=by omega
  have lo:H.n<=B:=by omega
  obtain ⟨G5,hG5,f5,p5,n5,w5,k5⟩:=Heap.aU f4 lo hB4 (.cells (aW m vl vs' vi))
  have off5:=off4 B (by omega) hvB
  have same5:=λj hj=>(k5 j (by omega)).trans ((k4 j (by omega) (ho.off hj)).trans (f3.same j (by omega)))
  obtain ⟨G6,vl',z6,f6,o6⟩:=gH (cp:=cp) (fuel:=fuel) T w5 (hL (λj hj _=>same5 j hj) (by omega)) (by omega)
  have m6:=f6.n
  obtain ⟨G7,hG7,f7,p7,n7,w7,k7⟩:=Heap.aU (f5.trans f6) lo (by omega) (.cells (aW {m with aa:=m.aa ++ [⟨tk.t,l,false⟩],live:=l } vl' vs' vi))
  have p6:=(f6.same _ (by omega)).trans p5
  have keep7:∀ {H1} {v} {sz n} {row},Own H1 G4 v sz n row->(∀ b o n c s,v = .slice b o n c s->b≠B)->Own H1 G7 v sz n row:=λh hb=>((h.jk (v:=.slice B 0 0 0 0) (by omega) (λj hj ho=>k5 j (ho _ _ _ _ _ rfl)) (λb o n c s e b' o' n' c' s' e'=>by cases e';exact hb _ _ _ _ _ e)).fresh f6).jk (v:=.slice B 0 0 0 0) (by omega) (λj hj ho=>k7 j (ho _ _ _ _ _ rfl)) λb o n c s e b' o' n' c' s' e'=>by cases e';exact hb _ _ _ _ _ e
  have keepO:∀ {v} {sz n} {row},Own H G1 v sz n row->(∀ b o n c s,v = .slice b o n c s->js vs b)->Own H G7 v sz n row:=λh hh=>keep7 (((h.fresh f13).fresh f3).jk n4 k4 hh) (offB h)
  have same7:=λj hj=>(k7 j (by omega)).trans ((f6.same j (by omega)).trans (same5 j hj))
  have w6:=f6.wf
  have hB6:B<G6.n:=by omega
  have hvl:=o6.jk (v:=.slice B 0 0 0 0) (by omega) (λj hj ho=>k7 j (ho _ _ _ _ _ rfl)) λb o n c s e b' o' n' c' s' e'=>by cases e';have:=(o6.db e).1;omega
  refine ⟨G7,vl',vs',vi,λd k=>?_,f0.trans f7,by omega,p7,⟨ee.pM hvl (λb h=>by have:=hQH b h;omega),⟨xs ++ [vL],?_,by simp [hxl],λi s' hs'=>?_⟩,ee.pM (keepO o1.cF o1.di) hQH⟩,λj hj _=>same7 j hj,by omega⟩
  .have j6:=λ{id} {k}=>aI o4.one (id:=id) (k:=k)
   have j7:=λ{id} {k}=>aI o6.one (id:=id) (k:=k)
   have xL:=λ{id} {f}=>ID hvL (id:=id) (f:=f)
   have z6:=λ{d} {k}=>z6 d k
   have w4:=f4.wf
   have wm:G.mark.wf:=by rw [Heap.dm];exact w
   have nm:G.mark.n=G.n:=rfl
   have ga5:=(same5 ca hca).trans ga
   simp only [aW,bq]at g gc g4 hG5 p6 hG7
   rw [ax T.aaL rfl rfl]
   simp only [YL,YK]
   simp only [go_sem,Z0,g,gc,ga,hn1,hn2,hlt,↓jL,↓j6,↓j7,↓xL,wm,nm,hGn,hu3,hl3,↓hap,g4,w4,hB4,hG5,ga5,↓z6,p6,w6,hB6,hG7]
  .have:=(keep7 o4 λb o n c s e he=>off5 _ _ _ _ _ e he.symm).toRow hQH
   show Row G7 Q _ 4 (m.aa ++ [_]).length _
   rw [YC]
   exact this
  .have hs':=hs'
   by_cases hil:i<m.aa.length
   .rw [Yp hil]at hs'
    obtain ⟨x,b1,b2,b3⟩:=hx1 i s' hs'
    exact ⟨x,by rw [Yp (by omega)];exact b1,ee.pM (keepO b2 b3) hQH⟩
   .rw [Ym (by omega)]at hs'
    have hi0:=by
     have:=(Yo.1 hs').1
     simp at this
     omega
    rw [hi0]at hs'
    cases hs'
    exact ⟨vL,by rw [Ym (by omega),hxl,hi0];rfl,hL (λj hj _=>same7 j hj) (by omega)⟩
end
end Go.Ev
end
section
namespace Go.Ev
structure VP (H:Heap) (dp vp a n:Nat) (A:AD) (O:Nat->Prop) (m:MT) (vl vs vi:V):Prop where
 fC:cN H dp A O
 off:A.off=false
 can:qb A a n
 lo:193<=A.len
 hi:A.len<=1024
 get:H.get vp = .cells (vc m vl vs vi dp false)
 vn:vp<H.n
 vo:¬ O vp
 sI:ku H (bQ O vp) m vl vs vi
 ok:rP m
def um (H H':Heap) (dp vp:Nat) (O O':Nat->Prop) (m:MT) (vl vs vi:V) (A':AD) (m':MT) (lost:Bool):Prop:=Step H (bQ O vp) H' (bQ O' vp)/\cN H' dp A' O'/\¬ O' vp/\vp<H'.n/\∃ vl' vs' vi',H'.get vp = .cells (vc m' vl' vs' vi' dp lost)/\ku H' (bQ O' vp) m' vl' vs' vi'/\∀ X:Nat->Prop,(∀ b,X b->b<H.n)->ku H (λb=>X b\/bQ O vp b) m vl vs vi->ku H' (λb=>X b\/bQ O' vp b) m' vl' vs' vi'
theorem VP.fresh {H H':Heap} {dp vp a n:Nat} {A:AD} {O:Nat->Prop} {m:MT} {vl vs vi:V} (S:VP H dp vp a n A O m vl vs vi) (f:af H H'):VP H' dp vp a n A O m vl vs vi:=⟨S.fC.fresh f,S.off,S.can,S.lo,S.hi,(f.same _ S.vn).trans S.get,YD S.vn f.n,S.vo,S.sI.fresh f,S.ok⟩
theorem VP.lt {H:Heap} {dp vp a n:Nat} {A:AD} {O:Nat->Prop} {m:MT} {vl vs vi:V} (S:VP H dp vp a n A O m vl vs vi):∀ b,bQ O vp b->b<H.n:=λb h=>h.elim (S.fC.lt b) λh=>by rw [h];exact S.vn
theorem VP.done {H:Heap} {dp vp a n:Nat} {A:AD} {O:Nat->Prop} {m:MT} {vl vs vi:V} (S:VP H dp vp a n A O m vl vs vi):um H H dp vp O O m vl vs vi A m false:=⟨(af.refl S.fC.wf).step,S.fC,S.vo,S.vn,vl,vs,vi,S.get,S.sI,λX _ h=>h⟩
theorem um.before {H0 H H':Heap} {dp vp:Nat} {O O1 O':Nat->Prop} {A':AD} {m m':MT} {vl vs vi:V} {lost:Bool} (h:um H H' dp vp O1 O' m vl vs vi A' m' lost) (s:Step H0 (bQ O vp) H (bQ O1 vp)):um H0 H' dp vp O O' m vl vs vi A' m' lost:=
 let ⟨h1,h2,h3,h4,vl',vs',vi',h5,h6,h7⟩:=h
 ⟨s.trans h1,h2,h3,h4,vl',vs',vi',h5,h6,λX hX hM=>h7 X (λb hb=>YD (hX b hb) s.n) (hM.cG s.or)⟩
def Ur (pk:List UInt8->List (List UInt8)) (A:AD) (a:Nat) (m m':MT) (bw:List Wr):MT:=if (sh pk A a m' bw).2=0 then m' else m
def chL (pk:List UInt8->List (List UInt8)) (A:AD) (a:Nat) (m':MT) (bw:List Wr):Bool:=(pH m').2 == 0 && (sh pk A a m' bw).2 == 6
section
variable {cp:RC->ah} {t:Nat->Option cP} {fuel:Nat} {H:Heap} {pk:List UInt8->List (List UInt8)} {unpk:List (List UInt8)->Option (List UInt8)}
theorem EF (T:aA t) (hc:aY t) (F:cD pk unpk) (hp:t 102=some (.nat (gI pk))) {Hb} {dp vp a n bt c z} {A} {O} {m m'} {vl vs vi vb} {bw} {fs}
 (f0:af Hb H) (S:VP Hb dp vp a n A O m vl vs vi) (Y':rP m') (hbw:∀ w ∈ bw,w.1<18446744073709551616/\w.2.1<1000000/\vk w.2) (hbl:bw.length<1000) (hbt:H.get bt = .cells fs) (hbn:bt<H.n) (hfl:fs.length<1000) (hf1:∀ f ∈ fs,f.one=true)
 (ht:∀ (G1 G:Heap) (vl1 vs1 vi1:V),af H G->TS H G G1.n m vl1 vs1 vi1->∃ G' vl2 vs2 vi2,Lx cp t fuel G1.n bt fs G G'/\af Hb G'/\G1.n<G'.n/\G'.get G1.n = .cells (aW m' vl2 vs2 vi2)/\ku G' (λb=>b<Hb.n) m' vl2 vs2 vi2/\Row G' (bQ O vp) vb 2 bw.length (bC bw)) (hfu:1000000<fuel):
 ∃ H' O',(∀ (d:Nat) (k:K),aj (aN cp t fuel (d+8)) (.func 112 []) [.ptr vp 0,vb,.slice bt 0 fs.length c z] H k=k (.int 3 (sh pk A a m' bw).2) H')/\um Hb H' dp vp O O' m vl vs vi (sh pk A a m' bw).1 (Ur pk A a m m' bw) (chL pk A a m' bw):=by
 obtain ⟨H',O',z1,s,D,v1,v2,h⟩:=EE T hc F hp f0 S.fC S.off S.can S.lo S.hi S.get S.vn S.vo S.sI S.ok Y' hbw hbl hbt hbn hfl hf1 (λG1 G vl1 vs1 vi1 f1 o f g hn=>ht G1 G vl1 vs1 vi1 (f1.trans f) (TS.of f1 o f g hn)) hfu
 refine ⟨H',O',z1,s,D,v1,v2,?_⟩
 rcases h with ⟨h0,vl2,vs2,vi2,h1,h2,h3⟩|⟨h0,h1,h2,h3⟩
 .exact ⟨vl2,vs2,vi2,by unfold Ur chL;simp_all,by unfold Ur;simp_all,λX hX _=>by unfold Ur;simp_all⟩
 .exact ⟨vl,vs,vi,by unfold Ur chL;simp_all,by unfold Ur;simp_all,λX _ hM=>by unfold Ur;simp_all⟩
theorem yM:ld Bf.b/\ld Bf.t/\nn Bf.next/\nn Bf.all/\Hf Bf.cF:=by
 have z:(0:Nat)<18446744073709551616:=by omega
 have z2:nn 0:=by unfold nn;omega
 exact ⟨⟨z,z⟩,⟨z,z⟩,z2,z2,⟨by show 0<100;omega,λp hp=>by cases hp⟩⟩
theorem rP.drop {m:MT} (h:rP m):rP {m with tok:=Bf }:=⟨h.live,h.num,h.aa,yM⟩
end
end Go.Ev
end
section
namespace Go.Ev
section
variable {cp:RC->ah} {t:Nat->Option cP} {fuel:Nat} {H:Heap} {pk:List UInt8->List (List UInt8)} {unpk:List (List UInt8)->Option (List UInt8)}
end
end Go.Ev
end
section
namespace Go.Ev
theorem j9 {m} {q} {s} (hs:m.aa[q]? = some s) (hq:m.aa.length=q+1):cR m=s:=by
 show m.aa.getLast?.getD _=_
 rw [List.getLast?_eq_getElem?,hq,Nat.add_sub_cancel,hs]
 rfl
theorem ke {m} (h:m.aa.length=0):cR m=⟨(0,0),YZ m.live.length 0,false⟩:=by
 show m.aa.getLast?.getD _=_
 simp_all
theorem SO {m} (h:rP m):ld (cR m).g:=by
 rcases hm:m.aa.getLast? with _|s
 .have:cR m=⟨(0,0),YZ m.live.length 0,false⟩:=by unfold cR;simp_all
  rw [this]
  have z:(0:Nat)<18446744073709551616:=by omega
  exact ⟨z,z⟩
 .have:cR m=s:=by unfold cR;simp_all
  rw [this]
  exact (h.aa s (List.mem_of_getLast? hm)).1
section
variable {cp:RC->ah} {t:Nat->Option cP} {fuel:Nat} {H:Heap} {pk:List UInt8->List (List UInt8)} {unpk:List (List UInt8)->Option (List UInt8)}
theorem AI (T:aA t) {m:MT} {vl vs vi:V} {vp dp:Nat} {lost:Bool} {Q:Nat->Prop} (hw:H.wf) (hV:H.get vp = .cells (vc m vl vs vi dp lost)) (hVn:vp<H.n) (M:ku H Q m vl vs vi) (Y:rP m) (hQ:∀ b,Q b->b<H.n):
 ∃ H' x,(∀ (d:Nat) (k:K),aj (aN cp t fuel (d+1)) (.func 306 []) [.ptr vp 0] H k=k (.agg (bJ (cR m) x)) H')/\af H H'/\ee H' Q x (cR m).cF:=by
 have l1:=Y.live.1
 have l2:=Y.num
 have hV':=hV
 simp only [vc,aW,bq,YL,YK]at hV'
 have sn:=λ{id} {f:Nat->R}=>(let ⟨_,h,_⟩:=M.aa;h.sn:bG id vs (λ_ _ len _ _=>f len) (f 0)=f m.aa.length)
 have sl:=λ{id} {f}=>M.live.sn (id:=id) (f:=f)
 have a1:=by omega
 have a2:nn m.aa.length:=by unfold nn;omega
 have a3:nn 0:=by unfold nn;omega
 have a4:m.live.length<9223372036854775808:=by omega
 obtain ⟨G1,hG1,f1,p1,n1⟩:=Heap.aO hw (.cells [.int 7 0,.int 7 0,.az,.bool false])
 have g1:=(f1.same _ hVn).trans hV'
 have w1:=f1.wf
 have b1:H.n<G1.n:=by omega
 by_cases h0:m.aa.length=0
 .rw [ke h0]
  obtain ⟨G2,f2,o2,g2,n2,z2⟩:=Cv (n:=m.live.length) (x:=V.int 3 0) rfl w1 rfl (by omega) (YB _)
  obtain ⟨G3,hG3,f3,p3,n3,w3,k3⟩:=Heap.aU (f1.trans f2) (YB _) (by omega) (.cells [.int 7 0,.int 7 0,.slice G1.n 0 m.live.length (m.live.length+1) 0,.bool false])
  have p2:=(f2.same _ (by omega)).trans p1
  have w2:=f2.wf
  have b2:H.n<G2.n:=by omega
  have z2:=λ{id} {ph} {e} {k} (h1:ay uZ e = .int 3 m.live.length)=>z2 (id:=id) (ph:=ph) (k:=k) h1
  have nz:=by omega
  refine ⟨G3,.slice G1.n 0 m.live.length (m.live.length+1) 0,λd k=>?_,f3,?_⟩
  .rw [aJ T.aaK rfl rfl]
   simp only [go_sem,ZE,ZZ,hw,hG1,g1,↓sn,a1,a3,a4,h0,↓z2,p2,w2,b2,hG3,↓dW,p3,bJ]
  .have:=o2.jk (v:=.slice H.n 0 0 0 0) (by omega) (λj hj ho=>k3 j (ho _ _ _ _ _ rfl)) λb o n c s e b' o' n' c' s' e'=>by cases e';cases e;omega
   have h:=this.toRow λb h=>by have:=hQ b h;omega
   unfold ee
   rw [List.length_replicate,List.map_replicate]
   exact h
 .obtain ⟨q,hq⟩:∃ q,m.aa.length=q+1:=⟨m.aa.length-1,by omega⟩
  have hlt:q<m.aa.length:=by omega
  obtain ⟨b,o,c,z,x,hvs,hbn,hbQ,hI,hrd⟩:=M.aa.open hlt
  have hsq:=YA hlt
  rw [j9 hsq hq]
  generalize m.aa[q]=s at hI hrd
  have hrd:=λ{id} {k}=>hrd (f1.same _ hbn) (id:=id) (k:=k)
  obtain ⟨G2,hG2,f2,p2,n2,w2,k2⟩:=Heap.aU f1 (YB _) b1 (.cells (bJ s x))
  have jx:=λ{id} {k}=>aI hI.one (id:=id) (k:=k)
  refine ⟨G2,x,λd k=>?_,f2,hI.fresh f2⟩
  have a5:nn q:=by unfold nn;omega
  have a6:q<9223372036854775808:=by omega
  have a7:(q+1+18446744073709551615)%18446744073709551616=q:=by omega
  have a8:q+1<9223372036854775808:=by omega
  have a9:0<q+1:=by omega
  have a10:q<q+1:=by omega
  have a11:nn (q+1):=by unfold nn;omega
  simp only [bJ]at hrd hG2 p2 ⊢
  rw [hq]at sn hvs
  subst hvs
  rw [aJ T.aaK rfl rfl]
  simp only [go_sem,ZZ,hw,hG1,g1,a3,a6,a7,a8,a9,a10,a11,↓hrd,↓jx,p1,w1,b1,hG2,↓dW,p2]
end
end Go.Ev
end
section
namespace Go.Ev
open Go.Proofs
theorem FX {cs} {x} (h:x ∈ cZ cs):x<cs.length:=List.mem_range.1 (List.mem_filter.1 h).1
def jD (m:MT) (n:Nat) (cs:List Wr):List Nat:=(cZ (fW m n)).take (fT cs cs.length)
theorem Vi {m} {n i} {cs} (hn:n<=1024):(jD m n cs).getD i 0<1024:=by
 rw [YF]
 rcases h:(jD m n cs)[i]? with _|x
 .simp
 .have h1:=FX (Wc (YS h))
  rw [fW,dF]at h1
  show x<1024
  omega
theorem Tb {cs} {m} {n} (hn:n<=1024) (hc:∀ c ∈ cs,c.2.1<1000000/\vk c.2):∀ i,i<=cs.length->∀ w ∈ Hm cs (jD m n cs) i,w.1<18446744073709551616/\w.2.1<1000000/\vk w.2
 | 0,_,w,h=>by cases h
 | i+1,hi,w,h=>by
  rcases Yn.1 h with h|h
  .exact Tb hn hc i (by omega) w h
  .split at h
   .cases h
   .rw [YU.1 h]
    have hl:=Vi (m:=m) (i:=fT cs i) (cs:=cs) hn
    have hm:cs.getD i (0,(32,0)) ∈ cs:=by
     rw [YF,YA (show i<cs.length by omega)]
     simp
    exact ⟨by omega,hc (cs.getD i (0,(32,0))) hm⟩
section
variable {t:Nat->Option cP} {fuel:Nat} {H:Heap} {pk:List UInt8->List (List UInt8)} {unpk:List (List UInt8)->Option (List UInt8)}
end
end Go.Ev
end
section
namespace Go.Ev
section
variable {cp:RC->ah} {t:Nat->Option cP} {fuel:Nat} {H:Heap}
theorem ur (T:aA t) {dp vp a n} {A} {O} {m} {vl vs vi} (S:VP H dp vp a n A O m vl vs vi) (d) (k):
 aj (aN cp t fuel (d+1)) (.func 144 []) [.ptr vp 0] H k=k (.int 3 m.live.length) H:=by
 have g:=S.get
 simp only [vc,aW,bq,YL,YK]at g
 have sl:=λ{id} {f}=>S.sI.live.sn (id:=id) (f:=f)
 have a1:m.live.length<9223372036854775808:=by have:=S.ok.live.1;omega
 rw [aJ T.k72 rfl rfl]
 simp only [go_sem,c72,g,↓sl,a1]
end
end Go.Ev
end
section
namespace Go.Ev
section
variable {cp:RC->ah} {t:Nat->Option cP} {fuel:Nat} {H:Heap} {O:Nat->Prop}
theorem Vp (T:aA t) {s} {x} {g} {cg} (hw:H.wf) (hx:x.one=true) (gg:H.get cg = .cells (aS g)) (hn:cg<H.n):
 ∃ H',(∀ (d) (k),aj (aN cp t fuel (d+1)) (.func 414 [.ptr cg 0]) [.agg (bJ s x)] H k=k (.bool (decide (s.g=g))) H')/\af H H':=by
 obtain ⟨G1,hG1,f1,p1,n1⟩:=Heap.aO hw (.cells (bJ s x))
 have g1:=(f1.same _ hn).trans gg
 have jx:=λ{id} {k}=>aI hx (id:=id) (k:=k)
 refine ⟨G1,λd k=>?_,f1⟩
 obtain ⟨⟨s1,s2⟩,im,hd⟩:=s
 obtain ⟨g1',g2'⟩:=g
 simp only [bJ,aS]at hG1 p1 g1
 rw [ax T.aeu rfl rfl]
 simp only [YL,YK]
 by_cases h1:s1=g1'
 .by_cases h2:s2=g2'
  .subst h1
   subst h2
   simp only [go_sem,U3,bJ,↓jx,hw,hG1,p1,g1,bh,bZ,du,decide_true]
  .subst h1
   have hne:¬ ((s1,s2):Gd)=(s1,g2'):=λh=>h2 (congrArg YN3 h)
   simp only [go_sem,U3,bJ,↓jx,hw,hG1,p1,g1,bh,bZ,h2,hne,decide_false]
 .have hne:¬ ((s1,s2):Gd)=(g1',g2'):=λh=>h1 (congrArg YF1 h)
  simp only [go_sem,U3,bJ,↓jx,hw,hG1,p1,g1,bh,bZ,h1,hne,decide_false]
def rv (ss:List Sn) (g:Gd):Option Nat:=ss.findIdx? λs=>decide (s.g=g)
theorem JY (T:aA t) {vs:V} {ss:List Sn} {g:Gd} {cg:Nat} (hw:H.wf) (hS:fV H O vs ss) (hn:ss.length<1000) (gg:H.get cg = .cells (aS g)) (hcn:cg<H.n) (hfu:1000<fuel):
 ∃ H',(∀ (d:Nat) (k:K),aj (aN cp t fuel (d+2)) (.func 412 []) [vs,.func 414 [.ptr cg 0]] H k=k (.int 3 ((rv ss g).getD 18446744073709551615)) H')/\af H H':=by
 have nl:nn ss.length:=by unfold nn;omega
 have sn:=λ{id} {f:Nat->R}=>(let ⟨_,h,_⟩:=hS;h.sn:bG id vs (λ_ _ len _ _=>f len) (f 0)=f ss.length)
 have a0:ss.length<9223372036854775808:=by omega
 have run:=nw (c:=wQ) (fuel:=fuel) (ph:=λd=>aN cp t fuel (d+1))
  (I:=λi _ G=>af H G/\∀ (j) (s),j<i->ss[j]? = some s->s.g≠g)
  (S:=λi _ e=>ae s000 e=vs/\ae s001 e = .func 414 [.ptr cg 0]/\ae s007 e = .int 3 ss.length/\ae s010 e = .int 3 i)
  (J:=λq G=>af H G/\rv ss g=some q) (Q:=λq e=>ae s004 e = .int 3 q) (j:=λ_=>0) (λi _ G hil ⟨f,hno⟩=>by
   obtain ⟨b,o,c,z,x,rfl,hbn,-,hI,hrd⟩:=hS.open hil
   have hsi:=YA hil
   have hrd:=λ{id} {k}=>hrd (f.same _ hbn) (id:=id) (k:=k)
   have hidx:ss[i].g=g->rv ss g=some i:=λh=>by
    unfold rv
    rw [Wh]
    refine ⟨hil,decide_eq_true h,λj hj=>?_⟩
    have:=hno j ss[j] hj (YA (by omega))
    exact λh=>this (of_decide_eq_true h)
   generalize hsd:ss[i]=s at hsi hI hrd hidx
   obtain ⟨G1,z1,f1⟩:=Vp (cp:=cp) (fuel:=fuel) T f.wf hI.one ((f.same _ hcn).trans gg) (YD hcn f.n)
   have z1:∀ {d} {k:K},_=k (.bool (decide (s.g=g))) G1:=λ{d} {k}=>z1 d k
   have a1:nn i:=by unfold nn;omega
   have a2:i<9223372036854775808:=by omega
   have a3:(i+1)%18446744073709551616=i+1:=by omega
   by_cases h:s.g=g
   .refine YE ⟨i,G1,⟨f.trans f1,hidx h⟩,λd kx r e y ⟨q0,q1,q7,q10⟩ hk=>?_⟩
    simp only [decide_eq_true h]at z1
    rw [ak]
    simp only [go_sem,wQ,q0,q1,q7,q10,hil,nl,a1,a2,↓hrd,↓z1]
    refine hk _ ?_
    simp only [go_sem,↓reduceIte]
   .refine YG ⟨(),G1,⟨f.trans f1,λj s' hj hs'=>?_⟩,λd kx r e y ⟨q0,q1,q7,q10⟩ hk=>?_⟩
    .by_cases hji:j<i
     .exact hno j s' hji hs'
     .obtain rfl:j=i:=by omega
      rw [hsi]at hs'
      cases hs'
      exact h
    rw [ak]
    simp only [go_sem,wQ,q0,q1,q7,q10,hil,nl,a1,a2,a3,↓hrd,↓z1,h,decide_false]
    exact hk _ (by simp only [go_sem,q0,q1,q7,and_self])) ss.length 0 () H (by omega) ⟨af.refl hw,λj s hj=>by omega⟩
 rcases run with ⟨_,G',⟨f',hno⟩,z⟩|⟨q,G',⟨f',hq⟩,z⟩
 .have Ay:rv ss g=none:=by
   unfold rv
   rw [List.findIdx?_eq_none_iff]
   intro s hs
   obtain ⟨j,hj,rfl⟩:=List.getElem_of_mem hs
   have:=hno j _ hj (YA hj)
   simpa using this
  rw [Ay]
  refine ⟨G',λd k=>?_,f'⟩
  rw [aJ T.aaQ rfl rfl]
  simp only [go_sem,Z5,↓sn,a0]
  refine z d _ fuel _ _ (by omega) ⟨?_,?_,?_,?_⟩ λr e' ⟨q0,q1,q7,q10⟩=>?_
  .rfl
  .rfl
  .rfl
  .rfl
  have e6:¬ ss.length<ss.length:=by omega
  rw [ak]
  simp only [go_sem,wQ,q7,q10,nl,e6,Wq]
 .rw [hq]
  refine ⟨G',λd k=>?_,f'⟩
  rw [aJ T.aaQ rfl rfl]
  simp only [go_sem,Z5,↓sn,a0]
  refine z d _ fuel _ _ (by omega) ⟨?_,?_,?_,?_⟩ λe' q4=>?_
  .rfl
  .rfl
  .rfl
  .rfl
  simp only [go_sem,q4,Yl]
end
end Go.Ev
end
section
namespace Go.Ev
theorem Row.cell {H:Heap} {O:Nat->Prop} {v:V} {sz n:Nat} {row:List V} (h:Row H O v sz n row) (hn:0<n):∃ b o c s,v = .slice b o n c s/\b<H.n/\¬ O b/\∀ {G:Heap},G.get b=H.get b->∀ {j:Nat} {x:V},row[j]? = some x->∀ {id:Nat} {k:V->R},Du id (G.get b) (o+j) k=k x:=by
 obtain ⟨h1,h2,h|⟨b,o,c,z,l,g1,g2,g3,g4,g5,g6⟩⟩:=h
 .omega
 refine ⟨b,o,c,z,g1,g3,g4,λ{G} hG {j x} hx {id k}=>?_⟩
 have hlt:j<n*sz:=by rw [<- h1];exact (Yo.1 hx).1
 have hx':=hx
 rw [<- g6,Yu,if_pos hlt,Yy]at hx
 rw [hG]
 exact yA g2 hx (h2 x (YS hx'))
theorem fV.hid {H:Heap} {O:Nat->Prop} {v:V} {ss:List Sn} (h:fV H O v ss) {i:Nat} (hi:i<ss.length):∃ b o c s,v = .slice b o ss.length c s/\b<H.n/\¬ O b/\∀ {G:Heap},G.get b=H.get b->∀ {id:Nat} {k:V->R},Du id (G.get b) (o+i*4+3) k=k (.bool ss[i].hid):=by
 obtain ⟨xs,hR,hl,hx⟩:=h
 obtain ⟨x,hxi,-⟩:=hx i _ (YA hi)
 obtain ⟨b,o,c,z,g1,g2,g3,g4⟩:=hR.cell (by omega)
 refine ⟨b,o,c,z,g1,g2,g3,λ{G} hG {id k}=>?_⟩
 have e:=sA (YA hi) hxi
 have e2:(((dU ss xs).drop (i*4)).take 4)[3]? = some (.bool ss[i].hid):=by rw [e];rfl
 rw [Yu,if_pos (by omega),Yy]at e2
 rw [Qe]
 exact g4 hG e2
theorem Ci {ss} {g} {i} (h:rv ss g=some i):∃ hi:i<ss.length,ss[i].g=g:=by
 unfold rv at h
 rw [Wh]at h
 obtain ⟨h1,h2,-⟩:=h
 simp_all
def jI (m:MT) (g:Gd):Nat × Nat:=match rv m.aa g with
 | none=>(0,5)
 | some i=>if (m.aa.getD i ⟨(0,0),[],false⟩).hid=true then (0,14) else (i,0)
section
variable {cp:RC->ah} {t:Nat->Option cP} {fuel:Nat} {H:Heap}
theorem Nv (T:aA t) (hc:aY t) {dp vp a n} {g} {A} {O} {m} {vl vs vi} (S:VP H dp vp a n A O m vl vs vi) (hfu:1000<fuel):
 ∃ H',(∀ (d) (k),aj (aN cp t fuel (d+4)) (.func 324 []) [.ptr vp 0,.agg (aS g)] H k=k (.cH [.int 3 (jI m g).1,.int 3 (jI m g).2]) H')/\Step H (bQ O vp) H' (bQ O vp)/\VP H' dp vp a n A O m vl vs vi:=by
 have hn0:=S.ok.num
 obtain ⟨G0,hG0,f0,p0,n0⟩:=Heap.aO S.fC.wf (.cells (aS g))
 have S0:=S.fresh f0
 obtain ⟨G1,z1,s1,D1,n1,g1,k1⟩:=IF (cp:=cp) (fuel:=fuel) T hc S0.fC S0.get S0.vn S0.vo
 rw [S.off]at z1 g1
 have z1:=λ{d} {k}=>z1 d k
 have S1:VP G1 dp vp a n A O m vl vs vi:=⟨D1,S.off,S.can,S.lo,S.hi,g1,by rw [n1];exact S0.vn,S.vo,S0.sI.cG s1,S.ok⟩
 have hne:H.n≠vp:=by have:=S.vn;omega
 have p1:=(k1 _ hne).trans p0
 have s01:=f0.step.trans s1
 have w0:=S.fC.wf
 have g1':=g1
 simp only [vc,aW,bq,YL,YK]at g1'
 obtain ⟨G2,z2,f2⟩:=JY (cp:=cp) T D1.wf S1.sI.aa hn0 p1 (by omega) hfu
 have z2:=λ{d} {k}=>z2 (d+1) k
 have S2:=S1.fresh f2
 have g2':=S2.get
 simp only [vc,aW,bq,YL,YK]at g2'
 simp only [aS]at hG0
 refine ⟨G2,λd k=>?_,s01.trans f2.step,S2⟩
 have a3:nn 0:=by unfold nn;omega
 unfold jI
 rcases hi:rv m.aa g with _|i
 .rw [hi]at z2
  simp only [Wq]at z2
  have a4:dA (.lt 9223372036854775808 18446744073709551616) 18446744073709551615 0=true:=by decide
  rw [aJ T.aaN rfl rfl]
  simp only [go_sem,UW,aS,w0,hG0,↓z1,g1',↓z2,a4,YT,or_self]
 .rw [hi]at z2
  simp only [Yl]at z2
  obtain ⟨hlt,-⟩:=Ci hi
  obtain ⟨b,o,c,z,rfl,hbn,-,hrd⟩:=S1.sI.aa.hid hlt
  have hrd:=λ{id} {k}=>hrd (f2.same _ hbn) (id:=id) (k:=k)
  have a1:nn i:=by unfold nn;omega
  have a2:i<9223372036854775808:=by omega
  simp only [YF,YA hlt,Yl]
  have a4:¬ i<0:=by omega
  rw [aJ T.aaN rfl rfl]
  rcases hh:m.aa[i].hid with _|_
  .rw [hh]at hrd
   simp only [go_sem,UW,aS,w0,hG0,↓z1,g1',↓z2,a1,a2,a3,a4,hlt,g2',↓hrd,YT,or_self]
  .rw [hh]at hrd
   simp only [go_sem,UW,aS,w0,hG0,↓z1,g1',↓z2,a1,a2,a3,a4,hlt,g2',↓hrd,YT,or_self]
end
end Go.Ev
end
section
namespace Go.Ev
theorem RL {m} {g} (h:(jI m g).2=0):∃ i,∃ hi:i<m.aa.length,jI m g=(i,0)/\m.aa[i].g=g/\m.aa[i].hid=false/\rv m.aa g=some i:=by
 unfold jI at h ⊢
 rcases hx:rv m.aa g with _|i
 .simp_all
 .obtain ⟨hi,hg⟩:=Ci hx
  rcases hh:m.aa[i].hid with _|_
  .simp_all
  simp_all
theorem RK {m} {g} (h:m.aa.length<1000):(jI m g).1<1000/\(jI m g).2<1000:=by
 unfold jI
 rcases hx:rv m.aa g with _|i
 .simp
 .obtain ⟨hi,-⟩:=Ci hx
  simp only
  split
  .simp
  omega
section
variable {cp:RC->ah} {t:Nat->Option cP} {fuel:Nat} {H:Heap} {pk:List UInt8->List (List UInt8)} {unpk:List (List UInt8)->Option (List UInt8)}
end
end Go.Ev
end
section
namespace Go.Ev
structure qC (cs:List Wr) (b:Nat):Prop where
 lt:∀ c ∈ cs,c.1<b/\c.2.1=32/\vk c.2
 up:∀ i,i+1<cs.length->(cs.getD i (0,(0,0))).1<(cs.getD (i+1) (0,(0,0))).1
structure MM (m:MT) (tk:Tk) (cs:List Wr):Prop where
 b:tk.b=(cR m).g
 t:ef tk.t (cR m).g=true
 gt:ld tk.t
 all:tk.all<=m.live.length
 next:tk.next<=tk.all
 z:(tk.next=0)=(tk.all=0)
 ch:qC cs m.live.length
def mJ (cs:List Wr):Nat->Nat
 | 0=>18446744073709551615
 | i+1=>(cs.getD i (0,(0,0))).1
section
variable {cp:RC->ah} {t:Nat->Option cP} {fuel:Nat} {H:Heap} {O:Nat->Prop}
theorem abC (T:aA t) {m} {vl vs vi} {vp dp block x} {lost} (hV:H.get vp = .cells (vc m vl vs vi dp lost)) (M:ku H O m vl vs vi) (hl:m.live.length<1000000) (hb:block<m.live.length) (d) (k):
 aj (aN cp t fuel (d+1)) (.func 108 []) [.ptr vp 0,.int 3 block,.str 32 x] H k=k (.bool true) H:=by
 simp only [vc,aW,bq,YL,YK]at hV
 have sn:=λ{id} {f}=>M.live.sn (id:=id) (f:=f)
 have e1:m.live.length<9223372036854775808:=by omega
 have e2:nn m.live.length:=by unfold nn;omega
 have e4:nn block:=by unfold nn;omega
 rw [aJ T.k54 rfl rfl]
 simp only [go_sem,ZE,c54,hV,↓sn,e1,e2,e4,hb,Yf]
theorem Ip (T:aA t) {m:MT} {vl vs vi vx:V} {vp dp B:Nat} {lost:Bool} {Q:Nat->Prop} {cs:List Wr} {G0:Heap} (hV:H.get vp = .cells (vc m vl vs vi dp lost)) (hVn:vp<H.n) (M:ku H O m vl vs vi) (hl:m.live.length<1000000) (hX:Row H Q vx 2 cs.length (bC cs)) (hn:cs.length<1000) (hch:qC cs m.live.length) (f0:af H G0) (hfu:1000<fuel):
 ∃ G',af H G'/\af G0 G'/\∀ (d:Nat) (kx:Nat->KE) (e:Env) (x:R),ae s000 e = .ptr vp 0->ae s004 e = .ptr B 0->ae s010 e = .int 3 18446744073709551615->ae s072 e=vx->ae s073 e = .int 3 cs.length->ae s074 e = .int 3 0->
  (∀ e',ae s000 e' = .ptr vp 0->ae s004 e' = .ptr B 0->kx 1 e' G'=x)->jQ wN fuel (aN cp t fuel (d+1)) kx fuel e G0=x:=by
 have nl:nn cs.length:=by unfold nn;omega
 obtain ⟨_,G',⟨f',g'⟩,z⟩:=bA (c:=wN) (ph:=λd=>aN cp t fuel (d+1))
  (I:=λi _ G=>af H G/\af G0 G)
  (S:=λi _ e=>ae s000 e = .ptr vp 0/\ae s004 e = .ptr B 0/\ae s010 e = .int 3 (mJ cs i)/\ae s072 e=vx/\ae s073 e = .int 3 cs.length/\ae s074 e = .int 3 i) (λi _ G hil ⟨f,g⟩=>by
   have hsi:cs[i]? = some cs[i]:=YA hil
   obtain ⟨c1,c2,c3⟩:=hch.lt _ (YW hil)
   have hup:(dA (.le 9223372036854775808 18446744073709551616) cs[i].1 (mJ cs i)=true)=False:=by
    rw [ED]
    cases i with
    | zero=>simp only [mJ,eq_iff_iff,iff_false];omega
    | succ j=>
     have:=hch.up j hil
     simp only [YF,hsi,Yl]at this
     simp only [mJ,YF,eq_iff_iff,iff_false]
     omega
   have hpr:mJ cs (i+1)=cs[i].1:=by simp only [mJ,YF,hsi,Yl]
   obtain ⟨b,o,c,z,rfl,hbn,-,hrd⟩:=hX.open hil
   have hrd1:=λ{id} {k}=>(hrd (f.same _ hbn)).1 (id:=id) (k:=k)
   rw [nu hsi]at hrd1
   generalize hcx:cs[i]=x at c1 c2 c3 hup hpr hrd1
   obtain ⟨p,u,w⟩:=x
   subst c2
   obtain ⟨G1,hG1,f1,p1,n1⟩:=Heap.aO f.wf (.cells [.int 3 0,.str 0 0])
   have b1:G.n<G1.n:=by omega
   obtain ⟨G2,hG2,f2,p2,n2,w2,k2⟩:=Heap.aU f1 (YB _) b1 (.cells [.int 3 p,.str 32 w])
   have fx:=f.trans f2
   have hm:=λ{d} {k}=>abC (cp:=cp) (fuel:=fuel) (x:=w) T ((fx.same _ hVn).trans hV) (M.fresh fx) hl c1 d k
   have a1:nn i:=by unfold nn;omega
   have a2:i<9223372036854775808:=by omega
   have a3:(i+1)%18446744073709551616=i+1:=by omega
   have wf:=f.wf
   have w1:=f1.wf
   refine ⟨(),G2,⟨fx,g.trans f2⟩,λd kx r e y ⟨q0,q4,q10,q72,q73,q74⟩ hk=>?_⟩
   rw [ak]
   simp only [go_sem,wN,q0,q10,q72,q73,q74,hil,nl,a1,a2,a3,↓hrd1,wf,hG1,p1,w1,b1,hG2,p2,↓hm,hup]
   exact hk _ (by simp only [go_sem,q0,q4,q72,q73,hpr,and_self])) cs.length 0 () G0 (by omega) ⟨f0,af.refl f0.wf⟩
 refine ⟨G',f',g',λd kx e x q0 q4 q10 q72 q73 q74 hk=>z d kx fuel e x (by omega) ⟨q0,q4,q10,q72,q73,q74⟩ λr e' ⟨q0,q4,q10,q72,q73,q74⟩=>?_⟩
 have e6:¬ cs.length<cs.length:=by omega
 rw [ak]
 simp only [go_sem,wN,q73,q74,nl,e6]
 exact hk _ q0 q4
end
end Go.Ev
end
section
namespace Go.Ev
def Dd (m:MT) (tk:Tk):Nat:=if tk.next=tk.all/\20<=m.aa.length then 3 else 0
section
variable {cp:RC->ah} {t:Nat->Option cP} {fuel:Nat} {H:Heap}
set_option maxRecDepth 4000 in
theorem Io (T:aA t) {dp vp a n:Nat} {A:AD} {O:Nat->Prop} {m:MT} {vl vs vi vx y:V} {tk:Tk} {cs:List Wr} (S:VP H dp vp a n A O m vl vs vi) (Z:MM m tk cs) (hb:ld tk.b) (hy:y.one=true) (hX:Row H (bQ O vp) vx 2 cs.length (bC cs)) (hn:cs.length<1000) (hfu:1000<fuel):
 ∃ H',(∀ (d:Nat) (k:K),aj (aN cp t fuel (d+2)) (.func 304 []) [.ptr vp 0,.agg (bq tk y),vx] H k=k (.int 3 (Dd m tk)) H')/\af H H':=by
 have hn0:=S.ok.num
 have hl0:=S.ok.live.1
 have w0:=S.fC.wf
 have jy:=λ{id} {k}=>aI hy (id:=id) (k:=k)
 obtain ⟨G0,hG0,f0,p0,n0⟩:=Heap.aO w0 (.cells (bq tk y))
 have S0:=S.fresh f0
 have w00:=f0.wf
 obtain ⟨G1,xl,z1,f1,-⟩:=AI (cp:=cp) (fuel:=fuel) T w00 S0.get S0.vn S0.sI S.ok S0.lt
 have z1:=λ{d} {k}=>z1 d k
 have w1:=f1.wf
 have f01:=f0.trans f1
 obtain ⟨G2,hG2,f2,p2,n2⟩:=Heap.aO w1 (.cells [.int 7 0,.int 7 0])
 have b2:G1.n<G2.n:=by omega
 have w2:=f2.wf
 obtain ⟨G3,hG3,f3,p3,n3,w3,k3⟩:=Heap.aU f2 (YB _) b2 (.cells (aS (cR m).g))
 have f03:=f01.trans f3
 have m1:=f1.n
 have q3:=((f3.same _ (by omega)).trans (f1.same _ (by omega))).trans p0
 have S3:=S.fresh f03
 have hlg:=SO S.ok
 obtain ⟨G4,z4,f4⟩:=I5 (cp:=cp) (fuel:=fuel) T w3 Z.gt hlg
 have z4:=λ{d} {k}=>z4 d k
 have w4:=f4.wf
 have S4:=S3.fresh f4
 have wm4:G4.mark.wf:=by rw [Heap.dm];exact w4
 obtain ⟨G5x,G5,z5,hu5,hl5,f5⟩:=pG ⟨G4.mark,λd k=>ur (cp:=cp) (fuel:=fuel) T (S4.fresh (af.Sr w4)) d k,af.refl wm4⟩
 have z5:=λ{d} {k}=>z5 d k
 have f05:=f03.trans (f4.trans f5)
 have q4:=(f4.same _ (by have:=f3.n;omega)).trans q3
 have q5:=(f5.same _ (by have:=f3.n;have:=f4.n;omega)).trans q4
 have S5:=S.fresh f05
 obtain ⟨G6,f6,g6,z6⟩:=Ip (cp:=cp) (B:=H.n) T S5.get S5.vn S5.sI (by omega) (hX.fresh f05) hn Z.ch (af.refl f5.wf) hfu
 have hz6:=f05.trans g6
 have q6:=(g6.same _ (by have:=f5.n;have:=f4.n;have:=f3.n;omega)).trans q5
 have S6:=S.fresh hz6
 have g6':=S6.get
 simp only [vc,aW,bq,YL,YK]at g6'
 have sn:=λ{id} {f:Nat->R}=>(let ⟨_,h,_⟩:=S.sI.aa;h.sn:bG id vs (λ_ _ len _ _=>f len) (f 0)=f m.aa.length)
 have sx:=λ{id} {f}=>hX.sn (id:=id) (f:=f)
 have hb2:tk.b.1=(cR m).g.1/\tk.b.2=(cR m).g.2:=by rw [Z.b];exact ⟨rfl,rfl⟩
 obtain ⟨hb3,hb4⟩:=hb2
 have hab:=Z.t
 have z1all:=Z.all
 have z1next:=Z.next
 have hzz:=Z.z
 rw [hab]at z4
 generalize hgl:(cR m).g=gl at *
 simp only [bJ,hgl]at z1
 simp only [aS,bq,hb3,hb4]at hG0 p3 hG3 q3 z4 q4 q5 q6
 have a1:m.aa.length<9223372036854775808:=by omega
 have a2:nn m.aa.length:=by unfold nn;omega
 have a3:nn 20:=by unfold nn;omega
 have a4:nn 0:=by unfold nn;omega
 have a5:nn tk.all:=by unfold nn;omega
 have a6:nn tk.next:=by unfold nn;omega
 have a7:nn m.live.length:=by unfold nn;omega
 have a8:¬ m.live.length<tk.all:=by omega
 have a9:¬ tk.all<tk.next:=by omega
 have a10:cs.length<9223372036854775808:=by omega
 have a11:=by omega
 have a12:=by omega
 refine ⟨G6,λd k=>?_,hz6⟩
 rw [aJ T.ad2 rfl rfl]
 unfold Dd
 simp only [go_sem,acv,Pt,bq,hb3,hb4,w0,hG0,↓jy,↓z1,w1,hG2,p2,w2,b2,hG3]
 by_cases hz:tk.next=0
 .have hza:tk.all=0:=by rw [<- hzz];exact hz
  simp only [go_sem,ZE,Jf,p3,q3,↓bh,↓bZ,↓du,↓z4,q4,↓z5,hu5,hl5,q5,a4,a7,hz,hza]
  simp only [go_sem,Jg,Jh,↓sx,a10]
  refine z6 d _ _ _ ?_ ?_ ?_ ?_ ?_ ?_ λe' q0' q4'=>?_
  .rfl
  .rfl
  .rfl
  .rfl
  .rfl
  .rfl
  by_cases h20:20<=m.aa.length
  .simp only [go_sem,tp,tu,tz,q0',q4',q6,g6',↓sn,a1,a2,a3,hz,hza,h20,and_self]
  .simp only [go_sem,tp,tu,tz,q0',q4',q6,g6',↓sn,a1,a2,a3,hz,hza,h20,and_false]
 .have hza:¬ tk.all=0:=by rw [<- hzz];exact hz
  simp only [go_sem,Jf,p3,q3,↓bh,↓bZ,↓du,↓z4,q4,↓z5,hu5,hl5,q5,a4,a5,a6,a7,a8,a9,hz,hza]
  simp only [go_sem,Jg,Jh,↓sx,a10]
  refine z6 d _ _ _ ?_ ?_ ?_ ?_ ?_ ?_ λe' q0' q4'=>?_
  .rfl
  .rfl
  .rfl
  .rfl
  .rfl
  .rfl
  by_cases hna:tk.next=tk.all
  .by_cases h20:20<=m.aa.length
   .simp only [go_sem,tp,tu,tz,q0',q4',q6,g6',↓sn,a1,a2,a3,hna,h20,and_self]
   .simp only [go_sem,tp,tu,tz,q0',q4',q6,g6',↓sn,a1,a2,a3,hna,h20,and_false]
  .simp only [go_sem,tp,tu,tz,q4',q6,hna,false_and]
end
end Go.Ev
end
section
namespace Go.Ev
theorem eqG {id} {g h:Gd} {f}:jj id [1,1] [.int 7 g.1,.int 7 g.2] [.int 7 h.1,.int 7 h.2] f=f (decide (g=h)):=by
 obtain ⟨g1,g2⟩:=g
 obtain ⟨h1,h2⟩:=h
 by_cases e1:g1=h1
 .by_cases e2:g2=h2
  .subst e1 e2
   simp only [bZ,du,if_true,decide_true]
  .have hne:¬ ((g1,g2):Gd)=(h1,h2):=λh=>e2 (congrArg YN3 h)
   simp only [bZ,du,e1,e2,if_true,if_false]
   simp_all
 .have hne:¬ ((g1,g2):Gd)=(h1,h2):=λh=>e1 (congrArg YF1 h)
  simp only [bZ,du,e1,if_false,hne,decide_false]
theorem xD {g h:Gd} (e:g=h) {id} {f}:jj id [1,1] [.int 7 g.1,.int 7 g.2] [.int 7 h.1,.int 7 h.2] f=f true:=by rw [eqG,decide_eq_true e]
theorem JG {g h:Gd} (e:¬ g=h) {id} {f}:jj id [1,1] [.int 7 g.1,.int 7 g.2] [.int 7 h.1,.int 7 h.2] f=f false:=by rw [eqG,decide_eq_false e]
def stC (m:MT) (tk:Tk):Prop:=m.tok.b=tk.b/\m.tok.t=tk.t/\m.tok.all=tk.all
instance afo (m:MT) (tk:Tk):Decidable (stC m tk):=inferInstanceAs (Decidable (_/\_/\_))
def nO (m:MT) (tk:Tk):List Nat:=if stC m tk then m.tok.cF else (cR m).cF
def eU (l:List Nat) (cs:List Wr) (at_:List Nat):Nat->List Nat
 | 0=>l
 | i+1=>(eU l cs at_ i).set (cs.getD i (0,(0,0))).1 (at_.getD i 0)
theorem mQ {l} {cs} {at_}:∀ i,(eU l cs at_ i).length=l.length
 | 0=>rfl
 | i+1=>by simp only [eU,YA0,mQ i]
section
variable {cp:RC->ah} {t:Nat->Option cP} {fuel:Nat} {H:Heap}
set_option maxRecDepth 4000 in
theorem Ox (T:aA t) {H0:Heap} {vp dp B L:Nat} {m:MT} {vl vs vi w y:V} {lost:Bool} {tk:Tk} (f0:af H0 H) (hV:H.get vp = .cells (vc m vl vs vi dp lost)) (hi:vi.one=true) (gB:H.get B = .cells (bq tk y)) (gL:H.get L = .cells [w]) (h0L:H0.n<=L) (hL:L<H.n) (hBn:B<H.n) (hVn:vp<H.n) (hLB:L≠B) (hLv:L≠vp) (hw1:w.one=true) (hy:y.one=true):
 ∃ H',af H0 H'/\H.n<=H'.n/\H'.get L = .cells [if stC m tk then vi else w]/\(∀ j,j<H.n->j≠L->H'.get j=H.get j)/\∀ (d:Nat) (kn:KE) (kx:Nat->KE) (e:Env) (x:R) (v0 v2 va vw:V),ae s000 e = .ptr vp 0->ae s002 e=v2->ae s004 e = .ptr B 0->ae s011 e=va->ae s012 e=vw->ae s014 e = .ptr L 0->
  (∀ e',ae s000 e' = .ptr vp 0->ae s002 e'=v2->ae s004 e' = .ptr B 0->ae s011 e'=va->ae s012 e'=vw->ae s014 e' = .ptr L 0->eR P7 fuel (aN cp t fuel d) e' H' kn kx=x)->eR Ac fuel (aN cp t fuel d) e H kn kx=x:=by
 have w0:=f0.wf
 obtain ⟨G1,hG1,f1,p1,n1⟩:=Heap.aO w0 (.cells [.int 7 0,.int 7 0,.int 7 0,.int 7 0,.int 3 0,.int 3 0,.az])
 have w1:=f1.wf
 have b1:H.n<G1.n:=by omega
 obtain ⟨G2,hG2,f2,p2,n2,w2,k2⟩:=Heap.aU f1 (YB _) b1 (.cells (bq m.tok vi))
 have gB2:=(f2.same _ hBn).trans gB
 have gL2:=(f2.same _ hL).trans gL
 have bL:L<G2.n:=by omega
 have ji:=λ{id} {k}=>aI hi (id:=id) (k:=k)
 have hV':=hV
 simp only [vc,aW,bq,YL,YK]at hV'
 have f02:=f0.trans f2
 obtain ⟨G3,hG3,f3,p3,n3,w3,k3⟩:=Heap.aU f02 h0L bL (.cells [vi])
 simp only [bq]at hG2 p2 gB2
 by_cases hc:stC m tk
 .simp only [if_pos hc]
  refine ⟨G3,f3,by omega,p3,λj hj hne=>(k3 j hne).trans (f2.same _ hj),λd kn kx e x v0 v2 va vw q0 q2 q4 q11 q12 q14 hk=>?_⟩
  obtain ⟨c1,c2,c3⟩:=hc
  have e1:=λ{id} {f}=>xD c1 (id:=id) (f:=f)
  have e2:=λ{id} {f}=>xD c2 (id:=id) (f:=f)
  have e3:=eq_true c3
  simp only [go_sem,Ac,q0,q4,q14,hV',w0,hG1,p1,w1,b1,↓ji,hG2,p2,gB2,↓bh,↓e1,↓e2,e3,gL2,w2,bL,hG3]
  exact hk _ q0 q2 q4 q11 q12 q14
 .simp only [if_neg hc]
  refine ⟨G2,f02,by omega,gL2,λj hj hne=>f2.same _ hj,λd kn kx e x v0 v2 va vw q0 q2 q4 q11 q12 q14 hk=>?_⟩
  by_cases c1:m.tok.b=tk.b
  .have e1:=λ{id} {f}=>xD c1 (id:=id) (f:=f)
   by_cases c2:m.tok.t=tk.t
   .have e2:=λ{id} {f}=>xD c2 (id:=id) (f:=f)
    have c3:¬ m.tok.all=tk.all:=λh=>hc ⟨c1,c2,h⟩
    simp only [go_sem,Ac,q0,q4,hV',w0,hG1,p1,w1,b1,↓ji,hG2,p2,gB2,↓bh,↓e1,↓e2,c3]
    exact hk _ q0 q2 q4 q11 q12 q14
   .have e2:=λ{id} {f}=>JG c2 (id:=id) (f:=f)
    simp only [go_sem,Ac,q0,q4,hV',w0,hG1,p1,w1,b1,↓ji,hG2,p2,gB2,↓bh,↓e1,↓e2]
    exact hk _ q0 q2 q4 q11 q12 q14
  .have e1:=λ{id} {f}=>JG c1 (id:=id) (f:=f)
   simp only [go_sem,Ac,q0,q4,hV',w0,hG1,p1,w1,b1,↓ji,hG2,p2,gB2,↓bh,↓e1]
   exact hk _ q0 q2 q4 q11 q12 q14
theorem K4 (T:aA t) {O:Nat->Prop} {H0 H1 G0:Heap} {vx va vL v0 v4 vw:V} {cs:List Wr} {at_ l:List Nat} {L:Nat} (f0:af H0 G0) (hX:Row H0 O vx 2 cs.length (bC cs)) (hA:ee H0 O va at_) (hal:at_.length=cs.length) (hn:cs.length<1000) (hcs:∀ c ∈ cs,c.1<l.length) (hat:∀ p ∈ at_,nn p) (hl:l.length<1000)
 (o0:Own H1 G0 vL 1 l.length (l.map (V.int 3))) (h01:H0.n<=H1.n) (hL1:L<H1.n) (gL:G0.get L = .cells [vL]) (hfu:1000<fuel) (h10:H1.n<=G0.n):
 ∃ G',af H0 G'/\Own H1 G' vL 1 l.length ((eU l cs at_ cs.length).map (V.int 3))/\G'.get L = .cells [vL]/\G0.n<=G'.n/\(∀ j,j<H1.n->G'.get j=G0.get j)/\∀ (d:Nat) (kx:Nat->KE) (e:Env) (x:R),ae s000 e=v0->ae s004 e=v4->ae s011 e=va->ae s012 e=vw->ae s014 e = .ptr L 0->ae s105 e=vx->ae s106 e = .int 3 cs.length->ae s107 e = .int 3 0->
  (∀ e',ae s000 e'=v0->ae s004 e'=v4->ae s012 e'=vw->ae s014 e' = .ptr L 0->kx 1 e' G'=x)->jQ Eu fuel (aN cp t fuel d) kx fuel e G0=x:=by
 have nl:nn cs.length:=by unfold nn;omega
 have m0:=f0.n
 obtain ⟨_,G',⟨f',o',g',n',k'⟩,z⟩:=bA (c:=Eu)
  (I:=λi _ G=>af H0 G/\Own H1 G vL 1 l.length ((eU l cs at_ i).map (V.int 3))/\G.get L = .cells [vL]/\G0.n<=G.n/\∀ j,j<H1.n->G.get j=G0.get j)
  (S:=λi _ e=>ae s000 e=v0/\ae s004 e=v4/\ae s012 e=vw/\ae s011 e=va/\ae s014 e = .ptr L 0/\ae s105 e=vx/\ae s106 e = .int 3 cs.length/\ae s107 e = .int 3 i) (λi _ G hil ⟨f,o,g,n,k⟩=>by
   have hsi:cs[i]? = some cs[i]:=YA hil
   have c1:=hcs _ (YW hil)
   have hia:i<at_.length:=by omega
   have hat1:=hat _ (YW hia)
   obtain ⟨bx,ox,cx,zx,rfl,hbx,-,hrd⟩:=hX.open hil
   have hrd1:=λ{id} {k}=>(hrd (f.same _ hbx)).1 (id:=id) (k:=k)
   rw [nu hsi]at hrd1
   obtain ⟨ba,oa,ca,za,rfl,hba,-,hra⟩:=hA.open hia
   have hg1:(cs.getD i (0,(0,0)))=cs[i]:=by rw [YF,hsi,Yl]
   have hg2:at_.getD i 0=at_[i]:=by rw [YF,YA hia,Yl]
   generalize cs[i]=x at hsi c1 hrd1 hg1
   generalize at_[i]=p at hat1 hra hg2
   obtain ⟨q,u,wx⟩:=x
   simp only at c1 hrd1 hg1
   have hsl:(eU l cs at_ i).length=l.length:=mQ i
   have hlen:((eU l cs at_ i).map (V.int 3)).length=l.length:=by rw [Ys,hsl]
   obtain ⟨G1,hG1,f1,p1,n1⟩:=Heap.aO f.wf (.cells [.int 3 0,.str 0 0])
   have b1:G.n<G1.n:=by omega
   obtain ⟨G2,hG2,f2,p2,n2,w2,k2⟩:=Heap.aU f1 (YB _) b1 (.cells [.int 3 q,.str u wx])
   have fx:=f.trans f2
   have o2:=o.fresh f2
   have hne:((eU l cs at_ i).map (V.int 3))≠[]:=by intro e;rw [e]at hlen;simp at hlen;omega
   obtain ⟨bs,c,z,row,rfl,gbs,hbs,hbn,hll,hput⟩:=o2.put w2 hne
   obtain ⟨n4,o4,k4⟩:=hput q (.int 3 p) (by omega) rfl
   have hLG:L<G.n:=by omega
   have gL2:=(f2.same _ hLG).trans g
   have f4:=fx.put (x:=.cells (row.set q (.int 3 p))) (Yr h01 hbs) hbn
   generalize hG4:G2.put bs (.cells (row.set q (.int 3 p)))=G4 at f4 n4 o4 k4
   have hra1:=λ{id} {k}=>hra ((fx.same _ hba)) (id:=id) (k:=k)
   have a1:nn i:=by unfold nn;omega
   have a2:i<9223372036854775808:=by omega
   have a3:(i+1)%18446744073709551616=i+1:=by omega
   have a4:nn q:=by unfold nn;omega
   have a5:q<9223372036854775808:=by omega
   have a6:q<row.length:=by omega
   have wf:=f.wf
   have w1:=f1.wf
   refine ⟨(),G4,⟨f4,?_,?_,by omega,λj hj=>?_⟩,λd kx r e y ⟨q0,q4,q12,q11,q14,q25,q26,q27⟩ hk=>?_⟩
   .rw [<- List.map_set]at o4
    simp only [eU,hg1,hg2]
    exact o4
   .rw [k4 _ (by omega)];exact gL2
   .rw [k4 _ (by omega),f2.same _ (by omega)];exact k j hj
   rw [ak]
   simp only [go_sem,Eu,q11,q14,q25,q26,q27,hil,hal,nl,a1,a2,a3,a5,a6,c1,↓hrd1,wf,hG1,p1,w1,b1,hG2,p2,gL2,↓hra1,gbs,w2,hbn,hG4]
   exact hk _ (by simp only [go_sem,q0,q4,q12,q11,q14,q25,q26,hal,and_self])) cs.length 0 () G0 (by omega) ⟨f0,o0,gL,YB _,λ_ _=>rfl⟩
 refine ⟨G',f',o',g',n',k',λd kx e x q0 q4 q11 q12 q14 q25 q26 q27 hk=>z d kx fuel e x (by omega) ⟨q0,q4,q12,q11,q14,q25,q26,q27⟩ λr e' ⟨q0,q4,q12,q11,q14,q25,q26,q27⟩=>?_⟩
 have e6:¬ cs.length<cs.length:=by omega
 rw [ak]
 simp only [go_sem,Eu,q26,q27,nl,e6]
 exact hk _ q0 q4 q12 q14
end
end Go.Ev
end
section
namespace Go.Ev
open Go.Proofs
def Dv (m:MT) (n:Nat) (tk:Tk) (cs:List Wr):MT:=stM {m with tok:=Bf } tk (eU (nO m tk) cs (Hl cs (jD m n cs) cs.length) cs.length)
def Ow (m:MT) (n:Nat) (cs:List Wr):List Wr:=Hm cs (jD m n cs) cs.length
def nN (m:MT) (n:Nat) (cs:List Wr):Prop:=(cZ (fW m n)).length<fT cs cs.length
instance abn (m:MT) (n:Nat) (cs:List Wr):Decidable (nN m n cs):=inferInstanceAs (Decidable (_<_))
def sgE (pk:List UInt8->List (List UInt8)) (A:AD) (a:Nat) (m:MT) (tk:Tk) (cs:List Wr):Nat:=if Dd m tk≠0 then Dd m tk else if nN m A.len cs then 7 else (sh pk A a (Dv m A.len tk cs) (Ow m A.len cs)).2
def Ik (m:MT) (n:Nat) (tk:Tk) (cs:List Wr):Prop:=Dd m tk≠0\/nN m n cs
instance aeS (m:MT) (n:Nat) (tk:Tk) (cs:List Wr):Decidable (Ik m n tk cs):=inferInstanceAs (Decidable (_\/_))
theorem FV {m} {n} {cs} (hn:n<=1024):∀ p ∈ jD m n cs,p<1024:=λp hp=>by
 have h:=FX (Wc hp)
 unfold fW at h
 rw [dF]at h
 omega
theorem KA {cs} {fr} (h:∀ p ∈ fr,p<1024):∀ i,∀ p ∈ Hl cs fr i,p<1024
 | 0,p,hp=>by cases hp
 | i+1,p,hp=>by
  rcases Yn.1 hp with hp|hp
  .exact KA h i p hp
  .rw [YU.1 hp]
   split
   .omega
   .rw [YF]
    rcases hx:fr[fT cs i]? with _|x
    .simp
    .exact h x (YS hx)
section
variable {cp:RC->ah} {t:Nat->Option cP} {fuel:Nat} {H:Heap}
theorem yW (T:aA t) (hc:aY t) {dp vp a n} {A} {O} {m} {vl vs vi} (S:VP H dp vp a n A O m vl vs vi):
 (∀ (d) (k),aj (aN cp t fuel (d+3)) (.func 106 []) [.ptr vp 0] H k=k (.int 3 0) (H.put vp (.cells (vc m vl vs vi dp false))))/\VP (H.put vp (.cells (vc m vl vs vi dp false))) dp vp a n A O m vl vs vi/\Step H (bQ O vp) (H.put vp (.cells (vc m vl vs vi dp false))) (bQ O vp):=by
 have hw:=S.fC.wf
 have hVn:=S.vn
 have hV:=S.get
 have s1:Step H (bQ O vp) (H.put vp (.cells (vc m vl vs vi dp false))) (bQ O vp):=Step.jV hw hVn (YE rfl)
 have D1:=(S.fC.cG (Q:=λb=>b=vp) (Step.jV (x:=.cells (vc m vl vs vi dp false)) hw hVn rfl) λb hb e=>S.vo (by simp_all)).1
 have hon:=λ{d} {k}=>Km (cp:=cp) (fuel:=fuel) (T.jh hc) (d:=d) (k:=k) S.fC
 rw [S.off]at hon
 have g1:(H.put vp (.cells (vc m vl vs vi dp false))).get vp = .cells (vc m vl vs vi dp false):=by rw [Heap.aE hw hVn,if_pos rfl]
 refine ⟨λd k=>?_,⟨D1,S.off,S.can,S.lo,S.hi,g1,by rw [Heap.aR];omega,S.vo,S.sI.cG s1,S.ok⟩,s1⟩
 generalize hG:H.put vp (.cells (vc m vl vs vi dp false))=G at g1
 simp only [vc,aW,bq,YL,YK]at hV hG g1
 rw [aJ T.k53 rfl rfl]
 simp only [go_sem,c53,hV,hw,hVn,↓hon,hG,g1]
theorem af.qw {x y:eK} {p:Nat} (hw:H.wf) (hp:p<H.n):af (H.put p x) ((H.new y).put p x):=by
 have hw1:(H.new y).wf:=by rw [Heap.aX];exact hw
 have hp1:p<(H.new y).n:=by rw [Heap.aM];omega
 refine ⟨by rw [Heap.bF];exact hw1,by rw [Heap.aR,Heap.aR,Heap.aM];omega,λb hb=>?_,λlo h1 h2=>?_⟩
 .rw [Heap.aR]at hb
  rw [Heap.aE hw hp,Heap.aE hw1 hp1,Heap.aD hw,if_neg (show ¬ b=H.n by omega)]
 .rw [Heap.Dr hw hp]at h1
  rw [Heap.Dr hw1 hp1,Heap.nQ]
  exact h1
end
section
variable {t:Nat->Option cP} {fuel:Nat} {H:Heap} {pk:List UInt8->List (List UInt8)} {unpk:List (List UInt8)->Option (List UInt8)}
set_option maxRecDepth 4000 in
theorem K2 (T:aA t) (hc:aY t) (F:cD pk unpk) (hp:t 102=some (.nat (gI pk))) {dp vp a n:Nat} {A:AD} {O:Nat->Prop} {m:MT} {vl vs vi vx y:V} {tk:Tk} {cs:List Wr} (S:VP H dp vp a n A O m vl vs vi) (Z:MM m tk cs) (hb:ld tk.b) (hy:y.one=true) (hX:Row H (bQ O vp) vx 2 cs.length (bC cs)) (hn:cs.length<1000)
 (hok:∀ l ∈ c8 m,∀ a ∈ l,a≠0->193<=a/\a<A.len) (hfl:(c8 m).flatten.length<1000000) (hsl:(nO m tk).length=m.live.length) (Y':rP (Dv m A.len tk cs)) (hfu:1000000<fuel):
 ∃ H' O',(∀ (d:Nat) (k:K),aj (aN (aP Tryz.prog) t fuel (d+9)) (.func 164 []) [.ptr vp 0,.agg (bq tk y),vx] H k=k (.int 3 (sgE pk A a m tk cs)) H')/\
  um H H' dp vp O O' m vl vs vi (if Ik m A.len tk cs then A else (sh pk A a (Dv m A.len tk cs) (Ow m A.len cs)).1) (if Ik m A.len tk cs then m else Ur pk A a m (Dv m A.len tk cs) (Ow m A.len cs)) (if Ik m A.len tk cs then false else chL pk A a (Dv m A.len tk cs) (Ow m A.len cs)):=by
 have hn0:=S.ok.num
 have hl0:=S.ok.live.1
 have w0:=S.fC.wf
 have jy:=λ{id:Nat} {k:R}=>aI hy (id:=id) (k:=k)
 obtain ⟨G0,hG0,f0,p0,n0⟩:=Heap.aO w0 (.cells (bq tk y))
 have S0:=S.fresh f0
 obtain ⟨z1,S1,s1⟩:=yW (cp:=aP Tryz.prog) (fuel:=fuel) T hc S0
 obtain ⟨-,Sb,sb⟩:=yW (cp:=aP Tryz.prog) (fuel:=fuel) T hc S
 have z1:=λ{d:Nat} {k:K}=>z1 (d+5) k
 have hne:H.n≠vp:=by have:=S.vn;omega
 have fb1:af (H.put vp (.cells (vc m vl vs vi dp false))) (G0.put vp (.cells (vc m vl vs vi dp false))):=by rw [<- hG0];exact af.qw w0 S.vn
 have n1:(G0.put vp (.cells (vc m vl vs vi dp false))).n=G0.n:=Heap.aR
 have nb1:(H.put vp (.cells (vc m vl vs vi dp false))).n=H.n:=Heap.aR
 have p1:(G0.put vp (.cells (vc m vl vs vi dp false))).get H.n = .cells (bq tk y):=by rw [Heap.aE f0.wf S0.vn,if_neg hne];exact p0
 generalize (H.put vp (.cells (vc m vl vs vi dp false)))=Hb at Sb sb fb1 nb1
 generalize hG1:(G0.put vp (.cells (vc m vl vs vi dp false)))=G1 at z1 S1 s1 fb1 n1 p1
 have s01:Step H (bQ O vp) G1 (bQ O vp):=f0.step.trans s1
 have hX1:Row G1 (bQ O vp) vx 2 cs.length (bC cs):=hX.cG s01
 obtain ⟨G2,z2,f2⟩:=Io (cp:=aP Tryz.prog) (fuel:=fuel) T S1 Z hb hy hX1 hn (by omega)
 have z2:=λ{d:Nat} {k:K}=>z2 (d+6) k
 have S2:=S1.fresh f2
 have s02:Step H (bQ O vp) G2 (bQ O vp):=s01.trans f2.step
 have p2:G2.get H.n = .cells (bq tk y):=(f2.same _ (by omega)).trans p1
 have hX2:=hX1.fresh f2
 have hrl:Dd m tk=0\/Dd m tk=3:=by unfold Dd;split;exact YE rfl;exact YG rfl
 simp only [bq]at hG0 z2
 have p1':=p1
 simp only [bq]at p1'
 unfold sgE
 by_cases hr:¬ Dd m tk=0
 .simp only [if_pos (show Dd m tk≠0 from hr),if_pos (show Ik m A.len tk cs from YG hr)]
  refine ⟨G2,O,λd k=>?_,S2.done.before s02⟩
  rw [aJ T.k82 rfl rfl]
  rcases hrl with h|h
  .exact absurd h hr
  rw [h]at z2 ⊢
  simp only [go_sem,c82,LQ,LR,bq,w0,hG0,↓jy,↓z1,p1',↓z2,YT]
 have hr':¬ Dd m tk≠0:=hr
 have hr:=Classical.not_not.1 hr
 rw [hr]at z2
 simp only [if_neg hr']
 have hlt:=S2.lt
 obtain ⟨G3,va,vw,z3,f3,j1,j2,o3⟩:=KC T hc S2.fC S2.get S2.vn S2.sI S.ok hX2 hn S.hi hok hlt hfl hfu
 have z3:=λ{d:Nat} {k:K}=>z3 (d+3) k
 have S3:=S2.fresh f3
 have s03:Step H (bQ O vp) G3 (bQ O vp):=s02.trans f3.step
 have p3:G3.get H.n = .cells (bq tk y):=(f3.same _ (by have:=f2.n;omega)).trans p2
 have i1:=λ{id:Nat} {k:R}=>aI j1 (id:=id) (k:=k)
 have i2:=λ{id:Nat} {k:R}=>aI j2 (id:=id) (k:=k)
 by_cases hfull:nN m A.len cs
 .simp only [if_pos hfull,if_pos (show Ik m A.len tk cs from YE hfull)]
  rw [if_pos (show (cZ (fW m A.len)).length<fT cs cs.length from hfull)]at z3
  refine ⟨G3,O,λd k=>?_,S3.done.before s03⟩
  rw [aJ T.k82 rfl rfl]
  simp only [go_sem,c82,LQ,LR,bq,w0,hG0,↓jy,↓z1,p1',↓z2,YT]
  simp only [go_sem,P5,P6,↓z3]
 have hno:¬ Ik m A.len tk cs:=λh=>h.elim hr' hfull
 have hnf:¬ (cZ (fW m A.len)).length<fT cs cs.length:=hfull
 simp only [if_neg hfull,if_neg hno]
 rw [if_neg hnf]at z3
 obtain ⟨oA,oW⟩:=o3 hnf
 obtain ⟨G4,vL0,z4,f4,hI4⟩:=AI (cp:=aP Tryz.prog) (fuel:=fuel) T f3.wf S3.get S3.vn S3.sI S.ok S3.lt
 have z4:=λ{d:Nat} {k:K}=>z4 (d+7) k
 have S4:=S3.fresh f4
 obtain ⟨G5,hG5,f5,p5,n5⟩:=Heap.aO f4.wf (.cells [.az])
 have w4:=f4.wf
 have w5:=f5.wf
 have b5:G4.n<G5.n:=by omega
 obtain ⟨G6,hG6,f6,p6,n6,w6,k6⟩:=Heap.aU f5 (YB _) b5 (.cells [vL0])
 have jL0:=λ{id:Nat} {k:R}=>aI hI4.one (id:=id) (k:=k)
 have m2:=f2.n
 have m3:=f3.n
 have m4:=f4.n
 have m6:=f6.n
 have f36:=f4.trans f6
 have S6:=S3.fresh f36
 have p36:G6.get H.n = .cells (bq tk y):=(f36.same _ (by omega)).trans p3
 have hv3:=S3.vn
 obtain ⟨G7,f7,n7,p7,k7,z7⟩:=Ox T f6 S6.get S.sI.cF.one p36 p6 (YB _) (by omega) (by omega) (by omega) (by omega) (by have:=S3.vn;omega) hI4.one hy
 have f37:=f4.trans f7
 have S7:=S3.fresh f37
 have w7:=f7.wf
 have hIL:ee G7 (bQ O vp) (if stC m tk then vi else vL0) (nO m tk):=by
  unfold nO
  by_cases h:stC m tk
  .rw [if_pos h,if_pos h];exact S7.sI.cF
  .rw [if_neg h,if_neg h];exact hI4.fresh f7
 generalize (if stC m tk then vi else vL0)=vI at p7 hIL
 have hsl1:(nO m tk).length<1000000:=by omega
 obtain ⟨G8,vL,z8,f8,o8⟩:=gH (cp:=aP Tryz.prog) (fuel:=fuel) T w7 hIL hsl1
 have z8:=λ{d:Nat} {k:K}=>z8 (d+7) k
 have m7:=f7.n
 have m8:=f8.n
 have jL:=λ{id:Nat} {k:R}=>aI o8.one (id:=id) (k:=k)
 have p8:G8.get G4.n = .cells [vI]:=(f8.same _ (by omega)).trans p7
 have w8:=f8.wf
 have b8:G4.n<G8.n:=by omega
 have f48:=f7.trans f8
 obtain ⟨G9,hG9,f9,p9,n9,w9,k9⟩:=Heap.aU f48 (YB _) b8 (.cells [vL])
 have oL9:Own G7 G9 vL 1 (nO m tk).length ((nO m tk).map (V.int 3)):=by rw [<- hG9];exact o8.mK w8 b8 (o8.off (by omega))
 have f39:=f4.trans f9
 have fr:=FV (m:=m) (cs:=cs) S.hi
 have hat:∀ p ∈ Hl cs (jD m A.len cs) cs.length,nn p:=λp hp=>by have:=KA fr cs.length p hp;unfold nn;omega
 have hAI:ee G3 (bQ O vp) va (Hl cs (jD m A.len cs) cs.length):=by
  have h:=oA.toRow S2.lt
  unfold ee
  rw [qv]
  exact h
 obtain ⟨Ga,fa,oa,ga,na,ka,za⟩:=K4 (fuel:=fuel) (v0:=.ptr vp 0) (v4:=.ptr H.n 0) (vw:=vw) T f39 (hX2.fresh f3) hAI (qv _ _ _) hn (λc hc=>by rw [hsl];exact (Z.ch.lt c hc).1) hat (by omega) oL9 (by omega) (by omega) p9 (by omega) (by omega)
 have S10:=S3.fresh fa
 have p10:Ga.get H.n = .cells (bq tk y):=(fa.same _ (by omega)).trans p3
 have wa:=fa.wf
 obtain ⟨Gb,hGb,fb,pb,nb⟩:=Heap.aO wa (.cells [.func 126 [],.func 308 [.ptr H.n 0,.ptr G4.n 0]])
 have f3b:=fa.trans fb
 have S11:=S3.fresh f3b
 have hm3:=f3.n
 have hV3:=S3.vn
 have hcell:G4.n<Ga.n:=by omega
 have pb1:Gb.get G4.n = .cells [vL]:=(fb.same _ hcell).trans ga
 have pb2:Gb.get H.n = .cells (bq tk y):=(fb.same _ (by omega)).trans p10
 have hbwok:∀ w ∈ Ow m A.len cs,w.1<18446744073709551616/\w.2.1<1000000/\vk w.2:=Tb S.hi (λc hc=>⟨by have:=(Z.ch.lt c hc).2.1;omega,(Z.ch.lt c hc).2.2⟩) cs.length (YB _)
 have hWl:(Ow m A.len cs).length=fT cs cs.length:=CK _ _ _
 have hnz:=pL cs cs.length
 have fHb:af Hb Gb:=fb1.trans (f2.trans (f3.trans f3b))
 obtain ⟨H',O',zc,hd⟩:=EF T hc F hp fHb Sb Y' hbwok (by omega) pb (by omega) (by show 2<1000;omega) (λf hf=>by rcases Yb.1 hf with rfl|hf;rfl;rw [YU.1 hf];rfl) (λB G vl1 vs1 vi1 fG ts=>by
  obtain ⟨G',zt,ts',kt⟩:=Dq T ts
  have hlo:=ts.lo
  have hQ:∀ b,b<Hb.n->b<Hb.n:=λb h=>h
  have mG:=fG.n
  have mt:=ts'.f.n
  have hkeep:∀ j,j<Gb.n->G'.get j=Gb.get j:=λj hj=>(kt _ (by omega)).trans (fG.same _ hj)
  have fHb3:Hb.n<=G7.n:=by omega
  have obv:=fb.n
  obtain ⟨G'',vl2,vs2,vi2,zr,fr,hr,pr,mr,kr,nr⟩:=K6 (cp:=aP Tryz.prog) (fuel:=fuel) (ca:=G4.n) (cb:=H.n) (tk:=tk) (x0:=y) (vL:=vL) (l:=eU (nO m tk) cs (Hl cs (jD m A.len cs) cs.length) cs.length) (Q:=λb=>b<Hb.n) T fHb ts' S.ok.drop ((hkeep _ (by omega)).trans pb1) ((hkeep _ (by omega)).trans pb2) (by omega) (by omega) (by omega) (by omega) hy o8.one (by unfold nn;have:=Z.next;have:=Z.all;omega) (by unfold nn;have:=Z.all;omega) (by rw [mQ];omega) (λ{G5} hk hn5=>by
   have hrow:=oa.toRow (O:=λb=>b<Hb.n) (λb h=>by have:=fHb3;omega)
   obtain ⟨q1,q2,q3⟩:=hrow
   refine ⟨by rw [Ys,WS],q2,?_⟩
   rw [mQ]
   rcases q3 with q3|⟨b,o,c,s,l,e1,e2,e3,e4,e5,e6⟩
   .exact YG q3
   .obtain ⟨hb1,hb2⟩:=oa.db e1
    refine YE ⟨b,o,c,s,l,e1,?_,by omega,e4,e5,e6⟩
    rw [hk b (by omega) (by omega),hkeep b (by omega),fb.same _ hb2]
    exact e2) hQ
  exact ⟨G'',vl2,vs2,vi2,⟨G',λd k=>zt (d+4) k,kt Ga.n (by omega),G'',λd k=>zr (d+3) k,kr Ga.n (by omega) (by omega),rfl⟩,fr,hr,pr,mr,by
   obtain ⟨q1,q2,q3⟩:=oW.toRow (O:=bQ O vp) S2.lt
   rw [hWl]
   refine ⟨q1,q2,?_⟩
   rcases q3 with q3|⟨b,o,c,s,l,e1,e2,e3,e4,e5,e6⟩
   .exact YG q3
   .obtain ⟨hb1,hb2⟩:=oW.db e1
    refine YE ⟨b,o,c,s,l,e1,?_,by omega,e4,e5,e6⟩
    rw [kr b (by omega) (by omega),hkeep b (by omega),f3b.same _ hb2]
    exact e2⟩) hfu
 have zc:∀ {d:Nat} {k:K},aj (aN (aP Tryz.prog) t fuel (d+8)) (.func 112 []) [.ptr vp 0,vw,.slice Ga.n 0 2 3 0] Gb k=k (.int 3 (sh pk A a (Dv m A.len tk cs) (Ow m A.len cs)).2) H':=λ{d k}=>zc d k
 have sx:=λ{id:Nat} {f:Nat->R}=>hX.sn (id:=id) (f:=f)
 have hcl:cs.length<9223372036854775808:=by omega
 refine ⟨H',O',λd k=>?_,hd.before sb⟩
 rw [aJ T.k82 rfl rfl]
 simp only [go_sem,c82,LQ,LR,bq,w0,hG0,↓jy,↓z1,p1',↓z2]
 simp only [go_sem,P5,P6,↓z3,X2,↓z4,w4,hG5,p5,w5,b5,hG6,↓jL0,bJ]
 refine z7 (d+8) _ _ _ _ (.ptr vp 0) vx va vw ?_ ?_ ?_ ?_ ?_ ?_ λe' q0 q2 q4 q11 q12 q14=>?_
 .rfl
 .rfl
 .rfl
 .rfl
 .rfl
 .rfl
 simp only [go_sem,P7,X3,q2,q14,p7,p8,↓z8,w8,b8,hG9,↓jL,↓sx,hcl]
 refine za (d+8) _ _ _ ?_ ?_ ?_ ?_ ?_ ?_ ?_ ?_ λe'' q0 q4 q12 q14=>?_
 .exact q0
 .exact q4
 .exact q11
 .exact q12
 .exact q14
 .rfl
 .rfl
 .rfl
 simp only [go_sem,X4,P4,q0,q4,q12,q14,wa,hGb,↓zc]
end
end Go.Ev
end
section
namespace Go.Ev
def iw (l:List Gd):List V:=l.flatMap aS
theorem Ni:∀ l:List Gd,(iw l).length=l.length*2
 | []=>rfl
 | g :: l=>by
  show (aS g ++ iw l).length=_
  rw [YC,Ni l,YH,Wi]
  simp only [aS,YH,YO];omega
theorem sy (a b):iw (a ++ b)=iw a ++ iw b:=List.flatMap_append
theorem Fz (g):∀ y ∈ aS g,y.one=true:=λy hy=>by
 rcases Yb.1 hy with rfl|hy
 .rfl
 .rw [YU.1 hy];rfl
section
variable {cp:RC->ah} {t:Nat->Option cP} {fuel:Nat} {H:Heap} {O:Nat->Prop}
theorem NM (T:aA t) {vs:V} {ss:List Sn} (hw:H.wf) (hS:fV H O vs ss) (hn:ss.length<1000) (hfu:1000<fuel):
 ∃ G' v',af H G'/\Own H G' v' 2 ss.length (iw (ss.map (·.g)))/\∀ (d:Nat) (kx:Nat->KE) (e:Env) (x:R),ae s003 e = .az->ae s014 e=vs->ae s015 e = .int 3 ss.length->ae s016 e = .int 3 0->
  (∀ e',ae s003 e'=v'->kx 1 e' G'=x)->jQ Ek fuel (aN cp t fuel d) kx fuel e H=x:=by
 have nl:nn ss.length:=by unfold nn;omega
 obtain ⟨v',G',⟨f',o'⟩,z⟩:=bA (c:=Ek)
  (I:=λi v G=>af H G/\Own H G v 2 i (iw ((ss.take i).map (·.g))))
  (S:=λi v e=>ae s003 e=v/\ae s014 e=vs/\ae s015 e = .int 3 ss.length/\ae s016 e = .int 3 i) (λi v G hil ⟨f,o⟩=>by
   obtain ⟨b,ob,c,z,y,rfl,hbn,-,hy,hrd⟩:=hS.open hil
   have htk:ss.take (i+1)=ss.take i ++ [ss[i]]:=by rw [List.take_add_one,YA hil];rfl
   have hrd:=λ{id} {k}=>hrd (f.same _ hbn) (id:=id) (k:=k)
   generalize ss[i]=s at htk hy hrd
   have w0:=f.wf
   obtain ⟨G1,hG1,f1,p1,n1⟩:=Heap.aO w0 (.cells [.int 7 0,.int 7 0,.az,.bool false])
   obtain ⟨G2,hG2,f2,p2,n2,w2,k2⟩:=Heap.aU f1 (YB _) (by omega) (.cells (bJ s y))
   obtain ⟨G3,hG3,f3,p3,n3⟩:=Heap.aO w2 (.cells (aS s.g))
   have f03:=(f.trans f2).trans f3
   obtain ⟨v',G4,hap,o4,f4,-⟩:=Own.app (w:=v) (x:=.slice G2.n 0 1 2 0) f03 ((o.fresh f2).fresh f3) (λ{id f}=>iN p3 rfl) rfl (Fz _) (by omega)
   have i1:=λ{id} {k}=>aI hy.one (id:=id) (k:=k)
   have w1:=f1.wf
   have a1:nn i:=by unfold nn;omega
   have a2:i<9223372036854775808:=by omega
   have a3:(i+1)%18446744073709551616=i+1:=by omega
   have a4:G.n<G1.n:=by omega
   refine ⟨v',G4,⟨f4,by rw [htk,WB,sy];simpa [iw] using o4⟩,λd kx r e x ⟨q3,q14,q15,q16⟩ hk=>?_⟩
   simp only [bJ]at hG2 p2 hrd
   simp only [aS]at hG3
   rw [ak]
   simp only [go_sem,Ek,q3,q14,q15,q16,hil,nl,a1,a2,a3,a4,↓hrd,w0,hG1,p1,w1,hG2,p2,↓i1,w2,hG3,↓hap]
   refine hk _ ?_
   simp only [go_sem,q14,q15,and_self]) ss.length 0 .az H (by omega) ⟨af.refl hw,Own.nil⟩
 rw [WZ]at o'
 refine ⟨G',v',f',o',λd kx e x q3 q14 q15 q16 hk=>z d kx fuel e x (by omega) ⟨q3,q14,q15,q16⟩ λr e' ⟨q3,q14,q15,q16⟩=>?_⟩
 have e6:¬ ss.length<ss.length:=by omega
 rw [ak]
 simp only [go_sem,Ek,q15,q16,nl,e6]
 exact hk _ q3
theorem rL (T:aA t) {dp vp a n} {A} {m} {vl vs vi} (S:VP H dp vp a n A O m vl vs vi) (hfu:1000<fuel):
 ∃ H' v',(∀ (d) (k),aj (aN cp t fuel (d+1)) (.func 70 []) [.ptr vp 0] H k=k v' H')/\af H H'/\Own H H' v' 2 m.aa.length (iw (m.aa.map (·.g))):=by
 obtain ⟨G',v',f',o',z⟩:=NM T S.fC.wf S.sI.aa S.ok.num hfu
 have g:=S.get
 simp only [vc,aW,bq,YL,YK]at g
 have sn:=λ{id} {f:Nat->R}=>(let ⟨_,h,_⟩:=S.sI.aa;h.sn:bG id vs (λ_ _ len _ _=>f len) (f 0)=f m.aa.length)
 have a1:m.aa.length<9223372036854775808:=by have:=S.ok.num;omega
 refine ⟨G',v',λd k=>?_,f',o'⟩
 rw [aJ T.k35 rfl rfl]
 simp only [go_sem,c35,g,↓sn,a1]
 refine z d _ _ _ ?_ ?_ ?_ ?_ λe' q3=>?_
 .rfl
 .rfl
 .rfl
 .rfl
 simp_all
set_option maxRecDepth 4000 in
theorem uX (T:aA t) {dp vp a n} {A} {m} {vl vs vi} (S:VP H dp vp a n A O m vl vs vi):
 ∃ H' x,(∀ (d) (k),aj (aN cp t fuel (d+2)) (.func 142 []) [.ptr vp 0] H k=k (.agg (bq m.tok x)) H')/\af H H'/\Own H H' x 1 m.tok.cF.length (m.tok.cF.map (V.int 3)):=by
 have g:=S.get
 simp only [vc,aW,bq,YL,YK]at g
 have w:=S.fC.wf
 have i1:=λ{id} {k}=>aI S.sI.cF.one (id:=id) (k:=k)
 obtain ⟨G1,hG1,f1,p1,n1⟩:=Heap.aO w (.cells [.int 7 0,.int 7 0,.int 7 0,.int 7 0,.int 3 0,.int 3 0,.az])
 have w1:=f1.wf
 have g1:=(f1.same _ S.vn).trans g
 obtain ⟨G2,hG2,f2,p2,n2⟩:=Heap.jS n1 w1 (.cells [.int 7 0,.int 7 0,.int 7 0,.int 7 0,.int 3 0,.int 3 0,.az])
 have w2:=f2.wf
 have b2:H.n+1<G2.n:=by omega
 obtain ⟨G3,hG3,f3,p3,n3,w3,k3⟩:=Heap.aU f2 (by omega) b2 (.cells (bq m.tok vi))
 have f03:=f1.trans f3
 obtain ⟨G4,x,z4,f4,o4⟩:=gH (cp:=cp) (fuel:=fuel) T w3 ((S.fresh f03).sI.cF) (by have:=S.ok.tok.2.2.2.2.1;omega)
 have z4:=λ{d} {k}=>z4 d k
 have i2:=λ{id} {k}=>aI o4.one (id:=id) (k:=k)
 have w4:=f4.wf
 have p4:=(f4.same _ (by omega)).trans p3
 have b4:H.n+1<G4.n:=by have:=f4.n;omega
 obtain ⟨G5,hG5,f5,p5,n5,w5,k5⟩:=Heap.aU (f3.trans f4) (by omega) b4 (.cells (bq m.tok x))
 have q5:G5.get H.n = .cells [.int 7 0,.int 7 0,.int 7 0,.int 7 0,.int 3 0,.int 3 0,.az]:=by rw [k5 _ (by omega),f4.same _ (by omega),k3 _ (by omega),f2.same _ (by omega)];omega
 have b5:H.n<G5.n:=by omega
 have f05:=f1.trans f5
 obtain ⟨G6,hG6,f6,p6,n6,w6,k6⟩:=Heap.aU f05 (YB _) b5 (.cells (bq m.tok x))
 have oo:Own H G6 x 1 m.tok.cF.length (m.tok.cF.map (V.int 3)):=by
  rw [<- hG6]
  refine (Own.mK ?_ w5 b5 (o4.off (by omega))).sub (by have:=f03.n;omega)
  rw [<- hG5]
  exact o4.mK w4 b4 (o4.off (by omega))
 refine ⟨G6,x,λd k=>?_,f6,oo⟩
 simp only [bq]at hG3 p3 p4 hG5 p5 hG6 p6 ⊢
 rw [aJ T.k71 rfl rfl]
 simp only [go_sem,c71,w,hG1,n1,g1,w1,hG2,p2,b2,w2,↓i1,hG3,p3,↓z4,p4,b4,w4,↓i2,hG5,p5,w5,b5,q5,hG6,↓dW,p6]
theorem fV.cF {v:V} {ss:List Sn} (h:fV H O v ss) {i:Nat} (hi:i<ss.length):∃ b o c s x,v = .slice b o ss.length c s/\b<H.n/\¬ O b/\ee H O x ss[i].cF/\∀ {G:Heap},G.get b=H.get b->∀ {id:Nat} {k:V->R},Du id (G.get b) (o+i*4+2) k=k x:=by
 obtain ⟨xs,hR,hl,hx⟩:=h
 obtain ⟨x,hxi,hI⟩:=hx i _ (YA hi)
 obtain ⟨b,o,c,z,g1,g2,g3,g4⟩:=hR.cell (by omega)
 refine ⟨b,o,c,z,x,g1,g2,g3,hI,λ{G} hG {id k}=>?_⟩
 have e:=sA (YA hi) hxi
 have e2:(((dU ss xs).drop (i*4)).take 4)[2]? = some x:=by rw [e];rfl
 rw [Yu,if_pos (by omega),Yy]at e2
 rw [Qe]
 exact g4 hG e2
theorem Lp (T:aA t) (hc:aY t) {dp vp a n:Nat} {g:Gd} {A:AD} {m:MT} {vl vs vi:V} (S:VP H dp vp a n A O m vl vs vi) (hlp:∀ s ∈ m.aa,∀ p ∈ s.cF,p<A.len) (hfu:1000<fuel):
 ∃ H' v',(∀ (d:Nat) (k:K),aj (aN cp t fuel (d+5)) (.func 188 []) [.ptr vp 0,.agg (aS g)] H k=k (.cH [v',.int 3 (jI m g).2]) H')/\Step H (bQ O vp) H' (bQ O vp)/\VP H' dp vp a n A O m vl vs vi/\((jI m g).2≠0->v' = .az)/\∀ (i:Nat) (s:Sn),jI m g=(i,0)->m.aa[i]? = some s->Own H H' v' 1 s.cF.length (s.cF.map λp=>sv (dE A p)):=by
 have hn0:=S.ok.num
 obtain ⟨G0,hG0,f0,p0,n0⟩:=Heap.aO S.fC.wf (.cells (aS g))
 have S0:=S.fresh f0
 obtain ⟨G2,z2,s2,S2⟩:=Nv (cp:=cp) (g:=g) T hc S0 (by omega)
 have z2:=λ{d} {k}=>z2 d k
 have s02:=f0.step.trans s2
 have w0:=S.fC.wf
 have a3:nn 0:=by unfold nn;omega
 obtain ⟨l1,l2⟩:=RK (g:=g) hn0
 have p0':=p0
 have g2':=S2.get
 simp only [vc,aW,bq,YL,YK]at g2'
 simp only [aS]at hG0 p0' z2
 by_cases h:(jI m g).2=0
 .obtain ⟨i,hi,hr,hgi,hhi,-⟩:=RL h
  have hs:=YA hi
  obtain ⟨b,o,c,z,x,rfl,hbn,-,hI,hrd⟩:=S2.sI.aa.cF hi
  have hrd:=λ{id} {k}=>hrd rfl (id:=id) (k:=k)
  obtain ⟨G3,v',z3,f3,o3⟩:=IE (cp:=cp) T hc S2.fC S2.off S2.get S2.vn hI (by have:=(S.ok.aa _ (YW hi)).2.1;omega) (hlp _ (YW hi)) S.hi hfu
  have z3:=λ{d} {k}=>z3 d k
  have jx:=λ{id} {k}=>aI hI.one (id:=id) (k:=k)
  have a1:nn i:=by unfold nn;omega
  have a2:i<9223372036854775808:=by omega
  refine ⟨G3,v',λd k=>?_,s02.trans f3.step,S2.fresh f3,λhne=>absurd h hne,λj s hj hsj=>?_⟩
  .rw [aJ T.k94 rfl rfl]
   simp only [hr]at z2 ⊢
   simp only [go_sem,c94,aS,w0,hG0,p0',↓z2,g2',a2,hi,↓hrd,↓z3]
  .rw [hr]at hj
   obtain rfl:i=j:=congrArg YF1 hj
   rw [hs]at hsj
   cases hsj
   exact o3.sub (by have:=s02.n;omega)
 .refine ⟨G2,.az,λd k=>?_,s02,S2,λ_=>rfl,λi s hi=>absurd (by rw [hi]) h⟩
  rw [aJ T.k94 rfl rfl]
  simp only [go_sem,c94,aS,w0,hG0,p0',↓z2,h,not_false_eq_true]
end
end Go.Ev
end
section
namespace Go.Ev
def t0:Tx:=(0,0)
def gE (a b:List Tx):Nat->List Wr
 | 0=>[]
 | i+1=>gE a b i ++ (if a.getD i t0=b.getD i t0 then [] else [(i,b.getD i t0)])
def L0 (a b:List Tx):List Wr:=gE a b b.length
theorem tF (a b):∀ i,(gE a b i).length<=i
 | 0=>YB _
 | i+1=>by
  have:=tF a b i
  simp only [gE,YC]
  split<;>simp<;>omega
section
variable {cp:RC->ah} {t:Nat->Option cP} {fuel:Nat} {H:Heap} {O:Nat->Prop}
end
end Go.Ev
end

