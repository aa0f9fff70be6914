/- VB: a part of the evaluator,of its logic,or of the laws' walk in it. -/
import Derived.Test.YtalmhjlkdhlbiaaGreatDoorLC
open Nat renaming le_refl → YA,lt_of_lt_of_le → YE,zero_le → Yd,le_trans → Yn,add_zero → WD,zero_add → WJ,mul_one → WO,not_lt_zero → WY,add_mul → Wn,sub_zero → QD,add_sub_cancel → QS,le_zero → YG0,succ_ne_zero → YN3
open List renaming getElem?_eq_getElem → YB,length_append → YC,length_cons → YF,getD_eq_getElem?_getD → YH,mem_cons_of_mem → YI,length_nil → YM,mem_singleton → YO,mem_cons → YP,eq_nil_of_length_eq_zero → YR,nil_append → YT,append_nil → YV,getElem?_eq_some_iff → YX,mem_of_getElem? → YY,take_of_length_le → Ya,cons_append → Yb,mem_map → Yc,map_cons → Ye,replicate → Yg,getElem?_map → Yj,getElem?_take → Yk,getElem_mem → Yl,getElem?_append_left → Ym,length_take → Yp,getElem?_append_right → Yt,mem_append → Yv,map_append → WE,mem_of_mem_take → WN,drop_zero → WV,length_replicate → Wb,map_replicate → YE2,getLast?_eq_getElem? → YF0
open Or renaming inr → YD,inl → YG
open Bool renaming false_eq_true → YN,not_true → Wt,or_false → QP,and_false → QQ,true_eq_false → QR,false_and → Qf,not_false → Qh,or_true → YB0,and_true → YC2
open Prod renaming fst → YP3,snd → YP4
set_option linter.unusedVariables false
set_option linter.unusedSimpArgs false
set_option linter.unusedSectionVars false
set_option maxHeartbeats 8000000
open Nat renaming reduceAdd→ZA,reduceSub→ZB,reduceMul→ZC,reduceEqDiff→ZD,reduceLT→ZE,reduceDiv→ZF,reduceMod→ZG,reduceLeDiff→ZH
section
namespace Go.Ev
def iw (A:AD) (ss:List (List UInt8)):Nat->List Wr
 | 0=>[]
 | i+1=>iw A ss i ++ (if A.read (145+i)=tx (ss.getD i []) then [] else [(145+i,tx (ss.getD i []))])
theorem rR (A) (ss):∀ i,(iw A ss i).length<=i
 | 0=>YA _
 | i+1=>by
  have:=rR A ss i
  simp only [iw,YC]
  split<;>simp<;>omega
theorem od {A} {ss}:∀ {i} {w},w ∈ iw A ss i->∃ j,j<i/\w=(145+j,tx (ss.getD j []))
 | 0,w,h=>by cases h
 | i+1,w,h=>by
  rcases Yv.1 h with h|h
  .obtain ⟨j,hj,e⟩:=od h;exact ⟨j,by omega,e⟩
  .split at h
   .cases h
   .exact ⟨i,by omega,YO.1 h⟩
theorem qF {A} {ss}:∀ i,((iw A ss i).map (·.1)).Nodup
 | 0=>List.nodup_nil
 | i+1=>by
  simp only [iw,WE]
  refine List.nodup_append.2 ⟨qF i,by split<;>simp,λx hx y hy=>?_⟩
  obtain ⟨w,hw,rfl⟩:=Yc.1 hx
  obtain ⟨j,hj,rfl⟩:=od hw
  split at hy
  .cases hy
  .simp only [Ye,List.map_nil,YO]at hy
   omega
theorem Jd {A} {ss}:∀ {i j},j<i->A.read (145+j)≠tx (ss.getD j [])->((145+j,tx (ss.getD j [])):Wr) ∈ iw A ss i
 | 0,j,h,_=>by omega
 | i+1,j,h,hn=>by
  simp only [iw]
  by_cases hj:j=i
  .simp_all
  .exact List.mem_append_left _ (Jd (by omega) hn)
theorem Ka {A B:AD} {ss} {n} (hB:∀ k,145<=k->find B.es k=find (laid A.es (iw A ss n)) k) {j} (hj:j<n):B.read (145+j)=tx (ss.getD j []):=by
 rw [AD.read,hB _ (by omega)]
 by_cases h:A.read (145+j)=tx (ss.getD j [])
 .have hno:145+j ∉ (iw A ss n).map (·.1):=λhm=>by
   obtain ⟨w,hw,e⟩:=Yc.1 hm
   have:∀ m,((145+j,tx (ss.getD j [])):Wr) ∉ iw A ss m:=by
    intro m
    induction m with
    | zero=>intro h;cases h
    | succ m ih=>
     intro hx
     simp only [iw]at hx
     simp_all
   obtain ⟨i,hi,rfl⟩:=od hw
   simp_all
  rw [dC hno]
  exact h
 .rw [show find (laid A.es (iw A ss n)) (145+j)=some (tx (ss.getD j [])) from eS (qF n) (Jd hj h)]
  rfl
theorem Bk {len}:∀ {ws} {seen},(∀ w ∈ ws,qj len w/\w.1 ∉ seen)->(ws.map (·.1)).Nodup->hU len seen ws=true
 | [],_,_,_=>rfl
 | w :: ws,seen,h,hn=>by
  rw [Ye,List.nodup_cons]at hn
  simp only [hU]
  rw [if_pos (h w (List.mem_cons_self ..))]
  refine Bk (λv hv=>⟨(h v (YI _ hv)).1,λhm=>?_⟩) hn.2
  rcases Yv.1 hm with hm|hm
  .exact (h v (YI _ hv)).2 hm
  .exact hn.1 (Yc.2 ⟨v,hv,YO.1 hm⟩)
theorem Ju {m} (h:(oO m).2=0):(oO m).1.length<=1530:=by
 unfold oO at h ⊢
 split at h
 .rename_i h0
  rw [if_pos h0]
  split at h
  .omega
  .rename_i h1
   rw [if_neg h1]
   show (nums (nw m)).length<=1530
   omega
 omega
section
variable {cp:RC->ai} {t:Nat->Option cF} {fuel:Nat} {H:Heap} {O:Nat->Prop} {pk:List UInt8->List (List UInt8)} {unpk:List (List UInt8)->Option (List UInt8)}
theorem xE (T:aG t) (F:bX pk unpk) (hp:t 123=some (.nat (eD pk))) {m} {vl vs vi} (hw:H.wf) (M:gj H O m vl vs vi) (Y:lg m) (hfu:1000<fuel):
 ∃ H' v,(∀ (d) (k),aj (aQ cp t fuel (d+7)) (.func 164 []) [.agg (aS m vl vs vi)] H k=k (.cV [v,.int 3 (oO m).2]) H')/\ae H H'/\v.one=true/\((oO m).2=0->Own H H' v 1 (pk (oO m).1).length ((pk (oO m).1).map tv)):=by
 have i1:=λ{id} {k}=>aI M.live.one (id:=id) (k:=k)
 have i2:=λ{id} {k}=>aI (let ⟨_,h,_⟩:=M.ah;h.one) (id:=id) (k:=k)
 have i3:=λ{id} {k}=>aI M.cD.one (id:=id) (k:=k)
 obtain ⟨G1,hG1,f1,p1,n1⟩:=Heap.aU hw (.cells (aS m vl vs vi))
 obtain ⟨G2,z2,f2⟩:=tZ (cp:=cp) T f1.wf (M.fresh f1) Y hfu
 have w2:=f2.wf
 have z2:=λ{d} {k}=>z2 d k
 by_cases h0:(oO m).2=0
 .have hl:=Ju h0
  obtain ⟨G3,hG3,f3,p3,n3⟩:=Heap.aU w2 (.cells ((pk (oO m).1).map tv))
  have hpl:∀ {d} {k},aj (aQ cp t fuel (d+1)) (.func 246 []) [.str (oO m).1.length (enc (oO m).1)] G2 k=k (.cV [.slice G2.n 0 (pk (oO m).1).length 0 1,.int 3 0]) G3:=λ{d k}=>by
   rw [lO hp rfl rfl]
   simp only [eD,YV,ft]
   rw [if_pos ⟨by omega,iC _⟩,cP w2,hG3]
  refine ⟨G3,.slice G2.n 0 (pk (oO m).1).length 0 1,λd k=>?_,(f1.trans f2).trans f3,rfl,λ_=>⟨by simp,λx hx=>?_,YD ⟨_,_,_,[],rfl,by rw [YV];omega,YD ⟨rfl,rfl,rfl⟩,(f1.trans f2).n,by omega⟩⟩⟩
  .rw [h0]at z2 ⊢
   simp only [tv]at z2
   simp only [aS,cg]at hG1 p1 z2
   rw [aR T.k82 rfl rfl]
   simp only [go_sem,c82,aS,cg,↓i1,↓i2,↓i3,hw,hG1,p1,↓z2,↓hpl]
  .obtain ⟨s,-,rfl⟩:=Yc.1 hx
   rfl
 .refine ⟨G2,.aB,λd k=>?_,f1.trans f2,rfl,λh=>absurd h h0⟩
  simp only [aS,cg]at hG1 p1 z2
  rw [aR T.k82 rfl rfl]
  simp only [go_sem,c82,aS,cg,↓i1,↓i2,↓i3,hw,hG1,p1,↓z2,h0]
end
end Go.Ev
end
section
namespace Go.Ev
theorem Gr.grow {H G:Heap} {v x:V} {sz n m:Nat} {row new:List V} (f:ae H G) (h:Gr H G v sz n row) (hN:∀ {id:Nat} {f:Nat->List V->R},db id sz G x f=f m new) (hl:new.length=m*sz) (hone:∀ v ∈ new,v.one=true) (hb:n+m<1000000):
 ∃ v' G',(∀ {id:Nat} {ph:cW} {e:Env} {k:K} {a y:Arg},ay a e=v->ay y e=x->aM (.app false sz a y) id ph e G k=k v' G')/\Gr H G' v' sz (n+m) (row ++ new)/\ae H G'/\(∀ j,j<G.n->jM v j->G'.get j=G.get j):=by
 by_cases hm:m=0
 .subst hm
  have hr:new=[]:=YR (by omega)
  subst hr
  refine ⟨v,G,λ{id ph e k a y} ha hx=>?_,by rw [YV];exact h,f,λj _ _=>rfl⟩
  rw [dF,ha,hx,hN]
  obtain ⟨_,_,⟨rfl,_⟩|⟨b,c,s,rfl,_⟩⟩:=h
  .rw [fF,if_pos rfl]
  .rw [cX,if_pos rfl]
 have hw:=f.wf
 obtain ⟨h1,h2,⟨rfl,rfl⟩|⟨b,c,s,rfl,g2,g3,g4,g5,g6⟩⟩:=h
 .have hr:row=[]:=YR (by omega)
  subst hr
  refine ⟨.slice G.n 0 m 0 sz,G.new (.cells new),λ{id ph e k a y} ha hx=>?_,⟨by simp [hl],by simpa using hone,YD ⟨G.n,0,sz,by rw [WJ],by omega,YD ⟨rfl,rfl⟩,?_,f.n,by rw [Heap.aN];omega⟩⟩,f.trans (ae.new hw),λj hj _=>?_⟩
  .rw [dF,ha,hx,hN,fF,if_neg hm,cE hone,if_pos (by omega),cP hw]
  .rw [Heap.aE hw,if_pos rfl];rfl
  .rw [Heap.aE hw,if_neg (by omega)]
 .have hlr:∀ {id:Nat} {g:List V->R},eC id G b 0 (n*sz) g=g row:=λ{id g}=>by
   rw [oI,g4,ir,gE (Yd _),fP (by simp [h1])]
   rw [WV,Ya (by omega)]
  have hlen:(row ++ new).length=(n+m)*sz:=by rw [YC,h1,hl,Wn]
  have hon:∀ v ∈ row ++ new,v.one=true:=λv hv=>(Yv.1 hv).elim (h2 v) (hone v)
  rcases g3 with rfl|⟨rfl,rfl⟩
  .refine ⟨.slice G.n 0 (n+m) 0 sz,G.new (.cells (row ++ new)),λ{id ph e k a y} ha hx=>?_,⟨hlen,hon,YD ⟨G.n,0,sz,rfl,by omega,YD ⟨rfl,rfl⟩,?_,f.n,by rw [Heap.aN];omega⟩⟩,f.trans (ae.new hw),λj hj _=>?_⟩
   .rw [dF,ha,hx,hN,cX,if_neg hm,jC (by omega),cE hone,if_pos (by omega),hlr,cE h2,cP hw]
   .rw [Heap.aE hw,if_pos rfl]
   .rw [Heap.aE hw,if_neg (by omega)]
  .have hw2:(G.put b .dead).wf:=by rw [Heap.bE];exact hw
   refine ⟨.slice G.n 0 (n+m) 0 s,(G.put b .dead).new (.cells (row ++ new)),λ{id ph e k a y} ha hx=>?_,⟨hlen,hon,YD ⟨G.n,0,s,rfl,by omega,YD ⟨rfl,rfl⟩,?_,f.n,by rw [Heap.aN,Heap.aT];omega⟩⟩,(f.put g5 g6).trans (ae.new hw2),λj hj ho=>?_⟩
   .rw [dF,ha,hx,hN,cX,if_neg hm,pC,cE hone,if_pos (by omega),g4,ir,if_pos h1,fm hw g6,cP hw2,Heap.aT]
   .rw [Heap.aE hw2,if_pos (by rw [Heap.aT])]
   .rw [Heap.aE hw2,if_neg (by rw [Heap.aT];omega),Heap.aF hw g6,if_neg (ho _ _ _ _ _ rfl)]
theorem te {ph} {e} {H H'} {kn:KE} {n0 id} {l} {fl st} {dd} {i bf} {ad} {op} {v w} {x} (hb:ay ad e=w) (hw:w = .aB\/∃ b o n c s,w = .slice b o n c s/\∀ k:R,dM id bf b fl k=k) (hop:∀ k:K,aM op id ph e H k=k v H')
 (hx:∀ st',bG ph n0 l (dP dd v e) H' fl st' kn=x):bG ph n0 (⟨id,dd,none,3,i,bf,ad,op⟩:: l) e H fl st kn=x:=by
 show aH ad e (λa=>nS id a λob=>Option.rec (aM op id ph e H λv H'=>bZ dd v e λe'=>bG ph n0 l e' H' fl st kn)
  (λb=>dM id bf b fl (aM op id ph e H λv H'=>bZ dd v e λe'=>bG ph n0 l e' H' fl ((i,b):: st) kn)) ob)=_
 rw [aq,hb]
 rcases hw with rfl|⟨b,o,n,c,s,rfl,h⟩
 .show aM op id ph e H (λv H'=>bZ dd v e λe'=>bG ph n0 l e' H' fl st kn)=_
  rw [hop,cz]
  simp_all
 .show dM id bf b fl (aM op id ph e H λv H'=>bZ dd v e λe'=>bG ph n0 l e' H' fl ((i,b):: st) kn)=_
  rw [h,hop,cz]
  simp_all
def IQ (cp:RC->ai) (t:Nat->Option cF) (fuel B bt:Nat):List V->Heap->Heap->Prop
 | [],G,G'=>G'=G
 | f :: fs,G,G'=>∃ G1,(∀ (d:Nat) (k:K),aj (aQ cp t fuel (d+5)) f [.ptr B 0] G k=k (.cV []) G1)/\G1.get bt=G.get bt/\IQ cp t fuel B bt fs G1 G'
def vc (m:MT) (vl vs vi:V) (dp:Nat) (lost:Bool):List V:=aS m vl vs vi ++ [.ptr dp 0,.bool lost]
section
variable {cp:RC->ai} {t:Nat->Option cF} {fuel:Nat} {H:Heap}
theorem kJ (T:aG t) {B bt c z vp} {vb} {all} (hn:all.length<1000) (ha:∀ f ∈ all,f.one=true):
 ∀ (fs pre) (G G'),all=pre ++ fs->IQ cp t fuel B bt fs G G'->G.get bt = .cells all->∀ (d) (kx) (r) (e),fs.length<r->aa s000 e = .ptr vp 0->aa s001 e=vb->aa s007 e = .ptr B 0->aa s026 e = .slice bt 0 all.length c z->aa s027 e = .int 3 all.length->aa s030 e = .int 3 pre.length->
  ∀ x:R,(∀ e',aa s000 e' = .ptr vp 0->aa s001 e'=vb->aa s007 e' = .ptr B 0->kx 1 e' G'=x)->
  jF IX fuel (aQ cp t fuel (d+7)) kx r e G=x
 | [],pre,G,G',hal,hT,hg,d,kx,r,e,hr,q0,q1,q7,q26,q27,q30,x,hk=>by
  obtain ⟨r,rfl⟩:∃ q,r=q+1:=⟨r-1,by omega⟩
  rw [YV]at hal
  subst hal
  obtain rfl:G'=G:=hT
  have e1:¬ all.length<all.length:=by omega
  have e2:nn all.length:=by unfold nn;omega
  rw [ak]
  simp only [go_sem,IX,q27,q30,e1,e2]
  exact hk _ q0 q1 q7
 | f :: fs,pre,G,G',hal,⟨G1,z1,h1,hT⟩,hg,d,kx,r,e,hr,q0,q1,q7,q26,q27,q30,x,hk=>by
  obtain ⟨r,rfl⟩:∃ q,r=q+1:=⟨r-1,by omega⟩
  have hl:all.length=pre.length+(fs.length+1):=by rw [hal];simp
  have hget:all[pre.length]? = some f:=by rw [hal];simp
  have hf1:=ha f (YY hget)
  have hrd:∀ {id} {k},nth id all pre.length k=k f:=iL hget
  have e1:pre.length<all.length:=by omega
  have e2:nn all.length:=by unfold nn;omega
  have e3:nn pre.length:=by unfold nn;omega
  have e4:pre.length<9223372036854775808:=by omega
  have e5:(pre.length+1)%18446744073709551616=pre.length+1:=by omega
  have e6:=by omega
  have i1:=λ{id} {k}=>aI hf1 (id:=id) (k:=k)
  have z1:=λ{d} {k}=>z1 d k
  rw [ak]
  simp only [go_sem,IX,q7,q26,q27,q30,e1,e2,e3,e4,e5,hg,↓hrd,↓z1]
  refine kJ (c:=c) (z:=z) T hn ha fs (pre ++ [f]) G1 G' (by rw [hal];simp) hT (h1.trans hg) d kx r _ (by simp at hr;omega) ?_ ?_ ?_ ?_ ?_ ?_ x hk
  .exact q0
  .exact q1
  .exact q7
  .exact q26
  .exact q27
  .simp only [go_sem,YC,YF,YM]
theorem Kb (T:aG t) (hc:bg t) {vp dp B:Nat} {m:MT} {vl vs vi vS vb:V} {lost:Bool} {A:AD} {O Q:Nat->Prop} {ss:List (List UInt8)} (hD:cU H dp A O) (ho:A.off=false) (hV:H.get vp = .cells (vc m vl vs vi dp lost)) (hVn:vp<H.n) (hvs:Row H Q vS 1 ss.length (ss.map tv)) (hN:ss.length<=48) (hA:193<=A.len) (hA2:A.len<=1024):
 ∀ (m i:Nat) (G:Heap) (vw:V),i+m=ss.length->ae H G->Gr H G vw 2 (iw A ss i).length (cC (iw A ss i))->
 ∃ G' vw',ae H G'/\Gr H G' vw' 2 (iw A ss ss.length).length (cC (iw A ss ss.length))/\∀ (d:Nat) (kx:Nat->KE) (r:Nat) (e:Env),m<r->aa s000 e = .ptr vp 0->aa s001 e=vb->aa s007 e = .ptr B 0->aa s014 e=vw->aa s047 e=vS->aa s050 e = .int 3 ss.length->aa s051 e = .int 3 i->
  ∀ x:R,(∀ e',aa s000 e' = .ptr vp 0->aa s001 e'=vb->aa s007 e' = .ptr B 0->aa s014 e'=vw'->kx 3 e' G'=x)->
  jF Cy fuel (aQ cp t fuel (d+3)) kx r e G=x:=by
 intro mm
 induction mm with
 | zero=>
  intro i G vw hi f hg
  obtain rfl:i=ss.length:=by omega
  refine ⟨G,vw,f,hg,λd kx r e hr q0 q1 q7 q14 q47 q50 q51 x hT=>?_⟩
  obtain ⟨r,rfl⟩:∃ q,r=q+1:=⟨r-1,by omega⟩
  have e1:¬ ss.length<ss.length:=by omega
  have e2:nn ss.length:=by unfold nn;omega
  rw [ak]
  simp only [go_sem,Cy,q50,q51,e1,e2]
  exact hT _ q0 q1 q7 q14
 | succ mm ih=>
  intro i G vw hi f hg
  have hlt:i<ss.length:=by omega
  have hget:ss[i]? = some ss[i]:=YB hlt
  have hgd:ss.getD i []=ss[i]:=by rw [YH,hget];rfl
  have hdif:iw A ss (i+1)=iw A ss i ++ (if A.read (145+i)=tx ss[i] then [] else [(145+i,tx ss[i])]):=by rw [<- hgd];rfl
  generalize ss[i]=sx at hget hdif
  have bC:(ss.map tv)[i*1]? = some (tv sx):=by rw [WO,Yj,hget];rfl
  obtain ⟨bs,os,cs,zs,rfl,hbn,-,hop⟩:=hvs.open hlt
  have hrd:∀ {id:Nat} {k:V->R},LR id (G.get bs) (os+i) k=k (tv sx):=λ{id k}=>by
   have:=(hop (f.same bs hbn)).2 bC (id:=id) (k:=k)
   rwa [WO]at this
  have gK:G.get vp = .cells (vc m vl vs vi dp lost):=(f.same vp hVn).trans hV
  obtain ⟨G1,z1,f1⟩:=sh (cp:=cp) (fuel:=fuel) (a:=145+i) (T.jT hc) (hD.fresh f) ho (by omega)
  have w1:=f1.wf
  have e1:nn i:=by unfold nn;omega
  have e2:nn ss.length:=by unfold nn;omega
  have e3:i<9223372036854775808:=by omega
  have e9:(i+1)%18446744073709551616=i+1:=by omega
  have e10:(145+i)%18446744073709551616=145+i:=by omega
  have z1':=λ{d:Nat} {k:K}=>z1 d k
  generalize hq:A.read (145+i)=q at z1' hdif
  simp only [vc,aS,cg,Yb,YT]at gK
  by_cases hqs:q=tx sx
  .rw [if_pos hqs,YV]at hdif
   obtain ⟨G',vw',f',hg',hL⟩:=ih (i+1) G1 vw (by omega) (f.trans f1) (by rw [hdif];exact hg.fresh f1)
   refine ⟨G',vw',f',hg',λd kx r e hr q0 q1 q7 q14 q47 q50 q51 x hT=>?_⟩
   obtain ⟨r,rfl⟩:∃ q,r=q+1:=⟨r-1,by omega⟩
   rw [hqs]at z1'
   simp only [sv,tx]at z1'
   simp only [tv]at hrd
   rw [ak]
   simp only [go_sem,Cy,q0,q47,q50,q51,hlt,e1,e2,e3,e9,e10,↓hrd,gK,↓z1',and_self]
   refine hL d kx r _ (by omega) ?_ ?_ ?_ ?_ ?_ ?_ ?_ x hT
   .exact q0
   .exact q1
   .exact q7
   .exact q14
   .exact q47
   .exact q50
   .rfl
  .rw [if_neg hqs]at hdif
   obtain ⟨G2,hG2,f2,p2,n2⟩:=Heap.aU w1 (.cells [.int 3 (145+i),tv sx])
   obtain ⟨v',G3,hap,hg3,f3,_,_,_⟩:=Gr.app (cx:=2) (sx:=0) ((f.trans f1).trans f2) ((hg.fresh f1).fresh f2) p2 rfl (by simp [tv,V.one]) (by have:=rR A ss i;omega)
   have hl1:(iw A ss (i+1)).length=(iw A ss i).length+1:=by rw [hdif];simp
   have hl2:cC (iw A ss (i+1))=cC (iw A ss i) ++ [.int 3 (145+i),tv sx]:=by rw [hdif,eG];rfl
   obtain ⟨G',vw',f',hg',hL⟩:=ih (i+1) G3 v' (by omega) f3 (by rw [hl1,hl2];exact hg3)
   refine ⟨G',vw',f',hg',λd kx r e hr q0 q1 q7 q14 q47 q50 q51 x hT=>?_⟩
   obtain ⟨r,rfl⟩:∃ q,r=q+1:=⟨r-1,by omega⟩
   have hne:(q.1=sx.length/\q.2=enc sx)=False:=eq_false λh=>hqs (Prod.ext h.1 h.2)
   simp only [sv]at z1'
   simp only [tv]at hrd hG2
   rw [ak]
   simp only [go_sem,Cy,q0,q14,q47,q50,q51,hlt,e1,e2,e3,e9,e10,↓hrd,gK,↓z1',hne,w1,hG2,↓hap]
   refine hL d kx r _ (by omega) ?_ ?_ ?_ ?_ ?_ ?_ ?_ x hT
   .exact q0
   .exact q1
   .exact q7
   .rfl
   .exact q47
   .exact q50
   .rfl
end
end Go.Ev
end
section
namespace Go.Ev
def bM (O:Nat->Prop) (kp:Nat):Nat->Prop:=λb=>O b\/b=kp
theorem Step.pQ {H:Heap} {P:Nat->Prop} {kp:Nat} {x:eB} (hw:H.wf) (hk:kp<H.n) (hp:P kp):Step H P (H.put kp x) P:=
 ⟨by rw [Heap.bE];exact hw,by rw [Heap.aT];exact YA _,λb hb ho=>⟨by rw [Heap.aF hw hk,if_neg (λe=>ho (by rw [e];exact hp))],ho⟩,λlo h1 h2 h3=>⟨Heap.eW h1 (h3 kp hp),h3⟩⟩
theorem Step.zV {H H':Heap} {O O':Nat->Prop} {kp:Nat} (s:Step H O H' O'):Step H (bM O kp) H' (bM O' kp):=
 ⟨s.wf,s.n,λb hb ho=>⟨(s.same b hb λh=>ho (YG h)).1,λh=>h.elim (λh=>(s.same b hb λh=>ho (YG h)).2 h) λh=>ho (YD h)⟩,λlo h1 h2 h3=>⟨(s.lo lo h1 h2 λb hb=>h3 b (YG hb)).1,λb hb=>hb.elim (λhb=>(s.lo lo h1 h2 λb hb=>h3 b (YG hb)).2 b hb) λhb=>h3 b (YD hb)⟩⟩
theorem ib.kT {H:Heap} {O Q:Nat->Prop} {v:V} {ss:List Sn} (h:ib H O v ss) (h0:∀ b,b<H.n->Q b->O b):ib H Q v ss:=
 let ⟨xs,h1,h2,h3⟩:=h
 ⟨xs,h1.kT h0,h2,λi s hs=>let ⟨x,g1,g2⟩:=h3 i s hs; ⟨x,g1,Row.kT g2 h0⟩⟩
theorem gj.kT {H:Heap} {O Q:Nat->Prop} {m:MT} {vl vs vi:V} (h:gj H O m vl vs vi) (h0:∀ b,b<H.n->Q b->O b):gj H Q m vl vs vi:=⟨Row.kT h.live h0,h.ah.kT h0,Row.kT h.cD h0⟩
def Q5 (pk:List UInt8->List (List UInt8)) (A:AD) (m:MT) (bw:List Wr):List Wr:=iw A (pk (oO m).1) (pk (oO m).1).length ++ bw
def sH (pk:List UInt8->List (List UInt8)) (A:AD) (a:Nat) (m:MT) (bw:List Wr):AD × Nat:=if (oO m).2=0 then A.eM pk a (Q5 pk A m bw) else (A,(oO m).2)
section
variable {cp:RC->ai} {t:Nat->Option cF} {fuel:Nat} {H:Heap} {pk:List UInt8->List (List UInt8)} {unpk:List (List UInt8)->Option (List UInt8)}
set_option maxRecDepth 4000 in
theorem CP (T:aG t) (hc:bg t) (F:bX pk unpk) (hp:t 123=some (.nat (eD pk))) {dp vp a n bt c z:Nat} {A:AD} {O:Nat->Prop} {m m':MT} {vl vs vi vb:V} {lost:Bool} {bw:List Wr} {fs:List V}
 {Hb:Heap} (f0:ae Hb H) (hD:cU Hb dp A O) (ho:A.off=false) (C:pz A a n) (hA:193<=A.len) (hA2:A.len<=1024) (hV:Hb.get vp = .cells (vc m vl vs vi dp lost)) (hVn:vp<Hb.n) (hVO:¬ O vp) (M:gj Hb (bM O vp) m vl vs vi) (Y:lg m) (Y':lg m')
 (hbw:∀ w ∈ bw,w.1<18446744073709551616/\w.2.1<1000000/\um w.2) (hbl:bw.length<1000) (hbt:H.get bt = .cells fs) (hbn:bt<H.n) (hfl:fs.length<1000) (hf1:∀ f ∈ fs,f.one=true)
 (ht:∀ (G1 G:Heap) (vl1 vs1 vi1:V),ae H G1->MO H G1 m vl1 vs1 vi1->ae G1 G->G.get G1.n = .cells (aS m vl1 vs1 vi1)->G.n=G1.n+1->∃ G' vl2 vs2 vi2,IQ cp t fuel G1.n bt fs G G'/\ae Hb G'/\G1.n<G'.n/\G'.get G1.n = .cells (aS m' vl2 vs2 vi2)/\gj G' (λb=>b<Hb.n) m' vl2 vs2 vi2/\Row G' (bM O vp) vb 2 bw.length (cC bw)) (hfu:1000000<fuel):
 ∃ H' O',(∀ (d:Nat) (k:K),aj (aQ cp t fuel (d+8)) (.func 102 []) [.ptr vp 0,vb,.slice bt 0 fs.length c z] H k=k (.int 3 (sH pk A a m' bw).2) H')/\Step Hb (bM O vp) H' (bM O' vp)/\cU H' dp (sH pk A a m' bw).1 O'/\¬ O' vp/\vp<H'.n/\
  (((sH pk A a m' bw).2=0/\∃ vl2 vs2 vi2,H'.get vp = .cells (vc m' vl2 vs2 vi2 dp lost)/\gj H' (bM O' vp) m' vl2 vs2 vi2/\∀ X:Nat->Prop,(∀ b,X b->b<Hb.n)->gj H' (λb=>X b\/bM O' vp b) m' vl2 vs2 vi2)\/((sH pk A a m' bw).2≠0/\H'.get vp = .cells (vc m vl vs vi dp (lost || ((oO m').2 == 0 && (sH pk A a m' bw).2 == 6)))/\gj H' (bM O' vp) m vl vs vi/\∀ X:Nat->Prop,gj Hb (λb=>X b\/bM O vp b) m vl vs vi->gj H' (λb=>X b\/bM O' vp b) m vl vs vi)):=by
 have hw:=f0.wf
 have m0:=f0.n
 have hWn:∀ b,bM O vp b->b<Hb.n:=λb h=>h.elim (hD.lt b) λh=>by rw [h];exact hVn
 have i1:=λ{id:Nat} {k:R}=>aI M.live.one (id:=id) (k:=k)
 have i2:=λ{id:Nat} {k:R}=>aI (let ⟨_,h,_⟩:=M.ah;h.one) (id:=id) (k:=k)
 have i3:=λ{id:Nat} {k:R}=>aI M.cD.one (id:=id) (k:=k)
 obtain ⟨G1,vl1,vs1,vi1,z1,f1,o1⟩:=LJ (cp:=cp) (fuel:=fuel) T hw (M.fresh f0) Y (by omega)
 obtain ⟨o1a,o1b,o1c⟩:=o1.one
 have j1:=λ{id:Nat} {k:R}=>aI o1a (id:=id) (k:=k)
 have j2:=λ{id:Nat} {k:R}=>aI o1b (id:=id) (k:=k)
 have j3:=λ{id:Nat} {k:R}=>aI o1c (id:=id) (k:=k)
 have w1:=f1.wf
 obtain ⟨G2,hG2,f2,p2,n2⟩:=Heap.aU w1 (.cells [.aB,.aB,.int 7 0,.int 7 0,.int 7 0,.int 7 0,.int 3 0,.int 3 0,.aB])
 have w2:=f2.wf
 have hB2:G1.n<G2.n:=by omega
 obtain ⟨G3,hG3,f3,p3,n3,w3,k3⟩:=Heap.bd (b:=G1.n) f2 (YA _) hB2 (.cells (aS m vl1 vs1 vi1))
 obtain ⟨G4,vl2,vs2,vi2,hT,f4,hB4,p4,M4',R4⟩:=ht G1 G3 vl1 vs1 vi1 f1 o1 f3 p3 (by omega)
 have M4:gj G4 (bM O vp) m' vl2 vs2 vi2:=M4'.kT λb _ h=>hWn b h
 have hbt3:G3.get bt = .cells fs:=(f3.same _ (by have:=f1.n;omega)).trans ((f1.same _ hbn).trans hbt)
 obtain ⟨G5,vS,z5,f5,hS1,hS⟩:=xE (cp:=cp) (fuel:=fuel) T F hp f4.wf M4 Y' (by omega)
 have m1:=f1.n
 have m4:=f4.n
 have m5:=f5.n
 have f45:=f4.trans f5
 have z1:=λ{d:Nat} {k:K}=>z1 (d+4) k
 have z5:=λ{d:Nat} {k:K}=>z5 d k
 have hV':=(f0.same _ hVn).trans hV
 simp only [vc,aS,cg,Yb,YT]at hV'
 have gB4':=p4
 have hVs:∀ {x:eB},Hb.get vp=x->G5.get vp=x:=λh=>(f45.same _ hVn).trans h
 simp only [aS,cg]at z1 hG3 gB4' z5
 have hcz:fs.length<9223372036854775808:=by omega
 unfold sH
 by_cases h0:(oO m').2=0
 .rw [if_pos h0]
  have hS:=hS h0
  have hlen:=Ju h0
  have hsz:=F.size (oO m').1 (by omega)
  rw [h0]at z5
  have h32:=F.len (oO m').1 (by omega)
  generalize hws:Q5 pk A m' bw=ws
  unfold Q5 at hws
  generalize pk (oO m').1=ss at hS hsz h32 hws
  have hSr:Row G5 (bM O vp) vS 1 ss.length (ss.map tv):=hS.toRow λb h=>YE (hWn b h) m4
  have hsS:=λ{id:Nat} {f:Nat->R}=>hS.sn (id:=id) (f:=f)
  have e1:ss.length<9223372036854775808:=by omega
  obtain ⟨G6,vw,f6,hvw,hL⟩:=Kb (cp:=cp) (fuel:=fuel) (B:=G1.n) (vb:=vb) T hc (hD.fresh f45) ho (hVs hV) (by omega) hSr (by omega) hA hA2 ss.length 0 G5 .aB (by omega) (ae.refl f5.wf) Gr.aB
  have hdl:=rR A ss ss.length
  have f46:=f45.trans f6
  have m6:=f6.n
  obtain ⟨vws,G7,hop,hvws,f7,k7⟩:=Gr.grow (x:=vb) f6 hvw (λ{id f}=>R4.nc λb hb _=>(f5.trans f6).same b hb) (by rw [dg]) (λv hv=>R4.2.1 v hv) (by omega)
  have f47:=f45.trans f7
  have gV6:=(f46.same _ hVn).trans hV
  have gV7:=(f47.same _ hVn).trans hV
  have gV6':=gV6
  simp only [vc,aS,cg,Yb,YT]at gV6'
  have hoff:vw = .aB\/∃ b o n c s,vw = .slice b o n c s/\∀ k:R,dM 0 48 b [(3,vp)] k=k:=by
   obtain ⟨_,_,⟨h,_⟩|⟨b,c,s,h,_,_,_,g,_⟩⟩:=hvw
   .exact YG h
   .exact YD ⟨b,0,_,c,s,h,λk=>by rw [Cm,if_neg (by decide),if_neg (by omega),mE]⟩
  rw [<- YC,<- eG,hws]at hvws
  have hws':∀ w ∈ ws,w.1<18446744073709551616/\w.2.1<1000000/\um w.2:=by
   intro w hw
   rw [<- hws]at hw
   rcases Yv.1 hw with h|h
   .obtain ⟨j,hj,rfl⟩:=od h
    have:(ss.getD j []).length=32:=h32 _ (by rw [YH,YB hj];exact Yl _)
    exact ⟨by show 145+j<_;omega,by show (ss.getD j []).length<_;omega,iC _⟩
   .exact hbw w h
  have hwl:ws.length<10000:=by rw [<- hws,YC];omega
  have hwsAt:mB G7 vws ws O:=by
   obtain ⟨p1,p2,⟨p3,p4⟩|⟨b,c,s,p3,p4,p5,p6,p7,p8⟩⟩:=hvws
   .exact YG ⟨p3,YR p4⟩
   .exact YD ⟨b,c,s,p3,p6,p8,λhb=>by have:=hD.lt b hb;omega⟩
  obtain ⟨G8,O8,z8,s8,D8⟩:=tV (cp:=cp) (fuel:=fuel) T hc F hp (hD.fresh f47) C hwsAt hws' hwl (by omega)
  have z8:=λ{d:Nat} {k:K}=>z8 d k
  have hn47:=f47.n
  have hs8:=s8.n
  have hV8:G8.get vp = .cells (vc m vl vs vi dp lost):=(s8.same _ (by omega) hVO).1.trans gV7
  have hVO8:¬ O8 vp:=(s8.same _ (by omega) hVO).2
  have M48:gj G8 (bM O8 vp) m' vl2 vs2 vi2:=(M4.fresh (f5.trans f7)).dm s8.zV
  have M08:gj G8 (bM O8 vp) m vl vs vi:=(M.fresh f47).dm s8.zV
  have s08:Step Hb (bM O vp) G8 (bM O8 vp):=f47.step.trans s8.zV
  have hBO:¬ O G1.n:=λh=>by have:=hD.lt _ h;omega
  have hB8:G8.get G1.n = .cells (aS m' vl2 vs2 vi2):=(s8.same _ (by have:=f7.n;omega) hBO).1.trans (((f5.trans f7).same _ hB4).trans p4)
  have w8:=s8.wf
  have hp8:vp<G8.n:=by omega
  have hV8':=hV8
  simp only [vc,aS,cg,Yb,YT]at hV8'
  have hB8':=hB8
  simp only [aS,cg]at hB8'
  have y1:=λ{id:Nat} {k:R}=>aI M48.live.one (id:=id) (k:=k)
  have y2:=λ{id:Nat} {k:R}=>aI (let ⟨_,h,_⟩:=M48.ah;h.one) (id:=id) (k:=k)
  have y3:=λ{id:Nat} {k:R}=>aI M48.cD.one (id:=id) (k:=k)
  generalize (A.eM pk a ws).2=cd at z8 ⊢
  by_cases c0:cd=0
  .subst c0
   obtain ⟨G9,hG9,-,p9,n9,w9,k9⟩:=Heap.bd (b:=vp) (ae.refl w8 |> λf=>(⟨f.wf,Yd _,λj hj=>absurd hj (WY _),λlo _ h=>by rw [show lo=0 from YG0.1 h];exact Yd _⟩:ae (.mk 0 0 .e) G8)) (Yd _) hp8 (.cells (vc m' vl2 vs2 vi2 dp lost))
   have s9:Step G8 (bM O8 vp) G9 (bM O8 vp):=by rw [<- hG9];exact Step.pQ w8 hp8 (YD rfl)
   refine ⟨G9,O8,λd k=>?_,s08.trans s9,?_,hVO8,by omega,YG ⟨rfl,vl2,vs2,vi2,p9,M48.dm s9,λX hX=>(((M4'.kT λb _ h=>h.elim (hX b) (hWn b)).fresh (f5.trans f7)).dm s8.zV.or).dm s9.or⟩⟩
   .simp only [vc,aS,cg,Yb,YT]at hG9
    rw [aR T.k51 rfl rfl]
    simp only [go_sem,c51,Cz,hV',↓z1,↓j1,↓j2,↓j3,w1,hG2,p2,w2,hB2,hG3]
    simp only [go_sem,CA,hcz]
    refine kJ (cp:=cp) (fuel:=fuel) (vp:=vp) (vb:=vb) (c:=c) (z:=z) T hfl hf1 fs [] G3 G4 rfl hT hbt3 d _ fuel _ (by omega) ?_ ?_ ?_ ?_ ?_ ?_ _ λe' q0 q1 q7=>?_
    .rfl
    .rfl
    .rfl
    .rfl
    .rfl
    .simp only [go_sem,YM]
    simp only [go_sem,CC,CD,q7,gB4',↓z5]
    simp only [go_sem,IY,IZ,↓hsS,e1]
    refine hL (d+4) _ fuel _ (by omega) ?_ ?_ ?_ ?_ ?_ ?_ ?_ _ λe'' q0 q1 q7 q14=>?_
    .exact q0
    .exact q1
    .exact q7
    .rfl
    .rfl
    .rfl
    .rfl
    simp only [go_sem,I0,wv,gH,q0]
    refine (wz (b:=vp) (o:=9) (v:=.ptr dp 0) rfl (by omega) (λk=>by simp only [go_sem,gV6']) (λk=>mE)).trans ?_
    simp only [go_sem,gH,q1,q14]
    refine te (v:=vws) (H':=G7) (w:=vw) rfl hoff (λk=>hop rfl rfl) λst'=>?_
    simp only [go_sem,gH,qJ,↓z8]
    simp only [go_sem,I1,q0,q7,hB8',↓y1,↓y2,↓y3,hV8',w8,hp8,hG9]
    simp only [go_sem,I2,Ar]
   .rw [<- hG9]
    exact (D8.dm (Q:=λb=>b=vp) (Step.pQ w8 hp8 rfl) λb hb e=>hVO8 (by rw [<- e];exact hb)).1
  .by_cases c6:cd=6
   .subst c6
    obtain ⟨G9,hG9,-,p9,n9,w9,k9⟩:=Heap.bd (b:=vp) (ae.refl w8 |> λf=>(⟨f.wf,Yd _,λj hj=>absurd hj (WY _),λlo _ h=>by rw [show lo=0 from YG0.1 h];exact Yd _⟩:ae (.mk 0 0 .e) G8)) (Yd _) hp8 (.cells (vc m vl vs vi dp true))
    have s9:Step G8 (bM O8 vp) G9 (bM O8 vp):=by rw [<- hG9];exact Step.pQ w8 hp8 (YD rfl)
    refine ⟨G9,O8,λd k=>?_,s08.trans s9,?_,hVO8,by omega,YD ⟨c0,?_,M08.dm s9,λX hX=>((hX.fresh f47).dm s8.zV.or).dm s9.or⟩⟩
    .simp only [vc,aS,cg,Yb,YT]at hG9
     rw [aR T.k51 rfl rfl]
     simp only [go_sem,c51,Cz,hV',↓z1,↓j1,↓j2,↓j3,w1,hG2,p2,w2,hB2,hG3]
     simp only [go_sem,CA,hcz]
     refine kJ (cp:=cp) (fuel:=fuel) (vp:=vp) (vb:=vb) (c:=c) (z:=z) T hfl hf1 fs [] G3 G4 rfl hT hbt3 d _ fuel _ (by omega) ?_ ?_ ?_ ?_ ?_ ?_ _ λe' q0 q1 q7=>?_
     .rfl
     .rfl
     .rfl
     .rfl
     .rfl
     .simp only [go_sem,YM]
     simp only [go_sem,CC,CD,q7,gB4',↓z5]
     simp only [go_sem,IY,IZ,↓hsS,e1]
     refine hL (d+4) _ fuel _ (by omega) ?_ ?_ ?_ ?_ ?_ ?_ ?_ _ λe'' q0 q1 q7 q14=>?_
     .exact q0
     .exact q1
     .exact q7
     .rfl
     .rfl
     .rfl
     .rfl
     simp only [go_sem,I0,wv,gH,q0]
     refine (wz (b:=vp) (o:=9) (v:=.ptr dp 0) rfl (by omega) (λk=>by simp only [go_sem,gV6']) (λk=>mE)).trans ?_
     simp only [go_sem,gH,q1,q14]
     refine te (v:=vws) (H':=G7) (w:=vw) rfl hoff (λk=>hop rfl rfl) λst'=>?_
     simp only [go_sem,gH,qJ,↓z8]
     simp only [go_sem,I1,q0,hV8',w8,hp8,hG9]
     simp only [go_sem,I2,Ar]
    .rw [<- hG9]
     exact (D8.dm (Q:=λb=>b=vp) (Step.pQ w8 hp8 rfl) λb hb e=>hVO8 (by rw [<- e];exact hb)).1
    .rw [p9,h0]
     simp
   .refine ⟨G8,O8,λd k=>?_,s08,D8,hVO8,by omega,YD ⟨c0,?_,M08,λX hX=>(hX.fresh f47).dm s8.zV.or⟩⟩
    .rw [aR T.k51 rfl rfl]
     simp only [go_sem,c51,Cz,hV',↓z1,↓j1,↓j2,↓j3,w1,hG2,p2,w2,hB2,hG3]
     simp only [go_sem,CA,hcz]
     refine kJ (cp:=cp) (fuel:=fuel) (vp:=vp) (vb:=vb) (c:=c) (z:=z) T hfl hf1 fs [] G3 G4 rfl hT hbt3 d _ fuel _ (by omega) ?_ ?_ ?_ ?_ ?_ ?_ _ λe' q0 q1 q7=>?_
     .rfl
     .rfl
     .rfl
     .rfl
     .rfl
     .simp only [go_sem,YM]
     simp only [go_sem,CC,CD,q7,gB4',↓z5]
     simp only [go_sem,IY,IZ,↓hsS,e1]
     refine hL (d+4) _ fuel _ (by omega) ?_ ?_ ?_ ?_ ?_ ?_ ?_ _ λe'' q0 q1 q7 q14=>?_
     .exact q0
     .exact q1
     .exact q7
     .rfl
     .rfl
     .rfl
     .rfl
     simp only [go_sem,I0,wv,gH,q0]
     refine (wz (b:=vp) (o:=9) (v:=.ptr dp 0) rfl (by omega) (λk=>by simp only [go_sem,gV6']) (λk=>mE)).trans ?_
     simp only [go_sem,gH,q1,q14]
     refine te (v:=vws) (H':=G7) (w:=vw) rfl hoff (λk=>hop rfl rfl) λst'=>?_
     simp only [go_sem,gH,qJ,↓z8]
     simp only [go_sem,I1,c0,c6]
     simp only [go_sem,I2,Ar]
    .rw [hV8,show (cd == 6)=false from beq_eq_false_iff_ne.2 c6,QQ,QP]
 .rw [if_neg h0]
  generalize (oO m').2=en at z5 h0
  refine ⟨G5,O,λd k=>?_,f45.step,hD.fresh f45,hVO,by omega,YD ⟨h0,?_,M.fresh f45,λX hX=>hX.fresh f45⟩⟩
  .rw [aR T.k51 rfl rfl]
   simp only [go_sem,c51,Cz,hV',↓z1,↓j1,↓j2,↓j3,w1,hG2,p2,w2,hB2,hG3]
   simp only [go_sem,CA,hcz]
   refine kJ (cp:=cp) (fuel:=fuel) (vp:=vp) (vb:=vb) (c:=c) (z:=z) T hfl hf1 fs [] G3 G4 rfl hT hbt3 d _ fuel _ (by omega) ?_ ?_ ?_ ?_ ?_ ?_ _ λe' q0 q1 q7=>?_
   .rfl
   .rfl
   .rfl
   .rfl
   .rfl
   .simp only [go_sem,YM]
   simp only [go_sem,CC,CD,q7,gB4',↓z5]
   simp only [go_sem,h0]
  .rw [hVs hV,show (en == 0)=false from beq_eq_false_iff_ne.2 h0,Qf,QP]
end
end Go.Ev
end
section
namespace Go.Ev
def eK (a b:Gd):Bool:=decide (b.1<a.1) || (decide (a.1=b.1) && decide (b.2<a.2))
def se (m:MT) (block:Nat) (data:List UInt8):Bool:=decide (block<m.live.length) && decide (data.length=32)
section
variable {cp:RC->ai} {t:Nat->Option cF} {fuel:Nat} {H:Heap} {O:Nat->Prop}
theorem FF (T:aG t) {a b:Gd} (hw:H.wf) (ha:jm a) (hb:jm b):
 ∃ H',(∀ (d:Nat) (k:K),aj (aQ cp t fuel (d+1)) (.func 108 []) [.agg (bq a),.agg (bq b)] H k=k (.bool (eK a b)) H')/\ae H H':=by
 obtain ⟨G1,hG1,f1,p1,n1⟩:=Heap.aU hw (.cells (bq a))
 obtain ⟨G2,hG2,f2,p2,n2⟩:=Heap.gO (m:=H.n+1) n1 f1.wf (.cells (bq b))
 have q1:G2.get H.n = .cells (bq a):=(f2.same _ (by omega)).trans p1
 have w1:=f1.wf
 obtain ⟨a1,a2⟩:=a
 obtain ⟨b1,b2⟩:=b
 obtain ⟨u1,u2⟩:=ha
 obtain ⟨u3,u4⟩:=hb
 refine ⟨G2,λd k=>?_,f1.trans f2⟩
 simp only [bq]at hG1 p1 hG2 p2 q1
 rw [aR T.k54 rfl rfl]
 unfold eK
 have g1:=jX u1 u3
 have g2:=jX u2 u4
 have ne:¬ H.n=H.n+1:=by omega
 simp only at g1 g2 ⊢
 by_cases h2:a1=b1
 .subst h2
  have h1:¬ a1<a1:=by omega
  by_cases h3:b2<a2<;>
   simp only [go_sem,c54,bq,hw,hG1,n1,w1,hG2,p2,q1,g1,g2,h1,h3,decide_true,decide_false,YB0,QP,YC2,QQ]
 .by_cases h1:b1<a1<;>by_cases h3:b2<a2<;>
   simp only [go_sem,↓uY,c54,bq,hw,hG1,n1,w1,hG2,p2,q1,g1,h1,h2,h3,decide_true,decide_false,QP,YC2,QQ]
theorem LI (T:aG t) {m:MT} {vl vs vi:V} {vp dp block:Nat} {lost:Bool} {data:List UInt8} (hV:H.get vp = .cells (vc m vl vs vi dp lost)) (M:gj H O m vl vs vi) (hl:m.live.length<1000000) (hb:block<18446744073709551616) (hd:data.length<1000000) (d:Nat) (k:K):
 aj (aQ cp t fuel (d+1)) (.func 98 []) [.ptr vp 0,.int 3 block,tv data] H k=k (.bool (decide (block<9223372036854775808) && se m block data)) H:=by
 simp only [vc,aS,cg,Yb,YT]at hV
 have sn:=λ{id:Nat} {f:Nat->R}=>M.live.sn (id:=id) (f:=f)
 have e1:m.live.length<9223372036854775808:=by omega
 have e2:nn m.live.length:=by unfold nn;omega
 have e3:data.length<9223372036854775808:=by omega
 rw [aR T.k49 rfl rfl]
 unfold se
 simp only [tv]
 by_cases h1:block<9223372036854775808
 .have e4:nn block:=by unfold nn;omega
  by_cases h2:block<m.live.length<;>by_cases h3:data.length=32<;>
   simp only [go_sem,ZE,c49,hV,↓sn,e1,e2,e3,e4,h1,h2,h3,decide_true,decide_false,YC2,QQ,Yd]
 .have e5:¬ dW (.ge 9223372036854775808 18446744073709551616) block 0=true:=by rw [I5];omega
  simp only [go_sem,c49,e5,h1,decide_false,Qf]
theorem px (T:aG t) (hc:bg t) {m:MT} {vl vs vi:V} {vp dp:Nat} {lost:Bool} {A:AD} (hD:cU H dp A O) (hV:H.get vp = .cells (vc m vl vs vi dp lost)) (hVn:vp<H.n) (hVO:¬ O vp):
 ∃ H',(∀ (d:Nat) (k:K),aj (aQ cp t fuel (d+3)) (.func 96 []) [.ptr vp 0] H k=k (.int 3 (if lost=true\/A.off=true then 6 else 0)) H')/\Step H (bM O vp) H' (bM O vp)/\cU H' dp A O/\H'.n=H.n/\H'.get vp = .cells (vc m vl vs vi dp (lost || A.off))/\∀ j,j≠vp->H'.get j=H.get j:=by
 have hw:=hD.wf
 obtain ⟨G,hG,-,p,n,w,k'⟩:=Heap.bd (b:=vp) (ae.refl hw |> λf=>(⟨f.wf,Yd _,λj hj=>absurd hj (WY _),λlo _ h=>by rw [show lo=0 from YG0.1 h];exact Yd _⟩:ae (.mk 0 0 .e) H)) (Yd _) hVn (.cells (vc m vl vs vi dp (lost || A.off)))
 have hon:=λ{d:Nat} {k:K}=>OJ (cp:=cp) (fuel:=fuel) (T.jT hc) (d:=d) (k:=k) hD
 refine ⟨G,λd k=>?_,by rw [<- hG];exact Step.pQ hw hVn (YD rfl),?_,n,p,k'⟩
 .simp only [vc,aS,cg,Yb,YT]at hV hG p
  rw [aR T.k48 rfl rfl]
  generalize hoff:A.off=off at hon hG p
  cases lost<;>cases off<;>
   simp only [Wt,Qh,YB0,QP,YN,or_self,or_true,or_false]at hon hG p ⊢ <;>
   simp only [go_sem,U9,hV,hw,hVn,↓hon,hG,p]
 .rw [<- hG]
  exact (hD.dm (Q:=λb=>b=vp) (Step.pQ hw hVn rfl) λb hb e=>hVO (by rw [<- e];exact hb)).1
def eH (m:MT):Sn:=m.ah.getLast?.getD ⟨(0,0),Yg m.live.length 0,false⟩
end
end Go.Ev
end
section
namespace Go.Ev
def iZ (A:AD) (p:Nat):Tx:=if p=0 then (32,0) else A.read p
section
variable {cp:RC->ai} {t:Nat->Option cF} {fuel:Nat} {H:Heap} {O:Nat->Prop}
end
end Go.Ev
end
section
namespace Go.Ev
def dR (m:MT):List (List Nat):=m.live :: m.tok.cD :: m.ah.map (·.cD)
theorem AU:∀ {cs:List Wr} {i:Nat} {c:Wr},cs[i]? = some c->((cC cs).drop (i*2)).take 2=[.int 3 c.1,.str c.2.1 c.2.2]
 | [],i,c,h=>by simp at h
 | a :: cs,0,c,h=>by
  simp at h
  subst h
  rfl
 | a :: cs,i+1,c,h=>by
  rw [show (i+1)*2=i*2+2 by omega]
  exact AU (cs:=cs) (by simpa using h)
def fy (cs:List Wr):Nat->Nat
 | 0=>0
 | i+1=>fy cs i+(if (cs.getD i (0,(32,0))).2=(32,0) then 0 else 1)
theorem qP (cs:List Wr):∀ i,fy cs i<=i
 | 0=>YA _
 | i+1=>by
  have:=qP cs i
  simp only [fy]
  split<;>omega
theorem xe {cs:List Wr} {i:Nat}:∀ {j:Nat},i<=j->fy cs i<=fy cs j
 | 0,h=>by rw [YG0.1 h];exact YA _
 | j+1,h=>by
  rcases Nat.lt_or_ge i (j+1) with h|h
  .exact Yn (xe (Nat.lt_succ_iff.1 h)) (by simp only [fy];omega)
  .rw [show i=j+1 by omega];exact YA _
def Bv (cs:List Wr) (fr:List Nat):Nat->List Nat
 | 0=>[]
 | i+1=>Bv cs fr i ++ [if (cs.getD i (0,(32,0))).2=(32,0) then 0 else fr.getD (fy cs i) 0]
def El (cs:List Wr) (fr:List Nat):Nat->List Wr
 | 0=>[]
 | i+1=>El cs fr i ++ (if (cs.getD i (0,(32,0))).2=(32,0) then [] else [(fr.getD (fy cs i) 0,(cs.getD i (0,(32,0))).2)])
theorem sf (cs:List Wr) (fr:List Nat):∀ i,(Bv cs fr i).length=i
 | 0=>rfl
 | i+1=>by simp only [Bv,YC,sf cs fr i];rfl
theorem Bx (cs:List Wr) (fr:List Nat):∀ i,(El cs fr i).length=fy cs i
 | 0=>rfl
 | i+1=>by
  simp only [El,fy,YC,Bx cs fr i]
  split<;>rfl
theorem xf {v w:V} (h:∀ b o n c s,w = .slice b o n c s->jM v b):∀ b o n c s,v = .slice b o n c s->jM w b:=λb o n c s e b' o' n' c' s' e' he=>h _ _ _ _ _ e' _ _ _ _ _ e he.symm
section
variable {cp:RC->ai} {t:Nat->Option cF} {fuel:Nat} {H:Heap} {O:Nat->Prop}
theorem Ku (T:aG t) {vp:Nat} {vl vi vs vx:V} {ss:List Sn} {G0:Heap} {v0:V} (hS:ib H O vs ss) (hn:ss.length<1000) (f0:ae H G0) (o0:Own H G0 v0 1 2 [vl,vi]) (hfu:1000<fuel):
 ∃ G' v' ns,ae H G'/\Own H G' v' 1 (2+ss.length) (vl :: vi :: ns)/\(∀ (j:Nat) (s:Sn),ss[j]? = some s->∃ x,ns[j]? = some x/\dh H O x s.cD)/\∀ (d:Nat) (kx:Nat->KE) (e:Env) (x:R),aa s000 e = .ptr vp 0->aa s001 e=vx->aa s004 e = .aB->aa s005 e = .aB->aa s007 e=v0->aa s042 e=vs->aa s043 e = .int 3 ss.length->aa s044 e = .int 3 0->
  (∀ e',aa s000 e' = .ptr vp 0->aa s001 e'=vx->aa s004 e' = .aB->aa s005 e' = .aB->aa s007 e'=v'->kx 1 e' G'=x)->jF Cx fuel (aQ cp t fuel d) kx fuel e G0=x:=by
 have nl:nn ss.length:=by unfold nn;omega
 obtain ⟨⟨ns,v'⟩,G',⟨f',o',nl',hx'⟩,z⟩:=bV (c:=Cx) (fuel:=fuel) (ph:=λd=>aQ cp t fuel d) (σ:=List V × V) (n:=ss.length)
  (I:=λi s G=>ae H G/\Own H G s.2 1 (2+i) (vl :: vi :: s.1)/\s.1.length=i/\∀ (j:Nat) (q:Sn),j<i->ss[j]? = some q->∃ x,s.1[j]? = some x/\dh H O x q.cD)
  (S:=λi s e=>aa s000 e = .ptr vp 0/\aa s001 e=vx/\aa s004 e = .aB/\aa s005 e = .aB/\aa s007 e=s.2/\aa s042 e=vs/\aa s043 e = .int 3 ss.length/\aa s044 e = .int 3 i) (λi s G hil ⟨f,o,hl,hx⟩=>by
   obtain ⟨ns,v⟩:=s
   obtain ⟨b,ob,c,z,y,rfl,hbn,-,hy,hrd⟩:=hS.open hil
   have hsi:ss[i]? = some ss[i]:=YB hil
   have hrd:=λ{id:Nat} {k:List V->R}=>hrd (f.same _ hbn) (id:=id) (k:=k)
   generalize ss[i]=s at hsi hy hrd
   have w0:=f.wf
   obtain ⟨G1,hG1,f1,p1,n1⟩:=Heap.aU w0 (.cells [.int 7 0,.int 7 0,.aB,.bool false])
   obtain ⟨G2,hG2,f2,p2,n2,w2,k2⟩:=Heap.bd (b:=G.n) f1 (YA _) (by omega) (.cells (bQ s y))
   obtain ⟨G3,hG3,f3,p3,n3⟩:=Heap.aU w2 (.cells [y])
   have f03:=(f.trans f2).trans f3
   obtain ⟨v',G4,hap,o4,f4,-⟩:=Own.app (w:=v) (x:=.slice G2.n 0 1 2 0) (m:=1) (new:=[y]) f03 ((o.fresh f2).fresh f3) (λ{id f}=>kh p3 rfl) rfl (λx hx=>by rw [YO.1 hx];exact hy.one) (by omega)
   have i1:=λ{id:Nat} {k:R}=>aI hy.one (id:=id) (k:=k)
   have cx:=λ{id:Nat} {f:List V->R}=>zQ hy.one (id:=id) (f:=f)
   have w1:=f1.wf
   have a1:nn i:=by unfold nn;omega
   have a2:i<9223372036854775808:=by omega
   have a3:(i+1)%18446744073709551616=i+1:=by omega
   have a4:G.n<G1.n:=by omega
   refine ⟨(ns ++ [y],v'),G4,⟨f4,by have:=o4;rwa [show 2+i+1=2+(i+1) by omega]at this,by simp [hl],λj q hj hq=>?_⟩,λd kx r e x ⟨q0,q1,q4,q5,q7,q42,q43,q44⟩ hk=>?_⟩
   .show ∃ x,(ns ++ [y])[j]? = some x/\_
    have hl':ns.length=i:=hl
    by_cases hji:j<i
    .obtain ⟨x,b1,b2⟩:=hx j q hji hq
     exact ⟨x,by rw [Ym (by omega)];exact b1,b2⟩
    .obtain rfl:j=i:=by omega
     rw [hsi]at hq
     cases hq
     exact ⟨y,by rw [Yt (by omega),hl',Nat.sub_self];rfl,hy⟩
   .simp only [bQ]at hG2 p2 hrd
    rw [ak]
    simp only [go_sem,Cx,q7,q42,q43,q44,hil,nl,a1,a2,a3,a4,↓hrd,w0,hG1,p1,w1,hG2,p2,↓i1,↓cx,w2,hG3,↓hap]
    refine hk _ ?_
    simp only [go_sem,q0,q1,q4,q5,q42,q43,and_self]) ss.length 0 ([],v0) G0 (by omega) ⟨f0,o0,rfl,λj s hj=>by omega⟩
 refine ⟨G',v',ns,f',o',λj s hs=>hx' j s (YX.1 hs).1 hs,λd kx e x q0 q1 q4 q5 q7 q42 q43 q44 hk=>z d kx fuel e x (by omega) ⟨q0,q1,q4,q5,q7,q42,q43,q44⟩ λr e' ⟨q0,q1,q4,q5,q7,q42,q43,q44⟩=>?_⟩
 have e6:¬ ss.length<ss.length:=by omega
 rw [ak]
 simp only [go_sem,Cx,q43,q44,nl,e6]
 exact hk _ q0 q1 q4 q5 q7
theorem TA (T:aG t) {vx vcn:V} {cs:List Wr} {G0:Heap} (hX:Row H O vx 2 cs.length (cC cs)) (hn:cs.length<1000) (f0:ae H G0) (hfu:1000<fuel):
 ∃ G',ae H G'/\ae G0 G'/\∀ (d:Nat) (kx:Nat->KE) (e:Env) (x:R),aa s001 e=vx->aa s004 e = .aB->aa s005 e = .aB->aa s012 e=vcn->aa s013 e = .str 32 0->aa s014 e = .int 3 0->aa s075 e=vx->aa s076 e = .int 3 cs.length->aa s077 e = .int 3 0->
  (∀ e',aa s001 e'=vx->aa s004 e' = .aB->aa s005 e' = .aB->aa s012 e'=vcn->aa s013 e' = .str 32 0->aa s014 e' = .int 3 (fy cs cs.length)->kx 3 e' G'=x)->jF yr fuel (aQ cp t fuel d) kx fuel e G0=x:=by
 have nl:nn cs.length:=by unfold nn;omega
 obtain ⟨_,G',⟨f',f0'⟩,z⟩:=bV (c:=yr) (fuel:=fuel) (ph:=λd=>aQ cp t fuel d) (σ:=Unit) (n:=cs.length)
  (I:=λi _ G=>ae H G/\ae G0 G)
  (S:=λi _ e=>aa s001 e=vx/\aa s004 e = .aB/\aa s005 e = .aB/\aa s012 e=vcn/\aa s013 e = .str 32 0/\aa s014 e = .int 3 (fy cs i)/\aa s075 e=vx/\aa s076 e = .int 3 cs.length/\aa s077 e = .int 3 i) (λi _ G hil ⟨f,f0⟩=>by
   have hsi:cs[i]? = some cs[i]:=YB hil
   have hgd:cs.getD i (0,(32,0))=cs[i]:=by rw [YH,hsi];rfl
   have hnz:fy cs (i+1)=fy cs i+(if cs[i].2=(32,0) then 0 else 1):=by rw [<- hgd];rfl
   have hle:=qP cs i
   have bC:=AU hsi
   obtain ⟨b,ob,c,z,hvx,hbn,-,hrd⟩:=hX.open hil
   have hrd:=λ{id:Nat} {k:List V->R}=>(hrd (f.same _ hbn)).1 (id:=id) (k:=k)
   rw [bC]at hrd
   generalize cs[i]=w at hnz hrd
   obtain ⟨wb,wl,wn⟩:=w
   have w0:=f.wf
   obtain ⟨G1,hG1,f1,p1,n1⟩:=Heap.aU w0 (.cells [.int 3 0,.str 0 0])
   obtain ⟨G2,hG2,f2,p2,n2,w2,k2⟩:=Heap.bd (b:=G.n) f1 (YA _) (by omega) (.cells [.int 3 wb,.str wl wn])
   have w1:=f1.wf
   have a1:nn i:=by unfold nn;omega
   have a2:i<9223372036854775808:=by omega
   have a3:(i+1)%18446744073709551616=i+1:=by omega
   have a4:G.n<G1.n:=by omega
   have a5:(fy cs i+1)%18446744073709551616=fy cs i+1:=by omega
   refine ⟨(),G2,⟨f.trans f2,f0.trans f2⟩,λd kx r e x ⟨q1,q4,q5,q12,q13,q14,q75,q76,q77⟩ hk=>?_⟩
   subst hvx
   by_cases hz:wl=32/\wn=0
   .obtain ⟨rfl,rfl⟩:=hz
    rw [if_pos rfl,WD]at hnz
    rw [ak]
    simp only [go_sem,yr,q13,q75,q76,q77,hil,nl,a1,a2,a3,a4,↓hrd,w0,hG1,p1,w1,hG2,p2,and_self]
    exact hk _ (by simp only [go_sem,q1,q4,q5,q12,q13,q14,q75,q76,hnz,and_self])
   .have hz':(wl=32/\wn=0)=False:=eq_false hz
    rw [if_neg (λh=>hz ⟨congrArg YP3 h,congrArg YP4 h⟩)]at hnz
    rw [ak]
    simp only [go_sem,yr,q13,q14,q75,q76,q77,hil,nl,a1,a2,a3,a4,a5,↓hrd,w0,hG1,p1,w1,hG2,p2,hz']
    exact hk _ (by simp only [go_sem,q1,q4,q5,q12,q13,q75,q76,hnz,and_self])) cs.length 0 () G0 (by omega) ⟨f0,ae.refl f0.wf⟩
 refine ⟨G',f',f0',λd kx e x q1 q4 q5 q12 q13 q14 q75 q76 q77 hk=>z d kx fuel e x (by omega) ⟨q1,q4,q5,q12,q13,q14,q75,q76,q77⟩ λr e' ⟨q1,q4,q5,q12,q13,q14,q75,q76,q77⟩=>?_⟩
 have e6:¬ cs.length<cs.length:=by omega
 rw [ak]
 simp only [go_sem,yr,q76,q77,nl,e6]
 exact hk _ q1 q4 q5 q12 q13 q14
end
end Go.Ev
end
section
namespace Go.Ev
section
variable {cp:RC->ai} {t:Nat->Option cF} {fuel:Nat} {H:Heap} {O:Nat->Prop}
theorem O4 (T:aG t) {vx vf:V} {cs:List Wr} {fr:List Nat} (hw:H.wf) (hX:Row H O vx 2 cs.length (cC cs)) (hF:dh H O vf fr) (hfl:fr.length=fy cs cs.length) (hn:cs.length<1000) (hfu:1000<fuel):
 ∃ G' va vw,ae H G'/\Own H G' va 1 cs.length ((Bv cs fr cs.length).map (V.int 3))/\Own H G' vw 2 (fy cs cs.length) (cC (El cs fr cs.length))/\∀ (d:Nat) (kx:Nat->KE) (e:Env) (x:R),aa s004 e = .aB->aa s005 e = .aB->aa s013 e = .str 32 0->aa s017 e=vf->aa s123 e=vx->aa s124 e = .int 3 cs.length->aa s125 e = .int 3 0->
  (∀ e',aa s004 e'=va->aa s005 e'=vw->kx 5 e' G'=x)->jF yu fuel (aQ cp t fuel d) kx fuel e H=x:=by
 have nl:nn cs.length:=by unfold nn;omega
 obtain ⟨⟨va,vw⟩,G',⟨f',oa',ow',-⟩,z⟩:=bV (c:=yu) (fuel:=fuel) (ph:=λd=>aQ cp t fuel d) (σ:=V × V) (n:=cs.length)
  (I:=λi s G=>ae H G/\Own H G s.1 1 i ((Bv cs fr i).map (V.int 3))/\Own H G s.2 2 (fy cs i) (cC (El cs fr i))/\∀ b o n c z,s.2 = .slice b o n c z->jM s.1 b)
  (S:=λi s e=>aa s004 e=s.1/\aa s005 e=s.2/\aa s013 e = .str 32 0/\aa s017 e=vf/\aa s123 e=vx/\aa s124 e = .int 3 cs.length/\aa s125 e = .int 3 i) (λi s G hil ⟨f,oa,ow,oo⟩=>by
   obtain ⟨va,vw⟩:=s
   have oo:∀ b o n c z,vw = .slice b o n c z->jM va b:=oo
   have oa:Own H G va 1 i ((Bv cs fr i).map (V.int 3)):=oa
   have ow:Own H G vw 2 (fy cs i) (cC (El cs fr i)):=ow
   have hsi:cs[i]? = some cs[i]:=YB hil
   have hgd:cs.getD i (0,(32,0))=cs[i]:=by rw [YH,hsi];rfl
   have hnz:fy cs (i+1)=fy cs i+(if cs[i].2=(32,0) then 0 else 1):=by rw [<- hgd];rfl
   have hpa:Bv cs fr (i+1)=Bv cs fr i ++ [if cs[i].2=(32,0) then 0 else fr.getD (fy cs i) 0]:=by rw [<- hgd];rfl
   have hpw:El cs fr (i+1)=El cs fr i ++ (if cs[i].2=(32,0) then [] else [(fr.getD (fy cs i) 0,cs[i].2)]):=by rw [<- hgd];rfl
   have hle:=qP cs i
   have hmo:=xe (cs:=cs) (show i+1<=cs.length by omega)
   have bC:=AU hsi
   obtain ⟨b,ob,c,z,hvx,hbn,-,hrd⟩:=hX.open hil
   have hrd:=λ{id:Nat} {k:List V->R}=>(hrd (f.same _ hbn)).1 (id:=id) (k:=k)
   rw [bC]at hrd
   generalize cs[i]=w at hnz hrd hpa hpw
   obtain ⟨wb,wl,wn⟩:=w
   have w0:=f.wf
   obtain ⟨G1,hG1,f1,p1,n1⟩:=Heap.aU w0 (.cells [.int 3 0,.str 0 0])
   obtain ⟨G2,hG2,f2,p2,n2,w2,k2⟩:=Heap.bd (b:=G.n) f1 (YA _) (by omega) (.cells [.int 3 wb,.str wl wn])
   have w1:=f1.wf
   have a1:nn i:=by unfold nn;omega
   have a2:i<9223372036854775808:=by omega
   have a3:(i+1)%18446744073709551616=i+1:=by omega
   have a4:G.n<G1.n:=by omega
   by_cases hz:wl=32/\wn=0
   .obtain ⟨rfl,rfl⟩:=hz
    rw [if_pos rfl]at hpa
    rw [if_pos rfl,YV]at hpw
    rw [if_pos rfl,WD]at hnz
    obtain ⟨G3,hG3,f3,p3,n3⟩:=Heap.aU w2 (.cells [.int 3 0])
    obtain ⟨va',G4,hap,oa4,f4,k4,n4,off4⟩:=Own.app (w:=va) (x:=.slice G2.n 0 1 2 0) (m:=1) (new:=[.int 3 0]) ((f.trans f2).trans f3) ((oa.fresh f2).fresh f3) (λ{id f}=>kh p3 rfl) rfl (λx hx=>by rw [YO.1 hx];rfl) (by omega)
    refine ⟨(va',vw),G4,⟨f4,by rw [hpa,WE];exact oa4,by rw [hnz,hpw];exact ((ow.fresh f2).fresh f3).eQ n4 k4 oo,λb o n c z e=>off4 b (by have:=(ow.cO e).2;omega) (oo _ _ _ _ _ e)⟩,λd kx r e x ⟨q4,q5,q13,q17,q123,q124,q125⟩ hk=>?_⟩
    subst hvx
    rw [ak]
    simp only [go_sem,yu,q4,q13,q123,q124,q125,hil,nl,a1,a2,a3,a4,↓hrd,w0,hG1,p1,w1,hG2,p2,and_self,w2,hG3,↓hap]
    exact hk _ (by simp only [go_sem,q5,q13,q17,q123,q124,and_self])
   .have hz':(wl=32/\wn=0)=False:=eq_false hz
    have hz2:¬ ((wl,wn):Tx)=(32,0):=λh=>hz ⟨congrArg YP3 h,congrArg YP4 h⟩
    rw [if_neg hz2]at hpa hpw hnz
    have hj:fy cs i<fr.length:=by omega
    obtain ⟨fb,fo,fc,fz,rfl,Jl,-,hfr⟩:=hF.open hj
    have hfr2:=λ{id:Nat} {k:V->R}=>hfr ((f.trans f2).same _ Jl) (id:=id) (k:=k)
    have hfd:fr.getD (fy cs i) 0=fr[fy cs i]:=by rw [YH,YB hj];rfl
    rw [hfd]at hpa hpw
    generalize fr[fy cs i]=q at hpa hpw hfr hfr2
    obtain ⟨G3,hG3,f3,p3,n3⟩:=Heap.aU w2 (.cells [.int 3 q])
    obtain ⟨va',G4,hap,oa4,f4,k4,n4,off4⟩:=Own.app (w:=va) (x:=.slice G2.n 0 1 2 0) (m:=1) (new:=[.int 3 q]) ((f.trans f2).trans f3) ((oa.fresh f2).fresh f3) (λ{id f}=>kh p3 rfl) rfl (λx hx=>by rw [YO.1 hx];rfl) (by omega)
    have ow4:=((ow.fresh f2).fresh f3).eQ n4 k4 oo
    have p4:G4.get G.n = .cells [.int 3 wb,.str wl wn]:=(k4 _ (by omega) (oa.Br (YA _))).trans ((f3.same _ (by omega)).trans p2)
    have hfr4:=λ{id:Nat} {k:V->R}=>hfr (f4.same _ Jl) (id:=id) (k:=k)
    have oo4:∀ b o n c z,vw = .slice b o n c z->jM va' b:=λb o n c z e=>off4 b (by have:=(ow.cO e).2;omega) (oo _ _ _ _ _ e)
    obtain ⟨G5,hG5,f5,p5,n5⟩:=Heap.aU f4.wf (.cells [.int 3 q,.str wl wn])
    have f45:=f4.trans f5
    obtain ⟨vw',G6,hap6,ow6,f6,k6,n6,off6⟩:=Own.app (w:=vw) (x:=.slice G4.n 0 1 2 0) (m:=1) (new:=[.int 3 q,.str wl wn]) f45 (ow4.fresh f5) (λ{id f}=>kh p5 rfl) rfl (λx hx=>by rcases YP.1 hx with rfl|hx;rfl;rw [YO.1 hx];rfl) (by omega)
    have sw:=λ{id:Nat} {f:Nat->R}=>ow.sn (id:=id) (f:=f)
    have w4:=f4.wf
    have w5:=f5.wf
    have a5:nn (fy cs i):=by unfold nn;omega
    have a6:fy cs i<9223372036854775808:=by omega
    have hle2:=qP cs cs.length
    have a7:nn fr.length:=by unfold nn;omega
    refine ⟨(va',vw'),G6,⟨f6,?_,by rw [hnz,hpw,eG];exact ow6,?_⟩,λd kx r e x ⟨q4,q5,q13,q17,q123,q124,q125⟩ hk=>?_⟩
    .rw [hpa,WE]
     exact (oa4.fresh f5).eQ n6 k6 (xf oo4)
    .exact xf λb o n c z e=>off6 b (by have:=(oa4.cO e).2;omega) (xf oo4 _ _ _ _ _ e)
    subst hvx
    rw [ak]
    simp only [go_sem,yu,q4,q5,q13,q17,q123,q124,q125,hil,hj,nl,a1,a2,a3,a4,a6,↓hrd,w0,hG1,p1,w1,hG2,p2,hz',↓sw,↓hfr2,w2,hG3,↓hap,↓hfr4,p4,w4,hG5,↓hap6]
    exact hk _ (by simp only [go_sem,q13,q17,q123,q124,and_self])) cs.length 0 (.aB,.aB) H (by omega) ⟨ae.refl hw,Own.nil,Own.nil,λb o n c z e=>by cases e⟩
 refine ⟨G',va,vw,f',oa',ow',λd kx e x q4 q5 q13 q17 q123 q124 q125 hk=>z d kx fuel e x (by omega) ⟨q4,q5,q13,q17,q123,q124,q125⟩ λr e' ⟨q4,q5,q13,q17,q123,q124,q125⟩=>?_⟩
 have e6:¬ cs.length<cs.length:=by omega
 rw [ak]
 simp only [go_sem,yu,q124,q125,nl,e6]
 exact hk _ q4 q5
end
end Go.Ev
end
section
namespace Go.Ev
open Go.Proofs
def gA (m:MT) (n:Nat):List Nat:=qb n (nz (dR m).flatten)
section
variable {t:Nat->Option cF} {fuel:Nat} {H:Heap} {O Q:Nat->Prop}
set_option maxRecDepth 4000 in
theorem HK (T:aG t) (hc:bg t) {m:MT} {vl vs vi vx:V} {vp dp:Nat} {lost:Bool} {A:AD} {cs:List Wr} (hD:cU H dp A O) (hV:H.get vp = .cells (vc m vl vs vi dp lost)) (hVn:vp<H.n) (M:gj H Q m vl vs vi) (Y:lg m) (hX:Row H Q vx 2 cs.length (cC cs)) (hn:cs.length<1000) (hA:A.len<=1024)
 (hok:∀ l ∈ dR m,∀ a ∈ l,a≠0->193<=a/\a<A.len) (hQ:∀ b,Q b->b<H.n) (hfl:(dR m).flatten.length<1000000) (hfu:1000000<fuel):
 ∃ H' va vw,(∀ (d:Nat) (k:K),aj (aQ (aO Tryz.prog) t fuel (d+5)) (.func 100 []) [.ptr vp 0,vx] H k=k (.cV [va,vw,.int 3 (if (dw (gA m A.len)).length<fy cs cs.length then 7 else 0)]) H')/\ae H H'/\va.one=true/\vw.one=true/\
  (¬ (dw (gA m A.len)).length<fy cs cs.length->Own H H' va 1 cs.length ((Bv cs ((dw (gA m A.len)).take (fy cs cs.length)) cs.length).map (V.int 3))/\Own H H' vw 2 (fy cs cs.length) (cC (El cs ((dw (gA m A.len)).take (fy cs cs.length)) cs.length))):=by
 have hw:=hD.wf
 have l1:=Y.live.1
 have l2:=Y.num
 have l3:=Y.tok.2.2.2.2.1
 obtain ⟨Ml,Ms,Mi⟩:=M
 have j1:=λ{id:Nat} {k:R}=>aI Ml.one (id:=id) (k:=k)
 have j2:=λ{id:Nat} {k:R}=>aI Mi.one (id:=id) (k:=k)
 have x1:=λ{id:Nat} {f:List V->R}=>zQ Ml.one (id:=id) (f:=f)
 have x2:=λ{id:Nat} {f:List V->R}=>zQ Mi.one (id:=id) (f:=f)
 have sn:=λ{id:Nat} {f:Nat->R}=>(let ⟨_,h,_⟩:=Ms;h.sn (id:=id) (f:=f):bh id vs (λ_ _ len _ _=>f len) (f 0)=f m.ah.length)
 have sx:=λ{id:Nat} {f:Nat->R}=>hX.sn (id:=id) (f:=f)
 have hV':=hV
 simp only [vc,aS,cg,Yb,YT]at hV'
 obtain ⟨G1,hG1,f1,p1,n1⟩:=Heap.aU hw (.cells [vl,vi])
 have o1:Own H G1 (.slice H.n 0 2 3 0) 1 2 [vl,vi]:=⟨rfl,λx hx=>by rcases YP.1 hx with rfl|hx;exact Ml.one;rw [YO.1 hx];exact Mi.one,YD ⟨_,_,_,[],rfl,p1,YG rfl,YA _,by omega⟩⟩
 obtain ⟨G2,vg,ns,f2,o2,hns,zi⟩:=Ku (cp:=aO Tryz.prog) (fuel:=fuel) (vp:=vp) (vx:=vx) T Ms l2 f1 o1 (by omega)
 have hV1:=(f1.same _ hVn).trans hV'
 have hV2:=(f2.same _ hVn).trans hV'
 have hims:LY G2 Q vg (dR m):=by
  refine ⟨vl :: vi :: ns,?_,λi l hl=>?_⟩
  .have:=o2.toRow hQ
   rwa [show 2+m.ah.length=(dR m).length by simp [dR];omega]at this
  .match i,hl with
   | 0,hl=>cases hl;exact ⟨vl,rfl,Ml.fresh f2⟩
   | 1,hl=>cases hl;exact ⟨vi,rfl,Mi.fresh f2⟩
   | i+2,hl=>
    have hl:(m.ah.map (·.cD))[i]? = some l:=hl
    rw [Yj]at hl
    obtain ⟨s,hs,rfl⟩:=Option.map_eq_some_iff.1 hl
    obtain ⟨x,hx,hI⟩:=hns i s hs
    exact ⟨x,hx,hI.fresh f2⟩
 have hlen:∀ l ∈ dR m,l.length<1000000:=λl hl=>by
  have:l.length<=(dR m).flatten.length:=(List.sublist_flatten_of_mem hl).length_le
  omega
 have zl:=λ{d:Nat} {k:K}=>sd (cp:=aO Tryz.prog) (fuel:=fuel) (T.jT hc) (d:=d) (k:=k) (hD.fresh f2)
 obtain ⟨G3,vcn,zc,f3,o3⟩:=CW (t:=t) (fuel:=fuel) T f2.wf hims (by simp [dR];omega) hlen hfu hA hok hfl
 have zc:=λ{d:Nat} {k:K}=>zc d k
 have w3:=f3.wf
 obtain ⟨G4,hG4,f4,p4,n4⟩:=Heap.aU w3 (.bytes 32 0)
 have f24:=f2.trans (f3.trans f4)
 obtain ⟨G5,f5,f45,zn⟩:=TA (cp:=aO Tryz.prog) (fuel:=fuel) (vcn:=vcn) T hX hn f24 (by omega)
 have hcn:dh G5 Q vcn (gA m A.len):=((o3.toRow (O:=Q) λb h=>YE (hQ b h) f2.n).fresh (f4.trans f45):Row G5 Q vcn 1 A.len _) |> λh=>by
  unfold dh gA
  rw [dO]
  exact h
 have hnle:=qP cs cs.length
 obtain ⟨G6,vf,zt,f6,o6⟩:=Ur (t:=t) (fuel:=fuel) (n:=fy cs cs.length) T f5.wf hcn (by unfold gA;rw [dO];omega) hfu (by omega)
 have zt:=λ{d:Nat} {k:K}=>zt d k
 have e1:m.ah.length<9223372036854775808:=by omega
 have e2:cs.length<9223372036854775808:=by omega
 by_cases hlt:(dw (gA m A.len)).length<fy cs cs.length
 .rw [if_pos hlt]at zt ⊢
  refine ⟨G6,.aB,.aB,λd k=>?_,f5.trans f6,rfl,rfl,λh=>absurd hlt h⟩
  rw [aR T.k50 rfl rfl]
  simp only [go_sem,c50,ME,hV',↓j1,↓j2,↓x1,↓x2,hw,hG1]
  simp only [go_sem,MI,hV1,↓sn,e1]
  refine zi (d+4) _ _ _ ?_ ?_ ?_ ?_ ?_ ?_ ?_ ?_ λe' q0 q1 q4 q5 q7=>?_
  .rfl
  .rfl
  .rfl
  .rfl
  .rfl
  .rfl
  .rfl
  .rfl
  simp only [go_sem,MJ,q0,q7,hV2,↓zl,↓zc]
  simp only [go_sem,MK,ML,MM,MN,q1,w3,hG4,p4,↓sx,e2]
  refine zn (d+4) _ _ _ ?_ ?_ ?_ ?_ ?_ ?_ ?_ ?_ ?_ λe' q1 q4 q5 q12 q13 q14=>?_
  .exact q1
  .exact q4
  .exact q5
  .rfl
  .rfl
  .rfl
  .rfl
  .rfl
  .rfl
  simp only [go_sem,MP,q12,q14,↓zt]
  simp only [go_sem,MQ]
 .rw [if_neg hlt]at zt ⊢
  have o6:=o6 hlt
  have hfrl:((dw (gA m A.len)).take (fy cs cs.length)).length=fy cs cs.length:=by rw [Yp];omega
  generalize (dw (gA m A.len)).take (fy cs cs.length)=fr at o6 hfrl ⊢
  obtain ⟨G7,va,vw,f7,oa,ow,zp⟩:=O4 (cp:=aO Tryz.prog) (fuel:=fuel) (vf:=vf) (fr:=fr) T f6.wf (hX.fresh (f5.trans f6)) (by unfold dh;rw [hfrl];exact o6.toRow λb h=>YE (hQ b h) f5.n) hfrl hn (by omega)
  have f56:=f5.trans f6
  refine ⟨G7,va,vw,λd k=>?_,f56.trans f7,oa.one,ow.one,λ_=>⟨oa.sub f56.n,ow.sub f56.n⟩⟩
  rw [aR T.k50 rfl rfl]
  simp only [go_sem,c50,ME,hV',↓j1,↓j2,↓x1,↓x2,hw,hG1]
  simp only [go_sem,MI,hV1,↓sn,e1]
  refine zi (d+4) _ _ _ ?_ ?_ ?_ ?_ ?_ ?_ ?_ ?_ λe' q0 q1 q4 q5 q7=>?_
  .rfl
  .rfl
  .rfl
  .rfl
  .rfl
  .rfl
  .rfl
  .rfl
  simp only [go_sem,MJ,q0,q7,hV2,↓zl,↓zc]
  simp only [go_sem,MK,ML,MM,MN,q1,w3,hG4,p4,↓sx,e2]
  refine zn (d+4) _ _ _ ?_ ?_ ?_ ?_ ?_ ?_ ?_ ?_ ?_ λe' q1 q4 q5 q12 q13 q14=>?_
  .exact q1
  .exact q4
  .exact q5
  .rfl
  .rfl
  .rfl
  .rfl
  .rfl
  .rfl
  simp only [go_sem,MP,q12,q14,↓zt]
  simp only [go_sem,MQ,MF,q1,↓sx,e2]
  refine zp (d+4) _ _ _ ?_ ?_ ?_ ?_ ?_ ?_ ?_ λe' q4 q5=>?_
  .exact q4
  .exact q5
  .exact q13
  .rfl
  .rfl
  .rfl
  .rfl
  simp only [go_sem,MG,MH,q4,q5]
end
end Go.Ev
end
section
namespace Go.Ev
structure TS (H G:Heap) (B:Nat) (m:MT) (vl vs vi:V):Prop where
 f:ae H G
 g:G.get B = .cells (aS m vl vs vi)
 hi:B<G.n
 base:∃ G1,ae H G1/\MO H G1 m vl vs vi/\G1.n<=B/\ae G1 G
theorem MO.fresh {H G G':Heap} {m:MT} {vl vs vi:V} (h:MO H G m vl vs vi) (f:ae G G'):MO H G' m vl vs vi:=⟨h.live.fresh f,let ⟨xs,s⟩:=h.ah; ⟨xs,s.1.fresh f,s.2.1,λi q hq=>let ⟨x,a,b,c⟩:=s.2.2 i q hq; ⟨x,a,b.fresh f,c⟩⟩,h.cD.fresh f,h.dl,h.di⟩
theorem TS.of {H G1 G:Heap} {m:MT} {vl vs vi:V} (f1:ae H G1) (o:MO H G1 m vl vs vi) (f:ae G1 G) (g:G.get G1.n = .cells (aS m vl vs vi)) (n:G.n=G1.n+1):TS H G G1.n m vl vs vi:=⟨f1.trans f,g,by omega,G1,f1,o,YA _,f⟩
theorem TS.mo {H G:Heap} {B:Nat} {m:MT} {vl vs vi:V} (h:TS H G B m vl vs vi):MO H G m vl vs vi:=let ⟨_,_,o,_,f⟩:=h.base;o.fresh f
theorem TS.lo {H G:Heap} {B:Nat} {m:MT} {vl vs vi:V} (h:TS H G B m vl vs vi):H.n<=B:=let ⟨_,f,_,n,_⟩:=h.base;Yn f.n n
def rj:Tk:=⟨(0,0),(0,0),0,0,[]⟩
theorem tc:∀ {ss} {xs} {s} {x},xs.length=ss.length->dG (ss ++ [s]) (xs ++ [x])=dG ss xs ++ bQ s x
 | [],[],s,x,_=>by rfl
 | [],_ :: _,_,_,h=>by simp_all
 | _ :: _,[],_,_,h=>by simp_all
 | a :: ss,b :: xs,s,x,h=>by
  show bQ a b ++ dG (ss ++ [s]) (xs ++ [x])=_
  rw [tc (by simp_all),<- List.append_assoc]
  rfl
theorem Ki:∀ {ss} {xs} {i} {s},ss[i]? = some s->xs.length=ss.length->(dG ss xs).set (i*4+3) (.bool true)=dG (ss.set i {s with hid:=true }) xs
 | [],_,i,_,h,_=>by rfl
 | _ :: _,[],i,_,_,h=>by simp_all
 | a :: ss,b :: xs,0,s,h,_=>by
  simp at h
  subst h
  rfl
 | a :: ss,b :: xs,i+1,s,h,h'=>by
  rw [show (i+1)*4+3=(i*4+3)+4 by omega]
  show bQ a b ++ (dG ss xs).set (i*4+3) (.bool true)=_
  rw [Ki (by simpa using h) (by simp_all)]
  rfl
theorem Heap.Oo {H:Heap} (hw:H.wf) (x:eB):∃ Gm G,H.mark.new x=Gm/\Gm.dY H.bj=G/\H.n<=Gm.bj/\ae H G/\G.get H.n=x/\G.n=H.n+1:=by
 have hm:H.mark.wf:=by rw [Heap.dV];exact hw
 have f:=ae.new hm (x:=x)
 refine ⟨_,_,rfl,rfl,f.dY.2,f.dY.1,?_,?_⟩
 .show (H.mark.new x).get H.mark.n=x
  rw [Heap.aE hm,if_pos rfl]
 .show (H.mark.new x).n=H.mark.n+1
  exact Heap.aN
section
variable {cp:RC->ai} {t:Nat->Option cF} {fuel:Nat} {H G:Heap} {Q:Nat->Prop} {B:Nat} {m:MT} {vl vs vi:V}
theorem sG (T:aG t) (S:TS H G B m vl vs vi):
 ∃ G',(∀ (d) (k),aj (aQ cp t fuel (d+1)) (.func 112 []) [.ptr B 0] G k=k (.cV []) G')/\TS H G' B {m with tok:=rj } vl vs .aB/\∀ j,j≠B->G'.get j=G.get j:=by
 obtain ⟨f,g,hi,G1,f1,o1,n1,f13⟩:=S
 obtain ⟨G2,hG2,f2,p2,n2,w2,k2⟩:=Heap.bd f13 n1 hi (.cells (aS {m with tok:=rj } vl vs .aB))
 have w:=f.wf
 refine ⟨G2,λd k=>?_,⟨f1.trans f2,p2,by omega,G1,f1,⟨o1.live,o1.ah,Own.nil,o1.dl,λb o n c s e=>by cases e⟩,n1,f2⟩,k2⟩
 simp only [aS,cg,rj]at g hG2
 rw [aR T.k56 rfl rfl]
 simp only [go_sem,c56,g,w,hi,hG2]
theorem TS.put {G2:Heap} (S:TS H G B m vl vs vi) (f2:ae G G2) (l:List V):∃ G3,G2.put B (.cells l)=G3/\ae H G3/\G3.get B = .cells l/\G3.n=G2.n/\G3.wf/\(∀ j,j≠B->G3.get j=G2.get j)/\MO H G3 m vl vs vi:=by
 obtain ⟨f,g,hi,G1,f1,o1,n1,f13⟩:=S
 obtain ⟨G3,hG3,f3,p3,n3,w3,k3⟩:=Heap.bd (b:=B) (f13.trans f2) n1 (by have:=f2.n;omega) (.cells l)
 exact ⟨G3,hG3,f1.trans f3,p3,n3,w3,k3,o1.fresh f3⟩
theorem IM (T:aG t) {Q1} {cb ca block p} {va} {at_} (S:TS H G B m vl vs vi) (Y:lg m) (gb:G.get cb = .cells [.int 3 block]) (ga:G.get ca = .cells [va]) (hva:dh G Q1 va at_) (hp:at_[0]? = some p) (hpn:nn p) (hbl:block<m.live.length) (hQ:∀ b,Q b->b<H.n):
 ∃ G' vl',(∀ (d) (k),aj (aQ cp t fuel (d+3)) (.func 104 [.ptr cb 0,.ptr ca 0]) [.ptr B 0] G k=k (.cV []) G')/\ae H G'/\B<G'.n/\G'.get B = .cells (aS {m with live:=m.live.set block p } vl' vs vi)/\gj G' Q {m with live:=m.live.set block p } vl' vs vi/\∀ j,j<G.n->j≠B->G'.get j=G.get j:=by
 have l1:=Y.live.1
 have o:=S.mo
 have w:=S.f.wf
 have hi:=S.hi
 have g:=S.g
 have hal:=(YX.1 hp).1
 have hp0:=(YX.1 hp).2
 obtain ⟨ab,ao,ac,az,hvae,hab,-,hrd⟩:=hva.open hal
 have hrd:=λ{id} {k}=>hrd rfl (id:=id) (k:=k)
 rw [hp0,WD]at hrd
 obtain ⟨G2,vl',z2,f2,o2⟩:=Bb (cp:=cp) (fuel:=fuel) T w (dh.fM o.live λb h=>h) (by omega) hbl hpn
 have z2:=λ{d} {k}=>z2 d k
 have m2:=f2.n
 obtain ⟨G3,hG3,f3,p3,n3,w3,k3,o3⟩:=S.put f2 (aS {m with live:=m.live.set block p } vl' vs vi)
 have g2:=(f2.same _ hi).trans g
 have i1:=λ{id} {k}=>aI o.live.one (id:=id) (k:=k)
 have i2:=λ{id} {k}=>aI o2.one (id:=id) (k:=k)
 have i3:=λ{id} {k}=>aI hva.one (id:=id) (k:=k)
 refine ⟨G3,vl',λd k=>?_,f3,by omega,p3,⟨?_,(o3.at_ hQ).ah,(o3.at_ hQ).cD⟩,λj hj hne=>(k3 j hne).trans (f2.same _ hj)⟩
 .have w2:=f2.wf
  have u2:B<G2.n:=by omega
  simp only [aS,cg]at g hG3 g2
  subst hvae
  rw [ax T.k52 rfl rfl]
  simp only [go_sem,ZE,c52,g,gb,ga,↓hrd,hal,↓z2,↓i2,g2,w2,u2,hG3]
 .have:=o2.eQ (v:=.slice B 0 0 0 0) (by omega) (λj hj ho=>k3 j (ho _ _ _ _ _ rfl)) λb o n c s e b' o' n' c' s' e'=>by cases e';have:=(o2.cO e).1;omega
  have h:=this.toRow λb h=>by have:=hQ b h;have:=S.f.n;omega
  unfold dh
  simp_all
theorem Lm (T:aG t) {ca:Nat} {gd:Gd} (S:TS H G B m vl vs vi) (Y:lg m) (ga:G.get ca = .cells (bq gd)) (hca:ca<G.n) (hcB:ca≠B) (hQ:∀ b,Q b->b<H.n):
 ∃ G' vs',(∀ (d:Nat) (k:K),aj (aQ cp t fuel (d+2)) (.func 114 [.ptr ca 0]) [.ptr B 0] G k=k (.cV []) G')/\ae H G'/\B<G'.n/\G'.get B = .cells (aS {m with ah:=m.ah ++ [⟨gd,m.live,false⟩]} vl vs' vi)/\gj G' Q {m with ah:=m.ah ++ [⟨gd,m.live,false⟩]} vl vs' vi/\∀ j,j<H.n->G'.get j=G.get j:=by
 have l1:=Y.live.1
 have l2:=Y.num
 have o:=S.mo
 have w:=S.f.wf
 have hi:=S.hi
 have lo:=S.lo
 have g:=S.g
 have f:=S.f
 obtain ⟨-,-,-,G1,f1,o1,n1,f13⟩:=S
 obtain ⟨xs,ho1,hxl,hx1⟩:=o1.ah
 have ho:=ho1.fresh f13
 have hvB:jM vs B:=ho1.Br n1
 obtain ⟨Gm,G2,y,z2,hu2,hl2,f2,oy⟩:=Vo (fW (cp:=cp) (fuel:=fuel) (H:=G.mark) (O:=Q) T (by rw [Heap.dV];exact w) ((dh.fM o.live hQ).fresh (ae.DW w)) (by omega))
 have m2:=f2.n
 obtain ⟨Gn,G3,hGn,hu3,hl3,f3,p3,n3⟩:=Heap.Oo f2.wf (.cells [.int 7 gd.1,.int 7 gd.2,y,.bool false])
 have f23:=f2.trans f3
 obtain ⟨vs',G4,hap,o4,f4,k4,n4,off4⟩:=Own.app (w:=vs) (x:=.slice G2.n 0 1 2 0) (m:=1) (new:=[.int 7 gd.1,.int 7 gd.2,y,.bool false]) (f.trans f23) (ho.fresh f23) (λ{id f}=>kh p3 rfl) rfl (λx hx=>by
  rcases YP.1 hx with rfl|hx;rfl
  rcases YP.1 hx with rfl|hx;rfl
  rcases YP.1 hx with rfl|hx;exact oy.one
  rw [YO.1 hx];rfl) (by omega)
 have o4:Own H G4 vs' 4 (m.ah.length+1) (dG m.ah xs ++ bQ ⟨gd,m.live,false⟩ y):=o4
 rw [<- tc hxl]at o4
 have g4:G4.get B = .cells (aS m vl vs vi):=(k4 B (by omega) hvB).trans ((f23.same _ hi).trans g)
 have hB4:B<G4.n:=by grind
 obtain ⟨G5,hG5,f5,p5,n5,w5,k5⟩:=Heap.bd (b:=B) f4 lo hB4 (.cells (aS {m with ah:=m.ah ++ [⟨gd,m.live,false⟩]} vl vs' vi))
 have off5:jM vs' B:=off4 B (by grind) hvB
 have keepO:∀ {v:V} {sz n:Nat} {row:List V},Own H G v sz n row->(∀ b o n c s,v = .slice b o n c s->jM vs b)->(∀ b o n c s,v = .slice b o n c s->b≠B)->Own H G5 v sz n row:=λh hh hb=>((h.fresh f23).eQ (v:=vs) n4 k4 hh).eQ (v:=.slice B 0 0 0 0) (by omega) (λj hj ho=>k5 j (ho _ _ _ _ _ rfl)) λb o n c s e b' o' n' c' s' e'=>by grind
 have keep5:∀ {H1:Heap} {v:V} {sz n:Nat} {row:List V},Own H1 G4 v sz n row->(∀ b o n c s,v = .slice b o n c s->b≠B)->Own H1 G5 v sz n row:=λh hb=>h.eQ (v:=.slice B 0 0 0 0) (by omega) (λj hj ho=>k5 j (ho _ _ _ _ _ rfl)) λb o n c s e b' o' n' c' s' e'=>by grind
 have offB:∀ {v:V} {sz n:Nat} {row:List V},Own H G1 v sz n row->∀ b o n c s,v = .slice b o n c s->b≠B:=λh b o n c s e=>by have:=(h.cO e).2;omega
 refine ⟨G5,vs',λd k=>?_,f5,by omega,p5,⟨dh.fM (keepO o.live o1.dl (offB o1.live)) hQ,⟨xs ++ [y],?_,by simp [hxl],λi s' hs'=>?_⟩,dh.fM (keepO o.cD o1.di (offB o1.cD)) hQ⟩,λj hj=>?_⟩
 .have j1:=λ{id:Nat} {k:R}=>aI o.live.one (id:=id) (k:=k)
  have j2:=λ{id:Nat} {k:R}=>aI o.cD.one (id:=id) (k:=k)
  have j3:=λ{id:Nat} {k:R}=>aI oy.one (id:=id) (k:=k)
  have j4:=λ{id:Nat} {k:R}=>aI ho.one (id:=id) (k:=k)
  have j5:=λ{id:Nat} {k:R}=>aI o4.one (id:=id) (k:=k)
  have x3:=λ{id:Nat} {f:List V->R}=>zQ oy.one (id:=id) (f:=f)
  have z2:=λ{d:Nat} {k:K}=>z2 d k
  have w4:=f4.wf
  have wm:G2.mark.wf:=by rw [Heap.dV];exact f2.wf
  have nm:G2.mark.n=G2.n:=rfl
  simp only [aS,cg,bq]at g g4 ga hG5
  rw [ax T.k57 rfl rfl]
  simp only [Yb,YT]
  simp only [go_sem,c57,g,ga,↓j3,↓j5,↓x3,↓z2,hu2,hl2,wm,nm,hGn,hu3,hl3,↓hap,g4,w4,hB4,hG5]
 .have:=(keep5 o4 λb o n c s e he=>off5 _ _ _ _ _ e he.symm).toRow hQ
  grind
 .have hs':(m.ah ++ [⟨gd,m.live,false⟩])[i]? = some s':=hs'
  by_cases hil:i<m.ah.length
  .rw [Ym hil]at hs'
   obtain ⟨x,b1,b2,b3⟩:=hx1 i s' hs'
   exact ⟨x,by grind,dh.fM (keepO (b2.fresh f13) b3 (offB b2)) hQ⟩
  .rw [Yt (by omega)]at hs'
   have hi0:i-m.ah.length=0:=by
    grind
   rw [hi0]at hs'
   cases hs'
   refine ⟨y,by grind,?_⟩
   have oy4:Own G G4 y 1 m.live.length (m.live.map (V.int 3)):=(oy.fresh f3).eQ (v:=vs) n4 k4 λb o n c s e=>ho.Br (oy.cO e).1
   exact dh.fM (keep5 oy4 λb o n c s e=>by have:=(oy4.cO e).1;omega) λb h=>by grind
 .rw [k5 j (by omega),k4 j (by grind) (ho.off hj),f23.same j (by grind)]
end
end Go.Ev
end
section
namespace Go.Ev
section
variable {id:Nat} {ph:cW} {e:Env} {H:Heap} {k:K} {O:Nat->Prop}
theorem OO {s} {n b c z} {row l} {a y} (ha:ay a e = .slice b 0 n c z) (hy:ay y e=s) (hw:H.wf) (hb:b<H.n) (g:H.get b = .cells l) (hl:l.length=n) (h:Row H O s 1 n row) (h0:0<n) (hn:n<9223372036854775808):
 aM (.copy 1 a y) id ph e H k=k (.int 3 n) (H.put b (.cells row)):=by
 have hN:=λ{id} {f}=>h.nc (id:=id) (f:=f) λ_ _ _=>rfl
 have bC:=by omega
 have hone:=h.2.1
 obtain ⟨_,_,h|⟨q,o,c',z',l',rfl,_⟩⟩:=h
 .omega
 show aH a e (λd=>aH y e λs=>bh id d (λb o dl _ _=>Od id s λsl=>KJ sl dl λn=>db id 1 H s λ_ l=>takeN id l (Nat.mul n 1) λm=>Nat.rec (k (.int 3 0) H) (λ_ _=>dU id H b o m λH=>ke id n H k) n) (db id 1 H s λ_ _=>k (.int 3 0) H))=_
 rw [aq,ha,aq,hy,cX]
 show KJ n n (λn=>db id 1 H (.slice q o n c' z') λ_ l=>takeN id l (Nat.mul n 1) λm=>Nat.rec (k (.int 3 0) H) (λ_ _=>dU id H b 0 m λH=>ke id n H k) n)=_
 have hmin:∀ f,KJ n n f=f n:=λf=>by
  unfold KJ
  rw [bA]
  simp
 rw [hmin]
 show db id 1 H (.slice q o n c' z') (λ_ l=>takeN id l (n*1) λm=>Nat.rec (k (.int 3 0) H) (λ_ _=>dU id H b 0 m λH=>ke id n H k) n)=_
 rw [hN,fP (by omega),mU,if_neg (by omega),Lo g,Ya (by omega),cE hone,sy (by omega),fm hw hb,Jq,if_pos hn,List.take_zero,YT,List.drop_of_length_le (by omega),YV]
def xV (v:V) (n:Nat):V:=match v with
 | .slice b o _ c s=>if c=0 then .slice b o n 0 s else if c-1=0 then .slice b o n 1 0 else .slice b o n c 0
 | v=>v
theorem JC {H0 H'} {v} {sz N n} {row} (h:Own H0 H' v sz N row) (hn:n<=N) (hO:∀ b,O b->b<H0.n):Row H' O (xV v n) sz n (row.take (n*sz)):=by
 obtain ⟨h1,h2,⟨rfl,rfl⟩|⟨b,c,s,rest,rfl,g,hc,hb1,hb2⟩⟩:=h
 .obtain rfl:n=0:=by omega
  exact ⟨by simp,λx hx=>by simp_all,YG ⟨YG rfl,rfl⟩⟩
 .have hle:n*sz<=row.length:=by rw [h1];exact Nat.mul_le_mul_right _ hn
  have bC:∀ c s,Row H' O (.slice b 0 n c s) sz n (row.take (n*sz)):=λc s=>⟨by simp_all,λx hx=>h2 x (WN hx),YD ⟨b,0,c,s,row ++ rest,rfl,YG g,hb2,λh=>by have:=hO b h;omega,by rw [YC];omega,by rw [WV,List.take_append_of_le_length hle]⟩⟩
  unfold xV
  split
  .rename_i h;cases h;split;exact bC _ _;split;exact bC _ _;simp_all
  .rename_i h;exact absurd rfl (h _ _ _ _ _)
end
theorem wq:∀ {ss} {xs} {n},xs.length=ss.length->(dG ss xs).take (n*4)=dG (ss.take n) (xs.take n)
 | [],[],n,_=>by simp [dG]
 | [],_ :: _,_,h=>by simp_all
 | _ :: _,[],_,h=>by simp_all
 | a :: ss,b :: xs,0,_=>by rfl
 | a :: ss,b :: xs,n+1,h=>by
  have:=wq (n:=n) (by simpa using h)
  show (bQ a b ++ dG ss xs).take ((n+1)*4)=bQ a b ++ dG (ss.take n) (xs.take n)
  rw [<- this,show (n+1)*4=(bQ a b).length+n*4 by simp [bQ];omega,List.take_length_add_append]
def Er (m:MT) (n:Nat):MT:={m with ah:=m.ah.take n,live:=(eH {m with ah:=m.ah.take n }).cD }
theorem GS {m:MT} {n} {s} (hs:m.ah[n]? = some s):(eH {m with ah:=m.ah.take (n+1)}).cD=s.cD:=by
 have hlt:=(YX.1 hs).1
 show ((m.ah.take (n+1)).getLast?.getD _).cD=_
 rw [YF0,Yp,Nat.min_eq_left (by omega),QS,Yk,if_pos (by omega),hs]
 rfl
section
variable {cp:RC->ai} {t:Nat->Option cF} {fuel:Nat} {H G:Heap} {Q:Nat->Prop} {B:Nat} {m:MT} {vl vs vi:V}
theorem yh (T:aG t) {ca n:Nat} (S:TS H G B m vl vs vi) (Y:lg m) (ga:G.get ca = .cells [.int 3 n]) (hcn:ca<H.n) (hn:n<=m.ah.length) (hQ:∀ b,Q b->b<H.n) (himg:∀ s ∈ m.ah,s.cD.length=m.live.length) (hpos:0<m.live.length):
 ∃ G' vl' vs',(∀ (d:Nat) (k:K),aj (aQ cp t fuel (d+1)) (.func 238 [.ptr ca 0]) [.ptr B 0] G k=k (.cV []) G')/\ae H G'/\B<G'.n/\G'.get B = .cells (aS (Er m n) vl' vs' vi)/\gj G' Q (Er m n) vl' vs' vi/\∀ j,j<H.n->G'.get j=G.get j:=by
 have l1:=Y.live.1
 have l2:=Y.num
 obtain ⟨f,g,hi,G1,f1,o1,n1,f13⟩:=S
 have w:=f.wf
 have o:=o1.fresh f13
 obtain ⟨xs,ho1,hxl,hx1⟩:=o1.ah
 have ho:=ho1.fresh f13
 have mf:=f1.n
 have hc1:(xV vs n).one=true:=(JC ho hn hQ).one
 generalize hv2:xV vs n=vs2 at hc1
 obtain ⟨G2,hG2,f2,p2,n2,w2,k2⟩:=Heap.bd (b:=B) f13 n1 hi (.cells (aS m vl vs2 vi))
 obtain ⟨G3,f3,o3,g3,n3,z3⟩:=Bl (n:=m.live.length) (kl:=3) (x:=V.int 3 0) (a:=qz) rfl w2 rfl (by omega) (YA _)
 have p3:G3.get B = .cells (aS m vl vs2 vi):=(f3.same _ (by omega)).trans p2
 have hB3:B<G3.n:=by omega
 obtain ⟨G4,hG4,f4,p4,n4,w4,k4⟩:=Heap.bd (b:=B) (f2.trans f3) n1 hB3 (.cells (aS m (.slice G2.n 0 m.live.length (m.live.length+1) 0) vs2 vi))
 have g4:G4.get G2.n = .cells (Yg m.live.length (V.int 3 0)):=(k4 _ (by omega)).trans g3
 have ca4:G4.get ca = .cells [.int 3 n]:=(k4 _ (by omega)).trans ((f3.same _ (by omega)).trans ((k2 _ (by omega)).trans ga))
 have j1:=λ{id:Nat} {k:R}=>aI o.live.one (id:=id) (k:=k)
 have j2:=λ{id:Nat} {k:R}=>aI o.cD.one (id:=id) (k:=k)
 have j3:=λ{id:Nat} {k:R}=>aI hc1 (id:=id) (k:=k)
 have sn:=λ{id:Nat} {f:Nat->R}=>o.live.sn (id:=id) (f:=f)
 have w3:=f3.wf
 have a1:m.live.length<9223372036854775808:=by omega
 have a2:nn n:=by unfold nn;omega
 have a3:nn 0:=by unfold nn;omega
 have z3:=λ{id:Nat} {ph:cW} {e:Env} {k:K} (h1:ay qz e = .int 3 m.live.length)=>z3 (id:=id) (ph:=ph) (e:=e) (k:=k) h1
 have snapsAt:∀ {G':Heap},ae G1 G'->ib G' Q vs2 (m.ah.take n):=λ{G'} f'=>by
  refine ⟨xs.take n,?_,by rw [Yp,Yp,hxl],λi s hs=>?_⟩
  .have:=JC (ho1.fresh f') hn hQ
   rw [wq hxl,hv2]at this
   rwa [show (m.ah.take n).length=n by rw [Yp];omega]
  .rw [Yk]at hs
   split at hs
   .rename_i hin
    obtain ⟨x,b1,b2,b3⟩:=hx1 i s hs
    exact ⟨x,by rw [Yk,if_pos hin];exact b1,dh.fM (b2.fresh f') hQ⟩
   .cases hs
 by_cases h0:n=0
 .subst h0
  refine ⟨G4,.slice G2.n 0 m.live.length (m.live.length+1) 0,vs2,λd k=>?_,f1.trans f4,by omega,p4,⟨?_,snapsAt f4,dh.fM (o1.fresh f4).cD hQ⟩,λj hj=>?_⟩
  .simp only [aS,cg]at g hG2 p2 p3 hG4
   rw [ax T.XM rfl rfl]
   simp only [Yb,YT]
   obtain ⟨-,-,⟨hvs,hN⟩|⟨b,c,s,rest,hvs,-,rfl|⟨rfl,rfl,-⟩,-⟩⟩:=ho
   .subst hvs
    simp only [xV]at hv2
    subst hv2
    simp only [go_sem,ZE,FP,g,ga,↓j3,w,hi,hG2,p2,↓sn,a1,↓z3,p3,w3,hB3,hG4,ca4,a2]
   .subst hvs
    by_cases hN:m.ah.length=0
    .simp only [xV,hN,WJ,Nat.sub_self,if_neg Nat.one_ne_zero,if_true]at hv2
     subst hv2
     simp only [go_sem,ZE,FP,g,ga,↓j3,w,hi,hG2,p2,↓sn,a1,↓z3,p3,w3,hB3,hG4,ca4,a2,hN]
    .simp only [xV,QS,if_neg (YN3 _),if_neg hN]at hv2
     subst hv2
     simp only [go_sem,ZE,QS,QD,FP,g,ga,↓j3,w,hi,hG2,p2,↓sn,a1,↓z3,p3,w3,hB3,hG4,ca4,a2,hN]
   .subst hvs
    simp only [xV,if_true]at hv2
    subst hv2
    simp only [go_sem,ZE,FP,g,ga,↓j3,w,hi,hG2,p2,↓sn,a1,↓z3,p3,w3,hB3,hG4,ca4,a2]
  .show dh G4 Q _ (Yg m.live.length 0)
   have:Own G2 G4 (.slice G2.n 0 m.live.length (m.live.length+1) 0) 1 m.live.length (Yg m.live.length (V.int 3 0)):=o3.eQ (v:=.slice B 0 0 0 0) (by omega) (λj hj ho=>k4 j (ho _ _ _ _ _ rfl)) λb o n c s e b' o' n' c' s' e'=>by cases e';cases e;omega
   have h:=this.toRow (O:=Q) λb h=>by have:=hQ b h;have:=f13.n;omega
   unfold dh
   rw [Wb,YE2]
   exact h
  .rw [k4 j (by omega),f3.same j (by have:=f13.n;omega),k2 j (by omega)]
 .obtain ⟨q,rfl⟩:∃ q,n=q+1:=⟨n-1,by omega⟩
  have hq:q<m.ah.length:=by omega
  have hs:m.ah[q]? = some m.ah[q]:=YB hq
  have hlen:=himg _ (Yl hq)
  have hlast:=GS hs
  obtain ⟨x,hxq,ox,ofx⟩:=hx1 q _ hs
  have bC:=uT hs hxq
  generalize m.ah[q]=sq at hs hlen hlast ox bC
  have hx4:dh G4 (λb=>b<H.n) x sq.cD:=dh.fM (ox.fresh f4) λb h=>h
  have w4':=f4.wf
  have hx4':Row G4 (λb=>b<H.n) x 1 m.live.length (sq.cD.map (V.int 3)):=by
   have:=hx4
   unfold dh at this
   rwa [hlen]at this
  obtain ⟨G5,hG5,f5,p5,n5,w5,k5⟩:=Heap.bd (b:=G2.n) f4 (by omega) (by omega) (.cells (sq.cD.map (V.int 3)))
  have NR:=λ{id:Nat} {ph:cW} {e:Env} {k:K} (h1:ay xQ e = .slice G2.n 0 m.live.length (m.live.length+1) 0) (h2:ay FE e=x)=>OO (id:=id) (ph:=ph) (e:=e) (k:=k) h1 h2 w4' (show G2.n<G4.n by omega) g4 (Wb ..) hx4' hpos (by omega)
  rw [hG5]at NR
  have p5B:G5.get B = .cells (aS m (.slice G2.n 0 m.live.length (m.live.length+1) 0) vs2 vi):=(k5 B (by omega)).trans p4
  refine ⟨G5,.slice G2.n 0 m.live.length (m.live.length+1) 0,vs2,λd k=>?_,f1.trans f5,by omega,p5B,⟨?_,snapsAt f5,dh.fM (o1.fresh f5).cD hQ⟩,λj hj=>?_⟩
  .have hxx:(dG m.ah xs)[q*4+2]? = some x:=by
    have:(((dG m.ah xs).drop (q*4)).take 4)[2]? = some x:=by rw [bC];rfl
    rwa [Yk,if_pos (by omega),List.getElem?_drop]at this
   have jx:=λ{id:Nat} {k:R}=>aI ox.one (id:=id) (k:=k)
   have a5:nn q:=by unfold nn;omega
   have a6:q<9223372036854775808:=by omega
   have a7:(q+1+18446744073709551615)%18446744073709551616=q:=by omega
   have a8:q+1<9223372036854775808:=by omega
   have a9:0<q+1:=by omega
   have a10:q<q+1:=by omega
   simp only [aS,cg]at g hG2 p2 p3 hG4 p4
   rw [ax T.XM rfl rfl]
   simp only [Yb,YT]
   obtain ⟨-,-,⟨hvs,hN⟩|⟨b,c,s,rest,hvs,gb,hc,-⟩⟩:=ho
   .omega
   .have hb1:b<G1.n:=(ho1.cO hvs).2
    have gb4:G4.get b = .cells (dG m.ah xs ++ rest):=(f4.same _ hb1).trans ((f13.same _ hb1).symm.trans gb)
    have hrd:∀ {id:Nat} {k:V->R},nth id (dG m.ah xs ++ rest) (q*4+2) k=k x:=iL (by rw [Ym (YX.1 hxx).1];exact hxx)
    subst hvs
    rcases hc with rfl|⟨rfl,rfl,-⟩
    .have hN:¬ m.ah.length=0:=by omega
     simp only [xV,QS,if_neg (YN3 _),if_neg hN]at hv2
     subst hv2
     simp only [go_sem,QS,QD,FP,g,ga,↓j3,w,hi,hG2,p2,↓sn,a1,↓z3,p3,w3,hB3,hG4,ca4,a2,a3,hN,hn,p4,a6,a7,a8,a9,a10,gb4,↓hrd,↓NR]
    .simp only [xV,if_true]at hv2
     subst hv2
     simp only [go_sem,QD,FP,g,ga,↓j3,w,hi,hG2,p2,↓sn,a1,↓z3,p3,w3,hB3,hG4,ca4,a2,a3,hn,p4,a6,a7,a8,a9,a10,gb4,↓hrd,↓NR]
  .show dh G5 Q _ (eH _).cD
   rw [hlast]
   have:Own G2 G5 (.slice G2.n 0 m.live.length (m.live.length+1) 0) 1 m.live.length (sq.cD.map (V.int 3)):=⟨by simp [hlen],λy hy=>by obtain ⟨p,-,rfl⟩:=Yc.1 hy;rfl,YD ⟨_,_,_,[],rfl,by rw [YV];exact p5,YG rfl,YA _,by omega⟩⟩
   have h:=this.toRow (O:=Q) λb h=>by have:=hQ b h;have:=f13.n;omega
   unfold dh
   rw [hlen]
   exact h
  .rw [k5 j (by have:=f13.n;omega),k4 j (by omega),f3.same j (by have:=f13.n;omega),k2 j (by omega)]
end
end Go.Ev
end
section
namespace Go.Ev
section
variable {cp:RC->ai} {t:Nat->Option cF} {fuel:Nat} {H G:Heap} {Q:Nat->Prop} {B:Nat} {m:MT} {vl vs vi:V}
end
end Go.Ev
end
section
namespace Go.Ev
structure VP (H:Heap) (dp vp a n:Nat) (A:AD) (O:Nat->Prop) (m:MT) (vl vs vi:V):Prop where
 jh:cU H dp A O
 off:A.off=false
 can:pz A a n
 lo:193<=A.len
 hi:A.len<=1024
 get:H.get vp = .cells (vc m vl vs vi dp false)
 vn:vp<H.n
 vo:¬ O vp
 Js:gj H (bM O vp) m vl vs vi
 ok:lg m
def rz (H H':Heap) (dp vp:Nat) (O O':Nat->Prop) (m:MT) (vl vs vi:V) (A':AD) (m':MT) (lost:Bool):Prop:=Step H (bM O vp) H' (bM O' vp)/\cU H' dp A' O'/\¬ O' vp/\vp<H'.n/\∃ vl' vs' vi',H'.get vp = .cells (vc m' vl' vs' vi' dp lost)/\gj H' (bM O' vp) m' vl' vs' vi'/\∀ X:Nat->Prop,(∀ b,X b->b<H.n)->gj H (λb=>X b\/bM O vp b) m vl vs vi->gj H' (λb=>X b\/bM O' vp b) m' vl' vs' vi'
theorem VP.fresh {H H':Heap} {dp vp a n:Nat} {A:AD} {O:Nat->Prop} {m:MT} {vl vs vi:V} (S:VP H dp vp a n A O m vl vs vi) (f:ae H H'):VP H' dp vp a n A O m vl vs vi:=⟨S.jh.fresh f,S.off,S.can,S.lo,S.hi,(f.same _ S.vn).trans S.get,YE S.vn f.n,S.vo,S.Js.fresh f,S.ok⟩
theorem VP.lt {H:Heap} {dp vp a n:Nat} {A:AD} {O:Nat->Prop} {m:MT} {vl vs vi:V} (S:VP H dp vp a n A O m vl vs vi):∀ b,bM O vp b->b<H.n:=λb h=>h.elim (S.jh.lt b) λh=>by rw [h];exact S.vn
theorem VP.done {H:Heap} {dp vp a n:Nat} {A:AD} {O:Nat->Prop} {m:MT} {vl vs vi:V} (S:VP H dp vp a n A O m vl vs vi):rz H H dp vp O O m vl vs vi A m false:=⟨(ae.refl S.jh.wf).step,S.jh,S.vo,S.vn,vl,vs,vi,S.get,S.Js,λX _ h=>h⟩
theorem rz.before {H0 H H':Heap} {dp vp:Nat} {O O1 O':Nat->Prop} {A':AD} {m m':MT} {vl vs vi:V} {lost:Bool} (h:rz H H' dp vp O1 O' m vl vs vi A' m' lost) (s:Step H0 (bM O vp) H (bM O1 vp)):rz H0 H' dp vp O O' m vl vs vi A' m' lost:=
 let ⟨h1,h2,h3,h4,vl',vs',vi',h5,h6,h7⟩:=h
 ⟨s.trans h1,h2,h3,h4,vl',vs',vi',h5,h6,λX hX hM=>h7 X (λb hb=>YE (hX b hb) s.n) (hM.dm s.or)⟩
def I6 (pk:List UInt8->List (List UInt8)) (A:AD) (a:Nat) (m m':MT) (bw:List Wr):MT:=if (sH pk A a m' bw).2=0 then m' else m
def Q4 (pk:List UInt8->List (List UInt8)) (A:AD) (a:Nat) (m':MT) (bw:List Wr):Bool:=(oO m').2 == 0 && (sH pk A a m' bw).2 == 6
section
variable {cp:RC->ai} {t:Nat->Option cF} {fuel:Nat} {H:Heap} {pk:List UInt8->List (List UInt8)} {unpk:List (List UInt8)->Option (List UInt8)}
theorem nZ (T:aG t) (hc:bg t) (F:bX pk unpk) (hp:t 123=some (.nat (eD pk))) {Hb} {dp vp a n bt c z} {A} {O} {m m'} {vl vs vi vb} {bw} {fs}
 (f0:ae Hb H) (S:VP Hb dp vp a n A O m vl vs vi) (Y':lg m') (hbw:∀ w ∈ bw,w.1<18446744073709551616/\w.2.1<1000000/\um w.2) (hbl:bw.length<1000) (hbt:H.get bt = .cells fs) (hbn:bt<H.n) (hfl:fs.length<1000) (hf1:∀ f ∈ fs,f.one=true)
 (ht:∀ (G1 G:Heap) (vl1 vs1 vi1:V),ae H G->TS H G G1.n m vl1 vs1 vi1->∃ G' vl2 vs2 vi2,IQ cp t fuel G1.n bt fs G G'/\ae Hb G'/\G1.n<G'.n/\G'.get G1.n = .cells (aS m' vl2 vs2 vi2)/\gj G' (λb=>b<Hb.n) m' vl2 vs2 vi2/\Row G' (bM O vp) vb 2 bw.length (cC bw)) (hfu:1000000<fuel):
 ∃ H' O',(∀ (d:Nat) (k:K),aj (aQ cp t fuel (d+8)) (.func 102 []) [.ptr vp 0,vb,.slice bt 0 fs.length c z] H k=k (.int 3 (sH pk A a m' bw).2) H')/\rz Hb H' dp vp O O' m vl vs vi (sH pk A a m' bw).1 (I6 pk A a m m' bw) (Q4 pk A a m' bw):=by
 obtain ⟨H',O',z1,s,D,v1,v2,h⟩:=CP T hc F hp f0 S.jh S.off S.can S.lo S.hi S.get S.vn S.vo S.Js S.ok Y' hbw hbl hbt hbn hfl hf1 (λG1 G vl1 vs1 vi1 f1 o f g hn=>ht G1 G vl1 vs1 vi1 (f1.trans f) (TS.of f1 o f g hn)) hfu
 refine ⟨H',O',z1,s,D,v1,v2,?_⟩
 rcases h with ⟨h0,vl2,vs2,vi2,h1,h2,h3⟩|⟨h0,h1,h2,h3⟩
 .exact ⟨vl2,vs2,vi2,by unfold I6 Q4;simp_all,by unfold I6;simp_all,λX hX _=>by unfold I6;simp_all⟩
 .exact ⟨vl,vs,vi,by unfold I6 Q4;simp_all,by unfold I6;simp_all,λX _ hM=>by unfold I6;simp_all⟩
theorem kF:jm rj.b/\jm rj.t/\nn rj.next/\nn rj.all/\Jy rj.cD:=by
 have z:(0:Nat)<18446744073709551616:=by omega
 have z2:nn 0:=by unfold nn;omega
 exact ⟨⟨z,z⟩,⟨z,z⟩,z2,z2,⟨by show 0<100;omega,λp hp=>by cases hp⟩⟩
theorem lg.drop {m:MT} (h:lg m):lg {m with tok:=rj }:=⟨h.live,h.num,h.ah,kF⟩
end
end Go.Ev
end
section
namespace Go.Ev
section
variable {cp:RC->ai} {t:Nat->Option cF} {fuel:Nat} {H:Heap} {pk:List UInt8->List (List UInt8)} {unpk:List (List UInt8)->Option (List UInt8)}
theorem yg (T:aG t) (hc:bg t) (F:bX pk unpk) (hp:t 123=some (.nat (eD pk))) {dp vp a n q} {A} {O} {m} {vl vs vi} (S:VP H dp vp a n A O m vl vs vi) (hq:nn q) (himg:∀ s ∈ m.ah,s.cD.length=m.live.length) (hpos:0<m.live.length) (Y':lg (Er {m with tok:=rj } q)) (hfu:1000000<fuel):
 ∃ H' O',(∀ (d) (k),aj (aQ cp t fuel (d+9)) (.func 146 []) [.ptr vp 0,.int 3 q] H k=k (.int 3 (if m.ah.length<q then 2 else (sH pk A a (Er {m with tok:=rj } q) []).2)) H')/\rz H H' dp vp O O' m vl vs vi (if m.ah.length<q then A else (sH pk A a (Er {m with tok:=rj } q) []).1) (if m.ah.length<q then m else I6 pk A a m (Er {m with tok:=rj } q) []) (if m.ah.length<q then false else Q4 pk A a (Er {m with tok:=rj } q) []):=by
 have hn0:=S.ok.num
 obtain ⟨G0,hG0,f0,p0,n0⟩:=Heap.aU S.jh.wf (.cells [.int 3 q])
 have S0:=S.fresh f0
 obtain ⟨G1,z1,s1,D1,n1,g1,k1⟩:=px (cp:=cp) (fuel:=fuel) T hc S0.jh S0.get S0.vn S0.vo
 rw [S.off]at z1 g1
 have z1:=λ{d} {k}=>z1 (d+5) k
 have S1:VP G1 dp vp a n A O m vl vs vi:=⟨D1,S.off,S.can,S.lo,S.hi,g1,by rw [n1];exact S0.vn,S.vo,S0.Js.dm s1,S.ok⟩
 have hne:H.n≠vp:=by have:=S.vn;omega
 have p1:=(k1 _ hne).trans p0
 have s01:=f0.step.trans s1
 have w0:=S.jh.wf
 have g1':=g1
 simp only [vc,aS,cg,Yb,YT]at g1'
 have sn:=λ{id} {f:Nat->R}=>(let ⟨_,h,_⟩:=S1.Js.ah;h.sn:bh id vs (λ_ _ len _ _=>f len) (f 0)=f m.ah.length)
 have a1:m.ah.length<9223372036854775808:=by omega
 have a2:nn m.ah.length:=by unfold nn;omega
 have a3:nn 0:=by unfold nn;omega
 have a4:¬ q<0:=by omega
 by_cases h0:m.ah.length<q
 .simp only [if_pos h0]
  refine ⟨G1,O,λd k=>?_,S1.done.before s01⟩
  rw [aR T.k73 rfl rfl]
  simp only [go_sem,c73,w0,hG0,↓z1,p1,g1',↓sn,a1,a2,a3,a4,hq,h0,YN,or_self]
 .simp only [if_neg h0]
  obtain ⟨G2,hG2,f2,p2,n2⟩:=Heap.aU D1.wf (.cells [.func 112 [],.func 238 [.ptr H.n 0]])
  have p12:=(f2.same _ (by omega)).trans p1
  obtain ⟨H',O',z3,hd⟩:=nZ (bw:=[]) T hc F hp f2 S1 Y' (λw h=>by cases h) (by decide) p2 (by omega) (by show 2<1000;omega) (λf hf=>by rcases YP.1 hf with rfl|hf;rfl;rw [YO.1 hf];rfl) (λB G vl1 vs1 vi1 fG ts=>by
   obtain ⟨G',zt,ts',kt⟩:=sG T ts
   have hlo:=ts.lo
   have hQ:∀ b,b<G1.n->b<G2.n:=λb h=>YE h f2.n
   obtain ⟨G'',vl2,vs2,zr,fr,hr,pr,mr,kr⟩:=yh (cp:=cp) T ts' S.ok.drop ((kt _ (by omega)).trans ((fG.same _ (by omega)).trans p12)) (by omega) (Nat.le_of_not_lt h0) hQ himg hpos
   exact ⟨G'',vl2,vs2,.aB,⟨G',λd k=>zt (d+4) k,kt _ (by omega),G'',λd k=>zr (d+4) k,kr _ (by omega),rfl⟩,f2.trans fr,hr,pr,mr,rfl,λx hx=>(by cases hx),YG ⟨YG rfl,rfl⟩⟩) hfu
  have z3:∀ {d} {k},aj (aQ cp t fuel (d+8)) (.func 102 []) [.ptr vp 0,.aB,.slice G1.n 0 2 3 0] G2 k=k (.int 3 (sH pk A a (Er {m with tok:=rj } q) []).2) H':=λ{d k}=>z3 d k
  refine ⟨H',O',λd k=>?_,hd.before s01⟩
  have w1:=D1.wf
  rw [aR T.k73 rfl rfl]
  simp only [go_sem,c73,w0,hG0,↓z1,p1,g1',↓sn,a1,a2,a3,a4,hq,h0,w1,hG2,↓z3,YN,or_self]
end
end Go.Ev
end
section
namespace Go.Ev
theorem l5 {m} {q} {s} (hs:m.ah[q]? = some s) (hq:m.ah.length=q+1):eH m=s:=by
 show m.ah.getLast?.getD _=_
 rw [YF0,hq,QS,hs]
 rfl
theorem l7 {m} (h:m.ah.length=0):eH m=⟨(0,0),Yg m.live.length 0,false⟩:=by
 show m.ah.getLast?.getD _=_
 simp_all
theorem OH {m} (h:lg m):jm (eH m).g:=by
 rcases hm:m.ah.getLast? with _|s
 .have:eH m=⟨(0,0),Yg m.live.length 0,false⟩:=by unfold eH;simp_all
  rw [this]
  have z:(0:Nat)<18446744073709551616:=by omega
  exact ⟨z,z⟩
 .have:eH m=s:=by unfold eH;simp_all
  rw [this]
  exact (h.ah s (List.mem_of_getLast? hm)).1
def Q9 (m:MT) (g:Gd):MT:={m with tok:=rj,ah:=m.ah ++ [⟨g,m.live,false⟩]}
section
variable {cp:RC->ai} {t:Nat->Option cF} {fuel:Nat} {H:Heap} {pk:List UInt8->List (List UInt8)} {unpk:List (List UInt8)->Option (List UInt8)}
theorem KD (T:aG t) {m:MT} {vl vs vi:V} {vp dp:Nat} {lost:Bool} {Q:Nat->Prop} (hw:H.wf) (hV:H.get vp = .cells (vc m vl vs vi dp lost)) (hVn:vp<H.n) (M:gj H Q m vl vs vi) (Y:lg m) (hQ:∀ b,Q b->b<H.n):
 ∃ H' x,(∀ (d:Nat) (k:K),aj (aQ cp t fuel (d+1)) (.func 110 []) [.ptr vp 0] H k=k (.agg (bQ (eH m) x)) H')/\ae H H'/\dh H' Q x (eH m).cD:=by
 have l1:=Y.live.1
 have l2:=Y.num
 have hV':=hV
 simp only [vc,aS,cg,Yb,YT]at hV'
 have sn:=λ{id} {f:Nat->R}=>(let ⟨_,h,_⟩:=M.ah;h.sn:bh id vs (λ_ _ len _ _=>f len) (f 0)=f m.ah.length)
 have sl:=λ{id} {f}=>M.live.sn (id:=id) (f:=f)
 have a1:=by omega
 have a2:nn m.ah.length:=by unfold nn;omega
 have a3:nn 0:=by unfold nn;omega
 have a4:m.live.length<9223372036854775808:=by omega
 obtain ⟨G1,hG1,f1,p1,n1⟩:=Heap.aU hw (.cells [.int 7 0,.int 7 0,.aB,.bool false])
 have g1:=(f1.same _ hVn).trans hV'
 have w1:=f1.wf
 have b1:H.n<G1.n:=by omega
 by_cases h0:m.ah.length=0
 .rw [l7 h0]
  obtain ⟨G2,f2,o2,g2,n2,z2⟩:=Bl (n:=m.live.length) (x:=V.int 3 0) rfl w1 rfl (by omega) (YA _)
  obtain ⟨G3,hG3,f3,p3,n3,w3,k3⟩:=Heap.bd (f1.trans f2) (YA _) (by omega) (.cells [.int 7 0,.int 7 0,.slice G1.n 0 m.live.length (m.live.length+1) 0,.bool false])
  have p2:=(f2.same _ (by omega)).trans p1
  have w2:=f2.wf
  have b2:H.n<G2.n:=by omega
  have z2:=λ{id} {ph} {e} {k} (h1:ay xQ e = .int 3 m.live.length)=>z2 (id:=id) (ph:=ph) (k:=k) h1
  have nz:=by omega
  refine ⟨G3,.slice G1.n 0 m.live.length (m.live.length+1) 0,λd k=>?_,f3,?_⟩
  .rw [aR T.k55 rfl rfl]
   simp only [go_sem,ZE,c55,hw,hG1,g1,↓sn,a1,a3,a4,h0,↓z2,p2,w2,b2,hG3,↓dA,p3,bQ]
  .have:=o2.eQ (v:=.slice H.n 0 0 0 0) (by omega) (λj hj ho=>k3 j (ho _ _ _ _ _ rfl)) λb o n c s e b' o' n' c' s' e'=>by cases e';cases e;omega
   have h:=this.toRow λb h=>by have:=hQ b h;omega
   unfold dh
   rw [Wb,YE2]
   exact h
 .obtain ⟨q,hq⟩:∃ q,m.ah.length=q+1:=⟨m.ah.length-1,by omega⟩
  have hlt:q<m.ah.length:=by omega
  obtain ⟨b,o,c,z,x,hvs,hbn,hbQ,hI,hrd⟩:=M.ah.open hlt
  have hsq:=YB hlt
  rw [l5 hsq hq]
  generalize m.ah[q]=s at hI hrd
  have hrd:=λ{id} {k}=>hrd (f1.same _ hbn) (id:=id) (k:=k)
  obtain ⟨G2,hG2,f2,p2,n2,w2,k2⟩:=Heap.bd f1 (YA _) b1 (.cells (bQ s x))
  have jx:=λ{id} {k}=>aI hI.one (id:=id) (k:=k)
  refine ⟨G2,x,λd k=>?_,f2,hI.fresh f2⟩
  have a5:nn q:=by unfold nn;omega
  have a6:q<9223372036854775808:=by omega
  have a7:(q+1+18446744073709551615)%18446744073709551616=q:=by omega
  have a8:q+1<9223372036854775808:=by omega
  have a9:0<q+1:=by omega
  have a10:q<q+1:=by omega
  have a11:nn (q+1):=by unfold nn;omega
  simp only [bQ]at hrd hG2 p2 ⊢
  rw [hq]at sn hvs
  subst hvs
  rw [aR T.k55 rfl rfl]
  simp only [go_sem,c55,hw,hG1,g1,a3,a6,a7,a8,a9,a10,a11,↓hrd,↓jx,p1,w1,b1,hG2,↓dA,p2]
theorem Ll (T:aG t) (hc:bg t) (F:bX pk unpk) (hp:t 123=some (.nat (eD pk))) {dp vp a n:Nat} {g:Gd} {A:AD} {O:Nat->Prop} {m:MT} {vl vs vi:V} (S:VP H dp vp a n A O m vl vs vi) (hg:jm g) (Y':lg (Q9 m g)) (hfu:1000000<fuel):
 ∃ H' O',(∀ (d:Nat) (k:K),aj (aQ cp t fuel (d+9)) (.func 44 []) [.ptr vp 0,.agg (bq g)] H k=k (.int 3 (if eK g (eH m).g=false then 2 else if 20<=m.ah.length then 3 else (sH pk A a (Q9 m g) []).2)) H')/\rz H H' dp vp O O' m vl vs vi (if eK g (eH m).g=false\/20<=m.ah.length then A else (sH pk A a (Q9 m g) []).1) (if eK g (eH m).g=false\/20<=m.ah.length then m else I6 pk A a m (Q9 m g) []) (if eK g (eH m).g=false\/20<=m.ah.length then false else Q4 pk A a (Q9 m g) []):=by
 have hn0:=S.ok.num
 obtain ⟨G0,hG0,f0,p0,n0⟩:=Heap.aU S.jh.wf (.cells (bq g))
 have S0:=S.fresh f0
 obtain ⟨G1,z1,s1,D1,n1,g1,k1⟩:=px (cp:=cp) (fuel:=fuel) T hc S0.jh S0.get S0.vn S0.vo
 rw [S.off]at z1 g1
 have z1:=λ{d} {k}=>z1 (d+5) k
 have S1:VP G1 dp vp a n A O m vl vs vi:=⟨D1,S.off,S.can,S.lo,S.hi,g1,by rw [n1];exact S0.vn,S.vo,S0.Js.dm s1,S.ok⟩
 have hne:H.n≠vp:=by have:=S.vn;omega
 have p1:=(k1 _ hne).trans p0
 have s01:=f0.step.trans s1
 have w0:=S.jh.wf
 have wm:G1.mark.wf:=by exact D1.wf
 obtain ⟨Gm',x,zl',fl',-⟩:=KD T wm g1 S1.vn (S1.Js.fresh (ae.DW D1.wf)) S.ok S1.lt
 obtain ⟨Gm,G2,zl,hu2,hl2,f2⟩:=qO (cp:=cp) (fuel:=fuel) ⟨Gm',zl',fl'⟩
 obtain ⟨G3,za,f3⟩:=FF (cp:=cp) (fuel:=fuel) T f2.wf hg (OH S.ok)
 have zl:=λ{d} {k}=>zl d k
 have za:=λ{d} {k}=>za d k
 have f13:=f2.trans f3
 have S3:=S1.fresh f13
 have p3:=(f13.same _ (by omega)).trans p1
 have g3':=S3.get
 simp only [vc,aS,cg,Yb,YT]at g3'
 have sn:=λ{id} {f:Nat->R}=>(let ⟨_,h,_⟩:=S1.Js.ah;h.sn:bh id vs (λ_ _ len _ _=>f len) (f 0)=f m.ah.length)
 have a1:m.ah.length<9223372036854775808:=by omega
 have a2:nn m.ah.length:=by unfold nn;omega
 have a3:nn 20:=by unfold nn;omega
 have p1':=p1
 simp only [bq]at p1' za
 have s13:=s01.trans f13.step
 simp only [bQ]at zl
 simp only [bq]at hG0
 rcases hab:eK g (eH m).g with _|_
 .rw [hab]at za
  refine ⟨G3,O,λd k=>?_,S3.done.before s13⟩
  rw [aR T.k22 rfl rfl]
  simp only [go_sem,c22,bq,w0,hG0,↓z1,p1',↓zl,hu2,hl2,↓za,YN,or_self,Qh]
 .rw [hab]at za
  by_cases h20:20<=m.ah.length
  .simp only [QR,if_false,h20,or_true,if_true]
   refine ⟨G3,O,λd k=>?_,S3.done.before s13⟩
   rw [aR T.k22 rfl rfl]
   simp only [go_sem,c22,bq,w0,hG0,↓z1,p1',↓zl,hu2,hl2,↓za,g3',↓sn,a1,a2,a3,h20,YN,or_self,Wt]
  .simp only [QR,if_false,h20,or_self]
   obtain ⟨G4,hG4,f4,p4,n4⟩:=Heap.aU f3.wf (.cells [.func 112 [],.func 114 [.ptr H.n 0]])
   have m3:=f3.n
   have m2:=f2.n
   have p34:=(f4.same _ (by omega)).trans p3
   obtain ⟨H',O',z3,hd⟩:=nZ (bw:=[]) T hc F hp f4 S3 Y' (λw h=>by cases h) (by decide) p4 (by omega) (by show 2<1000;omega) (λf hf=>by rcases YP.1 hf with rfl|hf;rfl;rw [YO.1 hf];rfl) (λB G vl1 vs1 vi1 fG ts=>by
    obtain ⟨G',zt,ts',kt⟩:=sG T ts
    have hlo:=ts.lo
    have hQ:∀ b,b<G3.n->b<G4.n:=λb h=>YE h f4.n
    have mt:=ts'.f.n
    obtain ⟨G'',vs2,zr,fr,hr,pr,mr,kr⟩:=Lm (cp:=cp) T ts' S.ok.drop ((kt _ (by omega)).trans ((fG.same _ (by omega)).trans p34)) (by omega) (by omega) hQ
    exact ⟨G'',vl1,vs2,.aB,⟨G',λd k=>zt (d+4) k,kt _ (by omega),G'',λd k=>zr (d+3) k,kr _ (by omega),rfl⟩,f4.trans fr,hr,pr,mr,rfl,λx hx=>(by cases hx),YG ⟨YG rfl,rfl⟩⟩) hfu
   have z3:∀ {d} {k},aj (aQ cp t fuel (d+8)) (.func 102 []) [.ptr vp 0,.aB,.slice G3.n 0 2 3 0] G4 k=k (.int 3 (sH pk A a (Q9 m g) []).2) H':=λ{d k}=>z3 d k
   refine ⟨H',O',λd k=>?_,hd.before s13⟩
   have w3:=f3.wf
   rw [aR T.k22 rfl rfl]
   simp only [go_sem,c22,bq,w0,hG0,↓z1,p1',↓zl,hu2,hl2,↓za,g3',↓sn,a1,a2,a3,h20,w3,hG4,↓z3,YN,or_self,Wt]
end
end Go.Ev
end
section
namespace Go.Ev
open Go.Proofs
theorem Dj {cs} {x} (h:x ∈ dw cs):x<cs.length:=List.mem_range.1 (List.mem_filter.1 h).1
def iD (m:MT) (n:Nat) (cs:List Wr):List Nat:=(dw (gA m n)).take (fy cs cs.length)
theorem Jk {m} {n i} {cs} (hn:n<=1024):(iD m n cs).getD i 0<1024:=by
 rw [YH]
 rcases h:(iD m n cs)[i]? with _|x
 .simp
 .have h1:=Dj (WN (YY h))
  rw [gA,dO]at h1
  show x<1024
  omega
theorem OZ {cs} {m} {n} (hn:n<=1024) (hc:∀ c ∈ cs,c.2.1<1000000/\um c.2):∀ i,i<=cs.length->∀ w ∈ El cs (iD m n cs) i,w.1<18446744073709551616/\w.2.1<1000000/\um w.2
 | 0,_,w,h=>by cases h
 | i+1,hi,w,h=>by
  rcases Yv.1 h with h|h
  .exact OZ hn hc i (by omega) w h
  .split at h
   .cases h
   .rw [YO.1 h]
    have hl:=Jk (m:=m) (i:=fy cs i) (cs:=cs) hn
    have hm:cs.getD i (0,(32,0)) ∈ cs:=by
     rw [YH,YB (show i<cs.length by omega)]
     simp
    exact ⟨by omega,hc (cs.getD i (0,(32,0))) hm⟩
def LM (m:MT) (n block:Nat) (d:Tx):MT:={m with live:=m.live.set block ((Bv [(block,d)] (iD m n [(block,d)]) 1).getD 0 0)}
def LV (m:MT) (n block:Nat) (d:Tx):List Wr:=El [(block,d)] (iD m n [(block,d)]) 1
def lI (m:MT) (n block:Nat) (d:Tx):Prop:=(dw (gA m n)).length<fy [(block,d)] 1
instance (m:MT) (n block:Nat) (d:Tx):Decidable (lI m n block d):=inferInstanceAs (Decidable (_<_))
section
variable {t:Nat->Option cF} {fuel:Nat} {H:Heap} {pk:List UInt8->List (List UInt8)} {unpk:List (List UInt8)->Option (List UInt8)}
set_option maxRecDepth 4000 in
theorem Fj (T:aG t) (hc:bg t) (F:bX pk unpk) (hp:t 123=some (.nat (eD pk))) {dp vp a n block:Nat} {data:List UInt8} {A:AD} {O:Nat->Prop} {m:MT} {vl vs vi:V} (S:VP H dp vp a n A O m vl vs vi) (hbk:block<18446744073709551616) (hdl:data.length<1000000)
 (hok:∀ l ∈ dR m,∀ a ∈ l,a≠0->193<=a/\a<A.len) (hfl:(dR m).flatten.length<1000000) (Y':se m block data=true->lg (LM m A.len block (tx data))) (hfu:1000000<fuel):
 ∃ H' O',(∀ (d:Nat) (k:K),aj (aQ (aO Tryz.prog) t fuel (d+9)) (.func 40 []) [.ptr vp 0,.int 3 block,tv data] H k=k (.int 3 (if se m block data=false then 2 else if lI m A.len block (tx data) then 7 else (sH pk A a (LM m A.len block (tx data)) (LV m A.len block (tx data))).2)) H')/\
  rz H H' dp vp O O' m vl vs vi (if se m block data=false\/lI m A.len block (tx data) then A else (sH pk A a (LM m A.len block (tx data)) (LV m A.len block (tx data))).1) (if se m block data=false\/lI m A.len block (tx data) then m else I6 pk A a m (LM m A.len block (tx data)) (LV m A.len block (tx data))) (if se m block data=false\/lI m A.len block (tx data) then false else Q4 pk A a (LM m A.len block (tx data)) (LV m A.len block (tx data))):=by
 have hn0:=S.ok.num
 have hl0:=S.ok.live.1
 obtain ⟨G0,hG0,f0,p0,n0⟩:=Heap.aU S.jh.wf (.cells [.int 3 block])
 have S0:=S.fresh f0
 obtain ⟨G1,z1,s1,D1,n1,g1,k1⟩:=px (cp:=aO Tryz.prog) (fuel:=fuel) T hc S0.jh S0.get S0.vn S0.vo
 rw [S.off]at z1 g1
 have z1:=λ{d} {k}=>z1 (d+5) k
 have S1:VP G1 dp vp a n A O m vl vs vi:=⟨D1,S.off,S.can,S.lo,S.hi,g1,by rw [n1];exact S0.vn,S.vo,S0.Js.dm s1,S.ok⟩
 have hne:H.n≠vp:=by have:=S.vn;omega
 have p1:=(k1 _ hne).trans p0
 have s01:=f0.step.trans s1
 have w0:=S.jh.wf
 have w1:=D1.wf
 have zm:=λ{d} {k}=>LI (cp:=aO Tryz.prog) (fuel:=fuel) T g1 S1.Js (by omega) hbk hdl d k
 have hmb:(decide (block<9223372036854775808) && se m block data)=se m block data:=by
  unfold se
  by_cases h:block<m.live.length
  .rw [decide_eq_true (show block<9223372036854775808 by omega),Bool.true_and]
  .rw [decide_eq_false h,Qf,QQ]
 rw [hmb]at zm
 simp only [tv]at zm
 rcases hmay:se m block data with _|_
 .rw [hmay]at zm
  simp only [if_true,true_or]
  refine ⟨G1,O,λd k=>?_,S1.done.before s01⟩
  simp only [tv]
  rw [aR T.k20 rfl rfl]
  simp only [go_sem,c20,w0,hG0,↓z1,p1,↓zm,YN,or_self,Qh]
 .rw [hmay]at zm
  simp only [QR,if_false,false_or]
  have hblk:=by
   unfold se at hmay
   rw [Bool.and_eq_true,decide_eq_true_eq]at hmay
   exact hmay.1
  obtain ⟨G2,hG2,f2,p2,n2⟩:=Heap.aU w1 (.cells [.int 3 block,.str data.length (enc data)])
  have S2:=S1.fresh f2
  have hX:Row G2 (bM O vp) (.slice G1.n 0 1 2 0) 2 1 (cC [(block,tx data)]):=⟨rfl,(λx hx=>by rcases YP.1 hx with rfl|hx;rfl;rw [YO.1 hx];rfl),YD ⟨_,0,2,0,_,rfl,YG p2,by omega,λh=>by have:=S1.lt _ h;omega,by show 0+1*2<=2;omega,rfl⟩⟩
  obtain ⟨G3,va,vw,z3,f3,hva,hvw,h3⟩:=HK T hc S2.jh S2.get S2.vn S2.Js S.ok hX (by show 1<1000;omega) S.hi hok S2.lt hfl hfu
  have z3:=λ{d} {k}=>z3 (d+3) k
  obtain ⟨G4,hG4,f4,p4,n4⟩:=Heap.aU f3.wf (.cells [.aB])
  obtain ⟨G5,hG5,f5,p5,n5,w5,k5⟩:=Heap.bd f4 (YA _) (by omega) (.cells [va])
  have S5:=(S2.fresh f3).fresh f5
  have s15:=s01.trans ((f2.trans f3).trans f5).step
  have ja:=λ{id} {k}=>aI hva (id:=id) (k:=k)
  have jw:=λ{id} {k}=>aI hvw (id:=id) (k:=k)
  have w3:=f3.wf
  have w4:=f4.wf
  have b4:G3.n<G4.n:=by omega
  have m3:=f3.n
  have p15:=((f2.trans f3).trans f5).same _ (by omega) |>.trans p1
  by_cases hfull:lI m A.len block (tx data)
  .simp only [if_pos hfull]
   rw [show (if (dw (gA m A.len)).length<fy [(block,tx data)] [(block,tx data)].length then 7 else 0)=7 from if_pos hfull]at z3
   refine ⟨G5,O,λd k=>?_,S5.done.before s15⟩
   simp only [tv]
   rw [aR T.k20 rfl rfl]
   simp only [go_sem,c20,w0,hG0,↓z1,p1,↓zm,YN,or_self,Wt,w1,hG2,↓z3,w3,hG4,p4,↓ja,w4,b4,hG5]
  .simp only [if_neg hfull]
   rw [show (if (dw (gA m A.len)).length<fy [(block,tx data)] [(block,tx data)].length then 7 else 0)=0 from if_neg hfull]at z3
   obtain ⟨oa,ow⟩:=h3 hfull
   obtain ⟨G6,hG6,f6,p6,n6⟩:=Heap.aU w5 (.cells [.func 104 [.ptr H.n 0,.ptr G3.n 0]])
   have hQ5:=λb h=>S2.lt b h
   have hwl:fy [(block,tx data)] 1<=1:=qP _ _
   have hplw:(LV m A.len block (tx data)).length=fy [(block,tx data)] 1:=Bx _ _ _
   have ra:Row G5 (bM O vp) va 1 1 ((Bv [(block,tx data)] (iD m A.len [(block,tx data)]) 1).map (V.int 3)):=(oa.toRow hQ5).fresh f5
   have rw_:Row G5 (bM O vp) vw 2 (LV m A.len block (tx data)).length (cC (LV m A.len block (tx data))):=by rw [hplw];exact (ow.toRow hQ5).fresh f5
   have hpl1:(Bv [(block,tx data)] (iD m A.len [(block,tx data)]) 1).length=1:=sf _ _ _
   obtain ⟨p,hpp⟩:∃ p,Bv [(block,tx data)] (iD m A.len [(block,tx data)]) 1=[p]:=List.length_eq_one_iff.1 hpl1
   have hpn:nn p:=by
    have:(Bv [(block,tx data)] (iD m A.len [(block,tx data)]) 1).getD 0 0<1024:=by
     show (if _ then 0 else _)<1024
     split
     .omega
     .exact Jk S.hi
    rw [hpp]at this
    have:p<1024:=this
    unfold nn;omega
   have hwrm:LM m A.len block (tx data)={m with live:=m.live.set block p }:=by unfold LM;rw [hpp];rfl
   have Yw:=Y' hmay
   have p36:=(f6.same _ (by omega)).trans p5
   have p16:=(f6.same _ (by omega)).trans p15
   have hbw:=OZ (cs:=[(block,tx data)]) (m:=m) S.hi (λc hc=>by rw [YO.1 hc];exact ⟨hdl,iC _⟩) 1 (YA 1)
   obtain ⟨H',O',z7,hd⟩:=nZ (bw:=LV m A.len block (tx data)) T hc F hp f6 S5 Yw hbw (by omega) p6 (by omega) (by show 1<1000;omega) (λf hf=>by rw [YO.1 hf];rfl) (λB G vl1 vs1 vi1 fG ts=>by
    have hlo:=ts.lo
    have mG:=fG.n
    have hQ:∀ b,b<G5.n->b<G6.n:=λb h=>YE h f6.n
    obtain ⟨G',vl2,zw,fw,hw',pw,mw,kw⟩:=IM (cp:=aO Tryz.prog) T ts S.ok ((fG.same _ (by omega)).trans p16) ((fG.same _ (by omega)).trans p36) (by have:=((ra.fresh f6).fresh fG);rw [hpp]at this;exact this) rfl hpn hblk hQ
    rw [hwrm]
    have hf:=f6.trans fw
    refine ⟨G',vl2,vs1,vi1,⟨G',λd k=>zw (d+2) k,kw _ (by omega) (by omega),rfl⟩,hf,hw',pw,mw,rw_.fresh hf⟩) hfu
   have z7:∀ {d} {k},aj (aQ (aO Tryz.prog) t fuel (d+8)) (.func 102 []) [.ptr vp 0,vw,.slice G5.n 0 1 2 0] G6 k=k (.int 3 (sH pk A a (LM m A.len block (tx data)) (LV m A.len block (tx data))).2) H':=λ{d k}=>z7 d k
   refine ⟨H',O',λd k=>?_,hd.before s15⟩
   simp only [tv]
   rw [aR T.k20 rfl rfl]
   simp only [go_sem,c20,w0,hG0,↓z1,p1,↓zm,YN,or_self,Wt,w1,hG2,↓z3,w3,hG4,p4,↓ja,w4,b4,hG5,w5,hG6,↓z7]
end
end Go.Ev
end
section
namespace Go.Ev
section
variable {cp:RC->ai} {t:Nat->Option cF} {fuel:Nat} {H:Heap}
end
end Go.Ev
end
section
namespace Go.Ev
section
variable {cp:RC->ai} {t:Nat->Option cF} {fuel:Nat} {H:Heap} {O:Nat->Prop}
end
end Go.Ev
end
section
namespace Go.Ev
section
variable {cp:RC->ai} {t:Nat->Option cF} {fuel:Nat} {H:Heap}
end
end Go.Ev
end
section
namespace Go.Ev
section
variable {cp:RC->ai} {t:Nat->Option cF} {fuel:Nat} {H:Heap} {pk:List UInt8->List (List UInt8)} {unpk:List (List UInt8)->Option (List UInt8)}
end
end Go.Ev
end
section
namespace Go.Ev
structure xO (cs:List Wr) (b:Nat):Prop where
 lt:∀ c ∈ cs,c.1<b/\c.2.1=32/\um c.2
 up:∀ i,i+1<cs.length->(cs.getD i (0,(0,0))).1<(cs.getD (i+1) (0,(0,0))).1
section
variable {cp:RC->ai} {t:Nat->Option cF} {fuel:Nat} {H:Heap} {O:Nat->Prop}
end
end Go.Ev
end
section
namespace Go.Ev
section
variable {cp:RC->ai} {t:Nat->Option cF} {fuel:Nat} {H:Heap}
end
end Go.Ev
end
section
namespace Go.Ev
theorem eqG {id} {g h:Gd} {f}:jU id [1,1] [.int 7 g.1,.int 7 g.2] [.int 7 h.1,.int 7 h.2] f=f (decide (g=h)):=by
 obtain ⟨g1,g2⟩:=g
 obtain ⟨h1,h2⟩:=h
 by_cases e1:g1=h1
 .by_cases e2:g2=h2
  .subst e1 e2
   simp only [cA,dK,if_true,decide_true]
  .have hne:¬ ((g1,g2):Gd)=(h1,h2):=λh=>e2 (congrArg YP4 h)
   simp only [cA,dK,e1,e2,if_true,if_false]
   simp_all
 .have hne:¬ ((g1,g2):Gd)=(h1,h2):=λh=>e1 (congrArg YP3 h)
  simp only [cA,dK,e1,if_false,hne,decide_false]
theorem abb {g h:Gd} (e:g=h) {id} {f}:jU id [1,1] [.int 7 g.1,.int 7 g.2] [.int 7 h.1,.int 7 h.2] f=f true:=by rw [eqG,decide_eq_true e]
theorem aeY {g h:Gd} (e:¬ g=h) {id} {f}:jU id [1,1] [.int 7 g.1,.int 7 g.2] [.int 7 h.1,.int 7 h.2] f=f false:=by rw [eqG,decide_eq_false e]
def ij (l:List Nat) (cs:List Wr) (at_:List Nat):Nat->List Nat
 | 0=>l
 | i+1=>(ij l cs at_ i).set (cs.getD i (0,(0,0))).1 (at_.getD i 0)
theorem zG {l} {cs} {at_}:∀ i,(ij l cs at_ i).length=l.length
 | 0=>rfl
 | i+1=>by simp only [ij,List.length_set,zG i]
section
variable {cp:RC->ai} {t:Nat->Option cF} {fuel:Nat} {H:Heap}
end
end Go.Ev
end
section
namespace Go.Ev
open Go.Proofs
theorem NN {m} {n} {cs} (hn:n<=1024):∀ p ∈ iD m n cs,p<1024:=λp hp=>by
 have h:=Dj (WN hp)
 unfold gA at h
 rw [dO]at h
 omega
theorem OX {cs} {fr} (h:∀ p ∈ fr,p<1024):∀ i,∀ p ∈ Bv cs fr i,p<1024
 | 0,p,hp=>by cases hp
 | i+1,p,hp=>by
  rcases Yv.1 hp with hp|hp
  .exact OX h i p hp
  .rw [YO.1 hp]
   split
   .omega
   .rw [YH]
    rcases hx:fr[fy cs i]? with _|x
    .simp
    .exact h x (YY hx)
section
variable {cp:RC->ai} {t:Nat->Option cF} {fuel:Nat} {H:Heap}
end
section
variable {t:Nat->Option cF} {fuel:Nat} {H:Heap} {pk:List UInt8->List (List UInt8)} {unpk:List (List UInt8)->Option (List UInt8)}
end
end Go.Ev
end
section
namespace Go.Ev
def bz (l:List Gd):List V:=l.flatMap bq
theorem pJ:∀ l:List Gd,(bz l).length=l.length*2
 | []=>rfl
 | g :: l=>by
  show (bq g ++ bz l).length=_
  rw [YC,pJ l,YF,Wn]
  simp only [bq,YF,YM];omega
theorem rU (a b):bz (a ++ b)=bz a ++ bz b:=List.flatMap_append
theorem C1 (g):∀ y ∈ bq g,y.one=true:=λy hy=>by
 rcases YP.1 hy with rfl|hy
 .rfl
 .rw [YO.1 hy];rfl
section
variable {cp:RC->ai} {t:Nat->Option cF} {fuel:Nat} {H:Heap} {O:Nat->Prop}
theorem KH (T:aG t) {vs:V} {ss:List Sn} (hw:H.wf) (hS:ib H O vs ss) (hn:ss.length<1000) (hfu:1000<fuel):
 ∃ G' v',ae H G'/\Own H G' v' 2 ss.length (bz (ss.map (·.g)))/\∀ (d:Nat) (kx:Nat->KE) (e:Env) (x:R),aa s003 e = .aB->aa s014 e=vs->aa s015 e = .int 3 ss.length->aa s016 e = .int 3 0->
  (∀ e',aa s003 e'=v'->kx 1 e' G'=x)->jF MR fuel (aQ cp t fuel d) kx fuel e H=x:=by
 have nl:nn ss.length:=by unfold nn;omega
 obtain ⟨v',G',⟨f',o'⟩,z⟩:=bV (c:=MR)
  (I:=λi v G=>ae H G/\Own H G v 2 i (bz ((ss.take i).map (·.g))))
  (S:=λi v e=>aa s003 e=v/\aa s014 e=vs/\aa s015 e = .int 3 ss.length/\aa s016 e = .int 3 i) (λi v G hil ⟨f,o⟩=>by
   obtain ⟨b,ob,c,z,y,rfl,hbn,-,hy,hrd⟩:=hS.open hil
   have htk:ss.take (i+1)=ss.take i ++ [ss[i]]:=by rw [List.take_add_one,YB hil];rfl
   have hrd:=λ{id} {k}=>hrd (f.same _ hbn) (id:=id) (k:=k)
   generalize ss[i]=s at htk hy hrd
   have w0:=f.wf
   obtain ⟨G1,hG1,f1,p1,n1⟩:=Heap.aU w0 (.cells [.int 7 0,.int 7 0,.aB,.bool false])
   obtain ⟨G2,hG2,f2,p2,n2,w2,k2⟩:=Heap.bd f1 (YA _) (by omega) (.cells (bQ s y))
   obtain ⟨G3,hG3,f3,p3,n3⟩:=Heap.aU w2 (.cells (bq s.g))
   have f03:=(f.trans f2).trans f3
   obtain ⟨v',G4,hap,o4,f4,-⟩:=Own.app (w:=v) (x:=.slice G2.n 0 1 2 0) f03 ((o.fresh f2).fresh f3) (λ{id f}=>kh p3 rfl) rfl (C1 _) (by omega)
   have i1:=λ{id} {k}=>aI hy.one (id:=id) (k:=k)
   have w1:=f1.wf
   have a1:nn i:=by unfold nn;omega
   have a2:i<9223372036854775808:=by omega
   have a3:(i+1)%18446744073709551616=i+1:=by omega
   have a4:G.n<G1.n:=by omega
   refine ⟨v',G4,⟨f4,by rw [htk,WE,rU];simpa [bz] using o4⟩,λd kx r e x ⟨q3,q14,q15,q16⟩ hk=>?_⟩
   simp only [bQ]at hG2 p2 hrd
   simp only [bq]at hG3
   rw [ak]
   simp only [go_sem,MR,q3,q14,q15,q16,hil,nl,a1,a2,a3,a4,↓hrd,w0,hG1,p1,w1,hG2,p2,↓i1,w2,hG3,↓hap]
   refine hk _ ?_
   simp only [go_sem,q14,q15,and_self]) ss.length 0 .aB H (by omega) ⟨ae.refl hw,Own.nil⟩
 rw [List.take_length]at o'
 refine ⟨G',v',f',o',λd kx e x q3 q14 q15 q16 hk=>z d kx fuel e x (by omega) ⟨q3,q14,q15,q16⟩ λr e' ⟨q3,q14,q15,q16⟩=>?_⟩
 have e6:¬ ss.length<ss.length:=by omega
 rw [ak]
 simp only [go_sem,MR,q15,q16,nl,e6]
 exact hk _ q3
theorem kK (T:aG t) {dp vp a n} {A} {m} {vl vs vi} (S:VP H dp vp a n A O m vl vs vi) (hfu:1000<fuel):
 ∃ H' v',(∀ (d) (k),aj (aQ cp t fuel (d+1)) (.func 16 []) [.ptr vp 0] H k=k v' H')/\ae H H'/\Own H H' v' 2 m.ah.length (bz (m.ah.map (·.g))):=by
 obtain ⟨G',v',f',o',z⟩:=KH T S.jh.wf S.Js.ah S.ok.num hfu
 have g:=S.get
 simp only [vc,aS,cg,Yb,YT]at g
 have sn:=λ{id} {f:Nat->R}=>(let ⟨_,h,_⟩:=S.Js.ah;h.sn:bh id vs (λ_ _ len _ _=>f len) (f 0)=f m.ah.length)
 have a1:m.ah.length<9223372036854775808:=by have:=S.ok.num;omega
 refine ⟨G',v',λd k=>?_,f',o'⟩
 rw [aR T.k8 rfl rfl]
 simp only [go_sem,c8,g,↓sn,a1]
 refine z d _ _ _ ?_ ?_ ?_ ?_ λe' q3=>?_
 .rfl
 .rfl
 .rfl
 .rfl
 simp_all
end
end Go.Ev
end
section
namespace Go.Ev
section
variable {cp:RC->ai} {t:Nat->Option cF} {fuel:Nat} {H:Heap} {O:Nat->Prop}
end
end Go.Ev
end

