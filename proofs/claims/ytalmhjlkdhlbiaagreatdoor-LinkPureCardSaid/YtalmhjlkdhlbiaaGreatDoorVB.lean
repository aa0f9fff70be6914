/- VB: a part of the evaluator,of its logic,or of the laws' walk in it. -/
import Derived.Test.YtalmhjlkdhlbiaaGreatDoorLC
open Nat renaming le_refl → YA,lt_of_lt_of_le → YC,zero_le → Yk,le_trans → Ym,add_zero → WI,mul_one → WN,not_lt_zero → Wa,add_mul → Wp,sub_self → Qr,add_sub_cancel → YA3,le_zero → YG2
open List renaming getElem?_eq_getElem → YB,length_append → YD,length_cons → YF,mem_cons_of_mem → YH,getD_eq_getElem?_getD → YJ,length_nil → YM,nil_append → YN,mem_singleton → YO,cons_append → YP,eq_nil_of_length_eq_zero → YR,mem_cons → YT,append_nil → YW,replicate → YZ,getElem?_eq_some_iff → Ya,getElem_mem → Yb,take_of_length_le → Yc,map_cons → Yd,mem_map → Ye,getElem?_map → Yh,mem_of_getElem? → Yi,length_map → Yl,getElem?_append_left → Yq,getElem?_append_right → Ys,mem_append → Yt,map_nil → WA,map_append → WB,append_assoc → WC,getElem?_take → WD,getElem?_drop → WE,mem_of_mem_take → WW,take_length → Wf,length_replicate → Wj,take_zero → Wy,length_set → YD4,map_replicate → YF0
open Or renaming inr → YE,inl → YG
open Bool renaming false_eq_true → YU,not_true → Wq,false_and → QO,true_eq_false → QQ,and_false → Qn,or_false → Qx,not_false → YB2,and_true → YL2
open Option renaming getD_some → Yn
open Prod renaming fst → YO3,snd → YO4
set_option linter.unusedVariables false
set_option linter.unusedSimpArgs false
set_option linter.unusedSectionVars false
set_option maxHeartbeats 8000000
open Nat renaming reduceAdd→ZA,reduceSub→ZB,reduceMul→ZC,reduceEqDiff→ZD,reduceLT→ZE,reduceDiv→ZF,reduceMod→ZG,reduceLeDiff→ZH
section
namespace Go.Ev
def ir (A:AD) (ss:List (List UInt8)):Nat->List Wr
 | 0=>[]
 | i+1=>ir A ss i ++ (if A.read (145+i)=tx (ss.getD i []) then [] else [(145+i,tx (ss.getD i []))])
theorem rC (A) (ss):∀ i,(ir A ss i).length<=i
 | 0=>YA _
 | i+1=>by
  have:=rC A ss i
  simp only [ir,YD]
  split<;>simp<;>omega
theorem nU {A} {ss}:∀ {i} {w},w ∈ ir A ss i->∃ j,j<i/\w=(145+j,tx (ss.getD j []))
 | 0,w,h=>by cases h
 | i+1,w,h=>by
  rcases Yt.1 h with h|h
  .obtain ⟨j,hj,e⟩:=nU h;exact ⟨j,by omega,e⟩
  .split at h
   .cases h
   .exact ⟨i,by omega,YO.1 h⟩
theorem qA {A} {ss}:∀ i,((ir A ss i).map (·.1)).Nodup
 | 0=>List.nodup_nil
 | i+1=>by
  simp only [ir,WB]
  refine List.nodup_append.2 ⟨qA i,by split<;>simp,λx hx y hy=>?_⟩
  obtain ⟨w,hw,rfl⟩:=Ye.1 hx
  obtain ⟨j,hj,rfl⟩:=nU hw
  split at hy
  .cases hy
  .simp only [Yd,WA,YO]at hy
   omega
theorem IN {A} {ss}:∀ {i j},j<i->A.read (145+j)≠tx (ss.getD j [])->((145+j,tx (ss.getD j [])):Wr) ∈ ir A ss i
 | 0,j,h,_=>by omega
 | i+1,j,h,hn=>by
  simp only [ir]
  by_cases hj:j=i
  .simp_all
  .exact List.mem_append_left _ (IN (by omega) hn)
theorem JM {A B:AD} {ss} {n} (hB:∀ k,145<=k->find B.es k=find (laid A.es (ir A ss n)) k) {j} (hj:j<n):B.read (145+j)=tx (ss.getD j []):=by
 rw [AD.read,hB _ (by omega)]
 by_cases h:A.read (145+j)=tx (ss.getD j [])
 .have hno:145+j ∉ (ir A ss n).map (·.1):=λhm=>by
   obtain ⟨w,hw,e⟩:=Ye.1 hm
   have:∀ m,((145+j,tx (ss.getD j [])):Wr) ∉ ir A ss m:=by
    intro m
    induction m with
    | zero=>intro h;cases h
    | succ m ih=>
     intro hx
     simp only [ir]at hx
     simp_all
   obtain ⟨i,hi,rfl⟩:=nU hw
   simp_all
  rw [dB hno]
  exact h
 .rw [show find (laid A.es (ir A ss n)) (145+j)=some (tx (ss.getD j [])) from eN (qA n) (IN hj h)]
  rfl
theorem Bb {len}:∀ {ws} {seen},(∀ w ∈ ws,qc len w/\w.1 ∉ seen)->(ws.map (·.1)).Nodup->gW len seen ws=true
 | [],_,_,_=>rfl
 | w :: ws,seen,h,hn=>by
  rw [Yd,List.nodup_cons]at hn
  simp only [gW]
  rw [if_pos (h w (List.mem_cons_self ..))]
  refine Bb (λv hv=>⟨(h v (YH _ hv)).1,λhm=>?_⟩) hn.2
  rcases Yt.1 hm with hm|hm
  .exact (h v (YH _ hv)).2 hm
  .exact hn.1 (Ye.2 ⟨v,hv,YO.1 hm⟩)
theorem I6 {m} (h:(oq m).2=0):(oq m).1.length<=1530:=by
 unfold oq at h ⊢
 split at h
 .rename_i h0
  rw [if_pos h0]
  split at h
  .omega
  .rename_i h1
   rw [if_neg h1]
   show (nums (mZ m)).length<=1530
   omega
 omega
section
variable {cp:RC->aq} {t:Nat->Option cW} {fuel:Nat} {H:Heap} {O:Nat->Prop} {pk:List UInt8->List (List UInt8)} {unpk:List (List UInt8)->Option (List UInt8)}
theorem xE (T:aJ t) (F:cT pk unpk) (hp:t 123=some (.nat (fN pk))) {m} {vl vs vi} (hw:H.wf) (M:jk H O m vl vs vi) (Y:nE m) (hfu:1000<fuel):
 ∃ H' v,(∀ (d) (k),aj (aQ cp t fuel (d+7)) (.func 164 []) [.agg (aS m vl vs vi)] H k=k (.cE [v,.int 3 (oq m).2]) H')/\ae H H'/\v.one=true/\((oq m).2=0->Own H H' v 1 (pk (oq m).1).length ((pk (oq m).1).map tv)):=by
 have i1:=λ{id} {k}=>aG M.live.one (id:=id) (k:=k)
 have i2:=λ{id} {k}=>aG (let ⟨_,h,_⟩:=M.ah;h.one) (id:=id) (k:=k)
 have i3:=λ{id} {k}=>aG M.cz.one (id:=id) (k:=k)
 obtain ⟨G1,hG1,f1,p1,n1⟩:=Heap.aP hw (.cells (aS m vl vs vi))
 obtain ⟨G2,z2,f2⟩:=tZ (cp:=cp) T f1.wf (M.fresh f1) Y hfu
 have w2:=f2.wf
 have z2:=λ{d} {k}=>z2 d k
 by_cases h0:(oq m).2=0
 .have hl:=I6 h0
  obtain ⟨G3,hG3,f3,p3,n3⟩:=Heap.aP w2 (.cells ((pk (oq m).1).map tv))
  have hpl:∀ {d} {k},aj (aQ cp t fuel (d+1)) (.func 246 []) [.str (oq m).1.length (enc (oq m).1)] G2 k=k (.cE [.slice G2.n 0 (pk (oq m).1).length 0 1,.int 3 0]) G3:=λ{d k}=>by
   rw [nT hp rfl rfl]
   simp only [fN,YW,fq]
   rw [if_pos ⟨by omega,iw _⟩,cS w2,hG3]
  refine ⟨G3,.slice G2.n 0 (pk (oq m).1).length 0 1,λd k=>?_,(f1.trans f2).trans f3,rfl,λ_=>⟨by simp,λx hx=>?_,YE ⟨_,_,_,[],rfl,by rw [YW];omega,YE ⟨rfl,rfl,rfl⟩,(f1.trans f2).n,by omega⟩⟩⟩
  .rw [h0]at z2 ⊢
   simp only [tv]at z2
   simp only [aS,bP]at hG1 p1 z2
   rw [aR T.k82 rfl rfl]
   simp only [go_sem,c82,aS,bP,↓i1,↓i2,↓i3,hw,hG1,p1,↓z2,↓hpl]
  .obtain ⟨s,-,rfl⟩:=Ye.1 hx
   rfl
 .refine ⟨G2,.aw,λd k=>?_,f1.trans f2,rfl,λh=>absurd h h0⟩
  simp only [aS,bP]at hG1 p1 z2
  rw [aR T.k82 rfl rfl]
  simp only [go_sem,c82,aS,bP,↓i1,↓i2,↓i3,hw,hG1,p1,↓z2,h0]
end
end Go.Ev
end
section
namespace Go.Ev
theorem Gr.grow {H G:Heap} {v x:V} {sz n m:Nat} {row new:List V} (f:ae H G) (h:Gr H G v sz n row) (hN:∀ {id:Nat} {f:Nat->List V->R},de id sz G x f=f m new) (hl:new.length=m*sz) (hone:∀ v ∈ new,v.one=true) (hb:n+m<1000000):
 ∃ v' G',(∀ {id:Nat} {ph:dg} {e:Env} {k:K} {a y:Arg},aA a e=v->aA y e=x->aN (.app false sz a y) id ph e G k=k v' G')/\Gr H G' v' sz (n+m) (row ++ new)/\ae H G'/\(∀ j,j<G.n->kO v j->G'.get j=G.get j):=by
 by_cases hm:m=0
 .subst hm
  have hr:new=[]:=YR (by omega)
  subst hr
  refine ⟨v,G,λ{id ph e k a y} ha hx=>?_,by rw [YW];exact h,f,λj _ _=>rfl⟩
  rw [dG,ha,hx,hN]
  obtain ⟨_,_,⟨rfl,_⟩|⟨b,c,s,rfl,_⟩⟩:=h
  .rw [fH,if_pos rfl]
  .rw [cZ,if_pos rfl]
 have hw:=f.wf
 obtain ⟨h1,h2,⟨rfl,rfl⟩|⟨b,c,s,rfl,g2,g3,g4,g5,g6⟩⟩:=h
 .have hr:row=[]:=YR (by omega)
  subst hr
  refine ⟨.slice G.n 0 m 0 sz,G.new (.cells new),λ{id ph e k a y} ha hx=>?_,⟨by simp [hl],by simpa using hone,YE ⟨G.n,0,sz,by rw [Nat.zero_add],by omega,YE ⟨rfl,rfl⟩,?_,f.n,by rw [Heap.aO];omega⟩⟩,f.trans (ae.new hw),λj hj _=>?_⟩
  .rw [dG,ha,hx,hN,fH,if_neg hm,cF hone,if_pos (by omega),cS hw]
  .rw [Heap.aH hw,if_pos rfl];rfl
  .rw [Heap.aH hw,if_neg (by omega)]
 .have hlr:∀ {id:Nat} {g:List V->R},dU id G b 0 (n*sz) g=g row:=λ{id g}=>by
   rw [rO,g4,ij,gE (Yk _),fQ (by simp [h1])]
   rw [List.drop_zero,Yc (by omega)]
  have hlen:(row ++ new).length=(n+m)*sz:=by rw [YD,h1,hl,Wp]
  have hon:∀ v ∈ row ++ new,v.one=true:=λv hv=>(Yt.1 hv).elim (h2 v) (hone v)
  rcases g3 with rfl|⟨rfl,rfl⟩
  .refine ⟨.slice G.n 0 (n+m) 0 sz,G.new (.cells (row ++ new)),λ{id ph e k a y} ha hx=>?_,⟨hlen,hon,YE ⟨G.n,0,sz,rfl,by omega,YE ⟨rfl,rfl⟩,?_,f.n,by rw [Heap.aO];omega⟩⟩,f.trans (ae.new hw),λj hj _=>?_⟩
   .rw [dG,ha,hx,hN,cZ,if_neg hm,jA (by omega),cF hone,if_pos (by omega),hlr,cF h2,cS hw]
   .rw [Heap.aH hw,if_pos rfl]
   .rw [Heap.aH hw,if_neg (by omega)]
  .have hw2:(G.put b .dead).wf:=by rw [Heap.bI];exact hw
   refine ⟨.slice G.n 0 (n+m) 0 s,(G.put b .dead).new (.cells (row ++ new)),λ{id ph e k a y} ha hx=>?_,⟨hlen,hon,YE ⟨G.n,0,s,rfl,by omega,YE ⟨rfl,rfl⟩,?_,f.n,by rw [Heap.aO,Heap.aT];omega⟩⟩,(f.put g5 g6).trans (ae.new hw2),λj hj ho=>?_⟩
   .rw [dG,ha,hx,hN,cZ,if_neg hm,pj,cF hone,if_pos (by omega),g4,ij,if_pos h1,fi hw g6,cS hw2,Heap.aT]
   .rw [Heap.aH hw2,if_pos (by rw [Heap.aT])]
   .rw [Heap.aH hw2,if_neg (by rw [Heap.aT];omega),Heap.aF hw g6,if_neg (ho _ _ _ _ _ rfl)]
theorem td {ph} {e} {H H'} {kn:KE} {n0 id} {l} {fl st} {dd} {i bf} {ad} {op} {v w} {x} (hb:aA ad e=w) (hw:w = .aw\/∃ b o n c s,w = .slice b o n c s/\∀ k:R,dw id bf b fl k=k) (hop:∀ k:K,aN op id ph e H k=k v H')
 (hx:∀ st',bD ph n0 l (dK dd v e) H' fl st' kn=x):bD ph n0 (⟨id,dd,none,3,i,bf,ad,op⟩:: l) e H fl st kn=x:=by
 show aI ad e (λa=>mS id a λob=>Option.rec (aN op id ph e H λv H'=>bX dd v e λe'=>bD ph n0 l e' H' fl st kn)
  (λb=>dw id bf b fl (aN op id ph e H λv H'=>bX dd v e λe'=>bD ph n0 l e' H' fl ((i,b):: st) kn)) ob)=_
 rw [ai,hb]
 rcases hw with rfl|⟨b,o,n,c,s,rfl,h⟩
 .show aN op id ph e H (λv H'=>bX dd v e λe'=>bD ph n0 l e' H' fl st kn)=_
  rw [hop,cw]
  simp_all
 .show dw id bf b fl (aN op id ph e H λv H'=>bX dd v e λe'=>bD ph n0 l e' H' fl ((i,b):: st) kn)=_
  rw [h,hop,cw]
  simp_all
def Ip (cp:RC->aq) (t:Nat->Option cW) (fuel B bt:Nat):List V->Heap->Heap->Prop
 | [],G,G'=>G'=G
 | f :: fs,G,G'=>∃ G1,(∀ (d:Nat) (k:K),aj (aQ cp t fuel (d+5)) f [.ptr B 0] G k=k (.cE []) G1)/\G1.get bt=G.get bt/\Ip cp t fuel B bt fs G1 G'
def vc (m:MT) (vl vs vi:V) (dp:Nat) (lost:Bool):List V:=aS m vl vs vi ++ [.ptr dp 0,.bool lost]
section
variable {cp:RC->aq} {t:Nat->Option cW} {fuel:Nat} {H:Heap}
theorem kD (T:aJ t) {B bt c z vp} {vb} {all} (hn:all.length<1000) (ha:∀ f ∈ all,f.one=true):
 ∀ (fs pre) (G G'),all=pre ++ fs->Ip cp t fuel B bt fs G G'->G.get bt = .cells all->∀ (d) (kx) (r) (e),fs.length<r->aa s000 e = .ptr vp 0->aa s001 e=vb->aa s007 e = .ptr B 0->aa s026 e = .slice bt 0 all.length c z->aa s027 e = .int 3 all.length->aa s030 e = .int 3 pre.length->
  ∀ x:R,(∀ e',aa s000 e' = .ptr vp 0->aa s001 e'=vb->aa s007 e' = .ptr B 0->kx 1 e' G'=x)->
  lr Iw fuel (aQ cp t fuel (d+7)) kx r e G=x
 | [],pre,G,G',hal,hT,hg,d,kx,r,e,hr,q0,q1,q7,q26,q27,q30,x,hk=>by
  obtain ⟨r,rfl⟩:∃ q,r=q+1:=⟨r-1,by omega⟩
  rw [YW]at hal
  subst hal
  obtain rfl:G'=G:=hT
  have e1:¬ all.length<all.length:=by omega
  have e2:nn all.length:=by unfold nn;omega
  rw [ax]
  simp only [go_sem,Iw,q27,q30,e1,e2]
  exact hk _ q0 q1 q7
 | f :: fs,pre,G,G',hal,⟨G1,z1,h1,hT⟩,hg,d,kx,r,e,hr,q0,q1,q7,q26,q27,q30,x,hk=>by
  obtain ⟨r,rfl⟩:∃ q,r=q+1:=⟨r-1,by omega⟩
  have hl:all.length=pre.length+(fs.length+1):=by rw [hal];simp
  have hget:all[pre.length]? = some f:=by rw [hal];simp
  have hf1:=ha f (Yi hget)
  have hrd:∀ {id} {k},nth id all pre.length k=k f:=js hget
  have e1:pre.length<all.length:=by omega
  have e2:nn all.length:=by unfold nn;omega
  have e3:nn pre.length:=by unfold nn;omega
  have e4:pre.length<9223372036854775808:=by omega
  have e5:(pre.length+1)%18446744073709551616=pre.length+1:=by omega
  have e6:=by omega
  have i1:=λ{id} {k}=>aG hf1 (id:=id) (k:=k)
  have z1:=λ{d} {k}=>z1 d k
  rw [ax]
  simp only [go_sem,Iw,q7,q26,q27,q30,e1,e2,e3,e4,e5,hg,↓hrd,↓z1]
  refine kD (c:=c) (z:=z) T hn ha fs (pre ++ [f]) G1 G' (by rw [hal];simp) hT (h1.trans hg) d kx r _ (by simp at hr;omega) ?_ ?_ ?_ ?_ ?_ ?_ x hk
  .exact q0
  .exact q1
  .exact q7
  .exact q26
  .exact q27
  .simp only [go_sem,YD,YF,YM]
theorem JN (T:aJ t) (hc:aY t) {vp dp B:Nat} {m:MT} {vl vs vi vS vb:V} {lost:Bool} {A:AD} {O Q:Nat->Prop} {ss:List (List UInt8)} (hD:cP H dp A O) (ho:A.off=false) (hV:H.get vp = .cells (vc m vl vs vi dp lost)) (hVn:vp<H.n) (hvs:Row H Q vS 1 ss.length (ss.map tv)) (hN:ss.length<=48) (hA:193<=A.len) (hA2:A.len<=1024):
 ∀ (m i:Nat) (G:Heap) (vw:V),i+m=ss.length->ae H G->Gr H G vw 2 (ir A ss i).length (bZ (ir A ss i))->
 ∃ G' vw',ae H G'/\Gr H G' vw' 2 (ir A ss ss.length).length (bZ (ir A ss ss.length))/\∀ (d:Nat) (kx:Nat->KE) (r:Nat) (e:Env),m<r->aa s000 e = .ptr vp 0->aa s001 e=vb->aa s007 e = .ptr B 0->aa s014 e=vw->aa s047 e=vS->aa s050 e = .int 3 ss.length->aa s051 e = .int 3 i->
  ∀ x:R,(∀ e',aa s000 e' = .ptr vp 0->aa s001 e'=vb->aa s007 e' = .ptr B 0->aa s014 e'=vw'->kx 3 e' G'=x)->
  lr Ck fuel (aQ cp t fuel (d+3)) kx r e G=x:=by
 intro mm
 induction mm with
 | zero=>
  intro i G vw hi f hg
  obtain rfl:i=ss.length:=by omega
  refine ⟨G,vw,f,hg,λd kx r e hr q0 q1 q7 q14 q47 q50 q51 x hT=>?_⟩
  obtain ⟨r,rfl⟩:∃ q,r=q+1:=⟨r-1,by omega⟩
  have e1:¬ ss.length<ss.length:=by omega
  have e2:nn ss.length:=by unfold nn;omega
  rw [ax]
  simp only [go_sem,Ck,q50,q51,e1,e2]
  exact hT _ q0 q1 q7 q14
 | succ mm ih=>
  intro i G vw hi f hg
  have hlt:i<ss.length:=by omega
  have hget:ss[i]? = some ss[i]:=YB hlt
  have hgd:ss.getD i []=ss[i]:=by rw [YJ,hget];rfl
  have hdif:ir A ss (i+1)=ir A ss i ++ (if A.read (145+i)=tx ss[i] then [] else [(145+i,tx ss[i])]):=by rw [<- hgd];rfl
  generalize ss[i]=sx at hget hdif
  have bM:(ss.map tv)[i*1]? = some (tv sx):=by rw [WN,Yh,hget];rfl
  obtain ⟨bs,os,cs,zs,rfl,hbn,-,hop⟩:=hvs.open hlt
  have hrd:∀ {id:Nat} {k:V->R},KM id (G.get bs) (os+i) k=k (tv sx):=λ{id k}=>by
   have:=(hop (f.same bs hbn)).2 bM (id:=id) (k:=k)
   rwa [WN]at this
  have gK:G.get vp = .cells (vc m vl vs vi dp lost):=(f.same vp hVn).trans hV
  obtain ⟨G1,z1,f1⟩:=oK (cp:=cp) (fuel:=fuel) (a:=145+i) (T.iP hc) (hD.fresh f) ho (by omega)
  have w1:=f1.wf
  have e1:nn i:=by unfold nn;omega
  have e2:nn ss.length:=by unfold nn;omega
  have e3:i<9223372036854775808:=by omega
  have e9:(i+1)%18446744073709551616=i+1:=by omega
  have e10:(145+i)%18446744073709551616=145+i:=by omega
  have z1':=λ{d:Nat} {k:K}=>z1 d k
  generalize hq:A.read (145+i)=q at z1' hdif
  simp only [vc,aS,bP,YP,YN]at gK
  by_cases hqs:q=tx sx
  .rw [if_pos hqs,YW]at hdif
   obtain ⟨G',vw',f',hg',hL⟩:=ih (i+1) G1 vw (by omega) (f.trans f1) (by rw [hdif];exact hg.fresh f1)
   refine ⟨G',vw',f',hg',λd kx r e hr q0 q1 q7 q14 q47 q50 q51 x hT=>?_⟩
   obtain ⟨r,rfl⟩:∃ q,r=q+1:=⟨r-1,by omega⟩
   rw [hqs]at z1'
   simp only [sv,tx]at z1'
   simp only [tv]at hrd
   rw [ax]
   simp only [go_sem,Ck,q0,q47,q50,q51,hlt,e1,e2,e3,e9,e10,↓hrd,gK,↓z1',and_self]
   refine hL d kx r _ (by omega) ?_ ?_ ?_ ?_ ?_ ?_ ?_ x hT
   .exact q0
   .exact q1
   .exact q7
   .exact q14
   .exact q47
   .exact q50
   .rfl
  .rw [if_neg hqs]at hdif
   obtain ⟨G2,hG2,f2,p2,n2⟩:=Heap.aP w1 (.cells [.int 3 (145+i),tv sx])
   obtain ⟨v',G3,hap,hg3,f3,_,_,_⟩:=Gr.app (cx:=2) (sx:=0) ((f.trans f1).trans f2) ((hg.fresh f1).fresh f2) p2 rfl (by simp [tv,V.one]) (by have:=rC A ss i;omega)
   have hl1:(ir A ss (i+1)).length=(ir A ss i).length+1:=by rw [hdif];simp
   have hl2:bZ (ir A ss (i+1))=bZ (ir A ss i) ++ [.int 3 (145+i),tv sx]:=by rw [hdif,ei];rfl
   obtain ⟨G',vw',f',hg',hL⟩:=ih (i+1) G3 v' (by omega) f3 (by rw [hl1,hl2];exact hg3)
   refine ⟨G',vw',f',hg',λd kx r e hr q0 q1 q7 q14 q47 q50 q51 x hT=>?_⟩
   obtain ⟨r,rfl⟩:∃ q,r=q+1:=⟨r-1,by omega⟩
   have hne:(q.1=sx.length/\q.2=enc sx)=False:=eq_false λh=>hqs (Prod.ext h.1 h.2)
   simp only [sv]at z1'
   simp only [tv]at hrd hG2
   rw [ax]
   simp only [go_sem,Ck,q0,q14,q47,q50,q51,hlt,e1,e2,e3,e9,e10,↓hrd,gK,↓z1',hne,w1,hG2,↓hap]
   refine hL d kx r _ (by omega) ?_ ?_ ?_ ?_ ?_ ?_ ?_ x hT
   .exact q0
   .exact q1
   .exact q7
   .rfl
   .exact q47
   .exact q50
   .rfl
end
end Go.Ev
end
section
namespace Go.Ev
def bH (O:Nat->Prop) (kp:Nat):Nat->Prop:=λb=>O b\/b=kp
theorem Step.kW {H:Heap} {P:Nat->Prop} {kp:Nat} {x:ee} (hw:H.wf) (hk:kp<H.n) (hp:P kp):Step H P (H.put kp x) P:=
 ⟨by rw [Heap.bI];exact hw,by rw [Heap.aT];exact YA _,λb hb ho=>⟨by rw [Heap.aF hw hk,if_neg (λe=>ho (by rw [e];exact hp))],ho⟩,λlo h1 h2 h3=>⟨Heap.fj h1 (h3 kp hp),h3⟩⟩
theorem Step.zU {H H':Heap} {O O':Nat->Prop} {kp:Nat} (s:Step H O H' O'):Step H (bH O kp) H' (bH O' kp):=
 ⟨s.wf,s.n,λb hb ho=>⟨(s.same b hb λh=>ho (YG h)).1,λh=>h.elim (λh=>(s.same b hb λh=>ho (YG h)).2 h) λh=>ho (YE h)⟩,λlo h1 h2 h3=>⟨(s.lo lo h1 h2 λb hb=>h3 b (YG hb)).1,λb hb=>hb.elim (λhb=>(s.lo lo h1 h2 λb hb=>h3 b (YG hb)).2 b hb) λhb=>h3 b (YE hb)⟩⟩
theorem gm.si {H:Heap} {O Q:Nat->Prop} {v:V} {ss:List Sn} (h:gm H O v ss) (h0:∀ b,b<H.n->Q b->O b):gm H Q v ss:=
 let ⟨xs,h1,h2,h3⟩:=h
 ⟨xs,h1.si h0,h2,λi s hs=>let ⟨x,g1,g2⟩:=h3 i s hs; ⟨x,g1,Row.si g2 h0⟩⟩
theorem jk.si {H:Heap} {O Q:Nat->Prop} {m:MT} {vl vs vi:V} (h:jk H O m vl vs vi) (h0:∀ b,b<H.n->Q b->O b):jk H Q m vl vs vi:=⟨Row.si h.live h0,h.ah.si h0,Row.si h.cz h0⟩
def Q9 (pk:List UInt8->List (List UInt8)) (A:AD) (m:MT) (bw:List Wr):List Wr:=ir A (pk (oq m).1) (pk (oq m).1).length ++ bw
def uM (pk:List UInt8->List (List UInt8)) (A:AD) (a:Nat) (m:MT) (bw:List Wr):AD × Nat:=if (oq m).2=0 then A.eH pk a (Q9 pk A m bw) else (A,(oq m).2)
section
variable {cp:RC->aq} {t:Nat->Option cW} {fuel:Nat} {H:Heap} {pk:List UInt8->List (List UInt8)} {unpk:List (List UInt8)->Option (List UInt8)}
set_option maxRecDepth 4000 in
theorem CC (T:aJ t) (hc:aY t) (F:cT pk unpk) (hp:t 123=some (.nat (fN pk))) {dp vp a n bt c z:Nat} {A:AD} {O:Nat->Prop} {m m':MT} {vl vs vi vb:V} {lost:Bool} {bw:List Wr} {fs:List V}
 {Hb:Heap} (f0:ae Hb H) (hD:cP Hb dp A O) (ho:A.off=false) (C:pg A a n) (hA:193<=A.len) (hA2:A.len<=1024) (hV:Hb.get vp = .cells (vc m vl vs vi dp lost)) (hVn:vp<Hb.n) (hVO:¬ O vp) (M:jk Hb (bH O vp) m vl vs vi) (Y:nE m) (Y':nE m')
 (hbw:∀ w ∈ bw,w.1<18446744073709551616/\w.2.1<1000000/\ur w.2) (hbl:bw.length<1000) (hbt:H.get bt = .cells fs) (hbn:bt<H.n) (hfl:fs.length<1000) (hf1:∀ f ∈ fs,f.one=true)
 (ht:∀ (G1 G:Heap) (vl1 vs1 vi1:V),ae H G1->MO H G1 m vl1 vs1 vi1->ae G1 G->G.get G1.n = .cells (aS m vl1 vs1 vi1)->G.n=G1.n+1->∃ G' vl2 vs2 vi2,Ip cp t fuel G1.n bt fs G G'/\ae Hb G'/\G1.n<G'.n/\G'.get G1.n = .cells (aS m' vl2 vs2 vi2)/\jk G' (λb=>b<Hb.n) m' vl2 vs2 vi2/\Row G' (bH O vp) vb 2 bw.length (bZ bw)) (hfu:1000000<fuel):
 ∃ H' O',(∀ (d:Nat) (k:K),aj (aQ cp t fuel (d+8)) (.func 102 []) [.ptr vp 0,vb,.slice bt 0 fs.length c z] H k=k (.int 3 (uM pk A a m' bw).2) H')/\Step Hb (bH O vp) H' (bH O' vp)/\cP H' dp (uM pk A a m' bw).1 O'/\¬ O' vp/\vp<H'.n/\
  (((uM pk A a m' bw).2=0/\∃ vl2 vs2 vi2,H'.get vp = .cells (vc m' vl2 vs2 vi2 dp lost)/\jk H' (bH O' vp) m' vl2 vs2 vi2/\∀ X:Nat->Prop,(∀ b,X b->b<Hb.n)->jk H' (λb=>X b\/bH O' vp b) m' vl2 vs2 vi2)\/((uM pk A a m' bw).2≠0/\H'.get vp = .cells (vc m vl vs vi dp (lost || ((oq m').2 == 0 && (uM pk A a m' bw).2 == 6)))/\jk H' (bH O' vp) m vl vs vi/\∀ X:Nat->Prop,jk Hb (λb=>X b\/bH O vp b) m vl vs vi->jk H' (λb=>X b\/bH O' vp b) m vl vs vi)):=by
 have hw:=f0.wf
 have m0:=f0.n
 have hWn:∀ b,bH O vp b->b<Hb.n:=λb h=>h.elim (hD.lt b) λh=>by rw [h];exact hVn
 have i1:=λ{id:Nat} {k:R}=>aG M.live.one (id:=id) (k:=k)
 have i2:=λ{id:Nat} {k:R}=>aG (let ⟨_,h,_⟩:=M.ah;h.one) (id:=id) (k:=k)
 have i3:=λ{id:Nat} {k:R}=>aG M.cz.one (id:=id) (k:=k)
 obtain ⟨G1,vl1,vs1,vi1,z1,f1,o1⟩:=Lj (cp:=cp) (fuel:=fuel) T hw (M.fresh f0) Y (by omega)
 obtain ⟨o1a,o1b,o1c⟩:=o1.one
 have j1:=λ{id:Nat} {k:R}=>aG o1a (id:=id) (k:=k)
 have j2:=λ{id:Nat} {k:R}=>aG o1b (id:=id) (k:=k)
 have j3:=λ{id:Nat} {k:R}=>aG o1c (id:=id) (k:=k)
 have w1:=f1.wf
 obtain ⟨G2,hG2,f2,p2,n2⟩:=Heap.aP w1 (.cells [.aw,.aw,.int 7 0,.int 7 0,.int 7 0,.int 7 0,.int 3 0,.int 3 0,.aw])
 have w2:=f2.wf
 have hB2:G1.n<G2.n:=by omega
 obtain ⟨G3,hG3,f3,p3,n3,w3,k3⟩:=Heap.aU (b:=G1.n) f2 (YA _) hB2 (.cells (aS m vl1 vs1 vi1))
 obtain ⟨G4,vl2,vs2,vi2,hT,f4,hB4,p4,M4',R4⟩:=ht G1 G3 vl1 vs1 vi1 f1 o1 f3 p3 (by omega)
 have M4:jk G4 (bH O vp) m' vl2 vs2 vi2:=M4'.si λb _ h=>hWn b h
 have hbt3:G3.get bt = .cells fs:=(f3.same _ (by have:=f1.n;omega)).trans ((f1.same _ hbn).trans hbt)
 obtain ⟨G5,vS,z5,f5,hS1,hS⟩:=xE (cp:=cp) (fuel:=fuel) T F hp f4.wf M4 Y' (by omega)
 have m1:=f1.n
 have m4:=f4.n
 have m5:=f5.n
 have f45:=f4.trans f5
 have z1:=λ{d:Nat} {k:K}=>z1 (d+4) k
 have z5:=λ{d:Nat} {k:K}=>z5 d k
 have hV':=(f0.same _ hVn).trans hV
 simp only [vc,aS,bP,YP,YN]at hV'
 have gB4':=p4
 have hVs:∀ {x:ee},Hb.get vp=x->G5.get vp=x:=λh=>(f45.same _ hVn).trans h
 simp only [aS,bP]at z1 hG3 gB4' z5
 have hcz:fs.length<9223372036854775808:=by omega
 unfold uM
 by_cases h0:(oq m').2=0
 .rw [if_pos h0]
  have hS:=hS h0
  have hlen:=I6 h0
  have hsz:=F.size (oq m').1 (by omega)
  rw [h0]at z5
  have h32:=F.len (oq m').1 (by omega)
  generalize hws:Q9 pk A m' bw=ws
  unfold Q9 at hws
  generalize pk (oq m').1=ss at hS hsz h32 hws
  have hSr:Row G5 (bH O vp) vS 1 ss.length (ss.map tv):=hS.toRow λb h=>YC (hWn b h) m4
  have hsS:=λ{id:Nat} {f:Nat->R}=>hS.sn (id:=id) (f:=f)
  have e1:ss.length<9223372036854775808:=by omega
  obtain ⟨G6,vw,f6,hvw,hL⟩:=JN (cp:=cp) (fuel:=fuel) (B:=G1.n) (vb:=vb) T hc (hD.fresh f45) ho (hVs hV) (by omega) hSr (by omega) hA hA2 ss.length 0 G5 .aw (by omega) (ae.refl f5.wf) Gr.aw
  have hdl:=rC A ss ss.length
  have f46:=f45.trans f6
  have m6:=f6.n
  obtain ⟨vws,G7,hop,hvws,f7,k7⟩:=Gr.grow (x:=vb) f6 hvw (λ{id f}=>R4.nc λb hb _=>(f5.trans f6).same b hb) (by rw [dj]) (λv hv=>R4.2.1 v hv) (by omega)
  have f47:=f45.trans f7
  have gV6:=(f46.same _ hVn).trans hV
  have gV7:=(f47.same _ hVn).trans hV
  have gV6':=gV6
  simp only [vc,aS,bP,YP,YN]at gV6'
  have hoff:vw = .aw\/∃ b o n c s,vw = .slice b o n c s/\∀ k:R,dw 0 48 b [(3,vp)] k=k:=by
   obtain ⟨_,_,⟨h,_⟩|⟨b,c,s,h,_,_,_,g,_⟩⟩:=hvw
   .exact YG h
   .exact YE ⟨b,0,_,c,s,h,λk=>by rw [dF,if_neg (by decide),if_neg (by omega),cG]⟩
  rw [<- YD,<- ei,hws]at hvws
  have hws':∀ w ∈ ws,w.1<18446744073709551616/\w.2.1<1000000/\ur w.2:=by
   intro w hw
   rw [<- hws]at hw
   rcases Yt.1 hw with h|h
   .obtain ⟨j,hj,rfl⟩:=nU h
    have:(ss.getD j []).length=32:=h32 _ (by rw [YJ,YB hj];exact Yb _)
    exact ⟨by show 145+j<_;omega,by show (ss.getD j []).length<_;omega,iw _⟩
   .exact hbw w h
  have hwl:ws.length<10000:=by rw [<- hws,YD];omega
  have hwsAt:mi G7 vws ws O:=by
   obtain ⟨p1,p2,⟨p3,p4⟩|⟨b,c,s,p3,p4,p5,p6,p7,p8⟩⟩:=hvws
   .exact YG ⟨p3,YR p4⟩
   .exact YE ⟨b,c,s,p3,p6,p8,λhb=>by have:=hD.lt b hb;omega⟩
  obtain ⟨G8,O8,z8,s8,D8⟩:=tV (cp:=cp) (fuel:=fuel) T hc F hp (hD.fresh f47) C hwsAt hws' hwl (by omega)
  have z8:=λ{d:Nat} {k:K}=>z8 d k
  have hn47:=f47.n
  have hs8:=s8.n
  have hV8:G8.get vp = .cells (vc m vl vs vi dp lost):=(s8.same _ (by omega) hVO).1.trans gV7
  have hVO8:¬ O8 vp:=(s8.same _ (by omega) hVO).2
  have M48:jk G8 (bH O8 vp) m' vl2 vs2 vi2:=(M4.fresh (f5.trans f7)).cD s8.zU
  have M08:jk G8 (bH O8 vp) m vl vs vi:=(M.fresh f47).cD s8.zU
  have s08:Step Hb (bH O vp) G8 (bH O8 vp):=f47.step.trans s8.zU
  have hBO:¬ O G1.n:=λh=>by have:=hD.lt _ h;omega
  have hB8:G8.get G1.n = .cells (aS m' vl2 vs2 vi2):=(s8.same _ (by have:=f7.n;omega) hBO).1.trans (((f5.trans f7).same _ hB4).trans p4)
  have w8:=s8.wf
  have hp8:vp<G8.n:=by omega
  have hV8':=hV8
  simp only [vc,aS,bP,YP,YN]at hV8'
  have hB8':=hB8
  simp only [aS,bP]at hB8'
  have y1:=λ{id:Nat} {k:R}=>aG M48.live.one (id:=id) (k:=k)
  have y2:=λ{id:Nat} {k:R}=>aG (let ⟨_,h,_⟩:=M48.ah;h.one) (id:=id) (k:=k)
  have y3:=λ{id:Nat} {k:R}=>aG M48.cz.one (id:=id) (k:=k)
  generalize (A.eH pk a ws).2=cd at z8 ⊢
  by_cases c0:cd=0
  .subst c0
   obtain ⟨G9,hG9,-,p9,n9,w9,k9⟩:=Heap.aU (b:=vp) (ae.refl w8 |> λf=>(⟨f.wf,Yk _,λj hj=>absurd hj (Wa _),λlo _ h=>by rw [show lo=0 from YG2.1 h];exact Yk _⟩:ae (.mk 0 0 .e) G8)) (Yk _) hp8 (.cells (vc m' vl2 vs2 vi2 dp lost))
   have s9:Step G8 (bH O8 vp) G9 (bH O8 vp):=by rw [<- hG9];exact Step.kW w8 hp8 (YE rfl)
   refine ⟨G9,O8,λd k=>?_,s08.trans s9,?_,hVO8,by omega,YG ⟨rfl,vl2,vs2,vi2,p9,M48.cD s9,λX hX=>(((M4'.si λb _ h=>h.elim (hX b) (hWn b)).fresh (f5.trans f7)).cD s8.zU.or).cD s9.or⟩⟩
   .simp only [vc,aS,bP,YP,YN]at hG9
    rw [aR T.k51 rfl rfl]
    simp only [go_sem,c51,Cl,hV',↓z1,↓j1,↓j2,↓j3,w1,hG2,p2,w2,hB2,hG3]
    simp only [go_sem,Cm,hcz]
    refine kD (cp:=cp) (fuel:=fuel) (vp:=vp) (vb:=vb) (c:=c) (z:=z) T hfl hf1 fs [] G3 G4 rfl hT hbt3 d _ fuel _ (by omega) ?_ ?_ ?_ ?_ ?_ ?_ _ λe' q0 q1 q7=>?_
    .rfl
    .rfl
    .rfl
    .rfl
    .rfl
    .simp only [go_sem,YM]
    simp only [go_sem,Co,Cp,q7,gB4',↓z5]
    simp only [go_sem,Ix,Iy,↓hsS,e1]
    refine hL (d+4) _ fuel _ (by omega) ?_ ?_ ?_ ?_ ?_ ?_ ?_ _ λe'' q0 q1 q7 q14=>?_
    .exact q0
    .exact q1
    .exact q7
    .rfl
    .rfl
    .rfl
    .rfl
    simp only [go_sem,Iz,jS,cJ,q0]
    refine (gG (b:=vp) (o:=9) (v:=.ptr dp 0) rfl (by omega) (λk=>by simp only [go_sem,gV6']) (λk=>cG)).trans ?_
    simp only [go_sem,cJ,q1,q14]
    refine td (v:=vws) (H':=G7) (w:=vw) rfl hoff (λk=>hop rfl rfl) λst'=>?_
    simp only [go_sem,cJ,fV,↓z8]
    simp only [go_sem,IA,q0,q7,hB8',↓y1,↓y2,↓y3,hV8',w8,hp8,hG9]
    simp only [go_sem,IB,An]
   .rw [<- hG9]
    exact (D8.cD (Q:=λb=>b=vp) (Step.kW w8 hp8 rfl) λb hb e=>hVO8 (by rw [<- e];exact hb)).1
  .by_cases c6:cd=6
   .subst c6
    obtain ⟨G9,hG9,-,p9,n9,w9,k9⟩:=Heap.aU (b:=vp) (ae.refl w8 |> λf=>(⟨f.wf,Yk _,λj hj=>absurd hj (Wa _),λlo _ h=>by rw [show lo=0 from YG2.1 h];exact Yk _⟩:ae (.mk 0 0 .e) G8)) (Yk _) hp8 (.cells (vc m vl vs vi dp true))
    have s9:Step G8 (bH O8 vp) G9 (bH O8 vp):=by rw [<- hG9];exact Step.kW w8 hp8 (YE rfl)
    refine ⟨G9,O8,λd k=>?_,s08.trans s9,?_,hVO8,by omega,YE ⟨c0,?_,M08.cD s9,λX hX=>((hX.fresh f47).cD s8.zU.or).cD s9.or⟩⟩
    .simp only [vc,aS,bP,YP,YN]at hG9
     rw [aR T.k51 rfl rfl]
     simp only [go_sem,c51,Cl,hV',↓z1,↓j1,↓j2,↓j3,w1,hG2,p2,w2,hB2,hG3]
     simp only [go_sem,Cm,hcz]
     refine kD (cp:=cp) (fuel:=fuel) (vp:=vp) (vb:=vb) (c:=c) (z:=z) T hfl hf1 fs [] G3 G4 rfl hT hbt3 d _ fuel _ (by omega) ?_ ?_ ?_ ?_ ?_ ?_ _ λe' q0 q1 q7=>?_
     .rfl
     .rfl
     .rfl
     .rfl
     .rfl
     .simp only [go_sem,YM]
     simp only [go_sem,Co,Cp,q7,gB4',↓z5]
     simp only [go_sem,Ix,Iy,↓hsS,e1]
     refine hL (d+4) _ fuel _ (by omega) ?_ ?_ ?_ ?_ ?_ ?_ ?_ _ λe'' q0 q1 q7 q14=>?_
     .exact q0
     .exact q1
     .exact q7
     .rfl
     .rfl
     .rfl
     .rfl
     simp only [go_sem,Iz,jS,cJ,q0]
     refine (gG (b:=vp) (o:=9) (v:=.ptr dp 0) rfl (by omega) (λk=>by simp only [go_sem,gV6']) (λk=>cG)).trans ?_
     simp only [go_sem,cJ,q1,q14]
     refine td (v:=vws) (H':=G7) (w:=vw) rfl hoff (λk=>hop rfl rfl) λst'=>?_
     simp only [go_sem,cJ,fV,↓z8]
     simp only [go_sem,IA,q0,hV8',w8,hp8,hG9]
     simp only [go_sem,IB,An]
    .rw [<- hG9]
     exact (D8.cD (Q:=λb=>b=vp) (Step.kW w8 hp8 rfl) λb hb e=>hVO8 (by rw [<- e];exact hb)).1
    .rw [p9,h0]
     simp
   .refine ⟨G8,O8,λd k=>?_,s08,D8,hVO8,by omega,YE ⟨c0,?_,M08,λX hX=>(hX.fresh f47).cD s8.zU.or⟩⟩
    .rw [aR T.k51 rfl rfl]
     simp only [go_sem,c51,Cl,hV',↓z1,↓j1,↓j2,↓j3,w1,hG2,p2,w2,hB2,hG3]
     simp only [go_sem,Cm,hcz]
     refine kD (cp:=cp) (fuel:=fuel) (vp:=vp) (vb:=vb) (c:=c) (z:=z) T hfl hf1 fs [] G3 G4 rfl hT hbt3 d _ fuel _ (by omega) ?_ ?_ ?_ ?_ ?_ ?_ _ λe' q0 q1 q7=>?_
     .rfl
     .rfl
     .rfl
     .rfl
     .rfl
     .simp only [go_sem,YM]
     simp only [go_sem,Co,Cp,q7,gB4',↓z5]
     simp only [go_sem,Ix,Iy,↓hsS,e1]
     refine hL (d+4) _ fuel _ (by omega) ?_ ?_ ?_ ?_ ?_ ?_ ?_ _ λe'' q0 q1 q7 q14=>?_
     .exact q0
     .exact q1
     .exact q7
     .rfl
     .rfl
     .rfl
     .rfl
     simp only [go_sem,Iz,jS,cJ,q0]
     refine (gG (b:=vp) (o:=9) (v:=.ptr dp 0) rfl (by omega) (λk=>by simp only [go_sem,gV6']) (λk=>cG)).trans ?_
     simp only [go_sem,cJ,q1,q14]
     refine td (v:=vws) (H':=G7) (w:=vw) rfl hoff (λk=>hop rfl rfl) λst'=>?_
     simp only [go_sem,cJ,fV,↓z8]
     simp only [go_sem,IA,c0,c6]
     simp only [go_sem,IB,An]
    .rw [hV8,show (cd == 6)=false from beq_eq_false_iff_ne.2 c6,Qn,Qx]
 .rw [if_neg h0]
  generalize (oq m').2=en at z5 h0
  refine ⟨G5,O,λd k=>?_,f45.step,hD.fresh f45,hVO,by omega,YE ⟨h0,?_,M.fresh f45,λX hX=>hX.fresh f45⟩⟩
  .rw [aR T.k51 rfl rfl]
   simp only [go_sem,c51,Cl,hV',↓z1,↓j1,↓j2,↓j3,w1,hG2,p2,w2,hB2,hG3]
   simp only [go_sem,Cm,hcz]
   refine kD (cp:=cp) (fuel:=fuel) (vp:=vp) (vb:=vb) (c:=c) (z:=z) T hfl hf1 fs [] G3 G4 rfl hT hbt3 d _ fuel _ (by omega) ?_ ?_ ?_ ?_ ?_ ?_ _ λe' q0 q1 q7=>?_
   .rfl
   .rfl
   .rfl
   .rfl
   .rfl
   .simp only [go_sem,YM]
   simp only [go_sem,Co,Cp,q7,gB4',↓z5]
   simp only [go_sem,h0]
  .rw [hVs hV,show (en == 0)=false from beq_eq_false_iff_ne.2 h0,QO,Qx]
end
end Go.Ev
end
section
namespace Go.Ev
def bS (a b:Gd):Bool:=decide (b.1<a.1) || (decide (a.1=b.1) && decide (b.2<a.2))
def rP (m:MT) (block:Nat) (data:List UInt8):Bool:=decide (block<m.live.length) && decide (data.length=32)
section
variable {cp:RC->aq} {t:Nat->Option cW} {fuel:Nat} {H:Heap} {O:Nat->Prop}
theorem Fm (T:aJ t) {a b:Gd} (hw:H.wf) (ha:mg a) (hb:mg b):
 ∃ H',(∀ (d:Nat) (k:K),aj (aQ cp t fuel (d+1)) (.func 108 []) [.agg (bu a),.agg (bu b)] H k=k (.bool (bS a b)) H')/\ae H H':=by
 obtain ⟨G1,hG1,f1,p1,n1⟩:=Heap.aP hw (.cells (bu a))
 obtain ⟨G2,hG2,f2,p2,n2⟩:=Heap.jr (m:=H.n+1) n1 f1.wf (.cells (bu b))
 have q1:G2.get H.n = .cells (bu a):=(f2.same _ (by omega)).trans p1
 have w1:=f1.wf
 obtain ⟨a1,a2⟩:=a
 obtain ⟨b1,b2⟩:=b
 obtain ⟨u1,u2⟩:=ha
 obtain ⟨u3,u4⟩:=hb
 refine ⟨G2,λd k=>?_,f1.trans f2⟩
 simp only [bu]at hG1 p1 hG2 p2 q1
 rw [aR T.k54 rfl rfl]
 unfold bS
 have g1:=mW u1 u3
 have g2:=mW u2 u4
 have ne:¬ H.n=H.n+1:=by omega
 simp only at g1 g2 ⊢
 by_cases h2:a1=b1
 .subst h2
  have h1:¬ a1<a1:=by omega
  by_cases h3:b2<a2<;>
   simp only [go_sem,c54,bu,hw,hG1,n1,w1,hG2,p2,q1,g1,g2,h1,h3,decide_true,decide_false,Bool.or_true,Qx,YL2,Qn]
 .by_cases h1:b1<a1<;>by_cases h3:b2<a2<;>
   simp only [go_sem,↓rJ,c54,bu,hw,hG1,n1,w1,hG2,p2,q1,g1,h1,h2,h3,decide_true,decide_false,Qx,YL2,Qn]
theorem Li (T:aJ t) {m:MT} {vl vs vi:V} {vp dp block:Nat} {lost:Bool} {data:List UInt8} (hV:H.get vp = .cells (vc m vl vs vi dp lost)) (M:jk H O m vl vs vi) (hl:m.live.length<1000000) (hb:block<18446744073709551616) (hd:data.length<1000000) (d:Nat) (k:K):
 aj (aQ cp t fuel (d+1)) (.func 98 []) [.ptr vp 0,.int 3 block,tv data] H k=k (.bool (decide (block<9223372036854775808) && rP m block data)) H:=by
 simp only [vc,aS,bP,YP,YN]at hV
 have sn:=λ{id:Nat} {f:Nat->R}=>M.live.sn (id:=id) (f:=f)
 have e1:m.live.length<9223372036854775808:=by omega
 have e2:nn m.live.length:=by unfold nn;omega
 have e3:data.length<9223372036854775808:=by omega
 rw [aR T.k49 rfl rfl]
 unfold rP
 simp only [tv]
 by_cases h1:block<9223372036854775808
 .have e4:nn block:=by unfold nn;omega
  by_cases h2:block<m.live.length<;>by_cases h3:data.length=32<;>
   simp only [go_sem,ZE,c49,hV,↓sn,e1,e2,e3,e4,h1,h2,h3,decide_true,decide_false,YL2,Qn,Yk]
 .have e5:¬ dN (.ge 9223372036854775808 18446744073709551616) block 0=true:=by rw [CA];omega
  simp only [go_sem,c49,e5,h1,decide_false,QO]
theorem uE (T:aJ t) (hc:aY t) {m:MT} {vl vs vi:V} {vp dp:Nat} {lost:Bool} {A:AD} (hD:cP H dp A O) (hV:H.get vp = .cells (vc m vl vs vi dp lost)) (hVn:vp<H.n) (hVO:¬ O vp):
 ∃ H',(∀ (d:Nat) (k:K),aj (aQ cp t fuel (d+3)) (.func 96 []) [.ptr vp 0] H k=k (.int 3 (if lost=true\/A.off=true then 6 else 0)) H')/\Step H (bH O vp) H' (bH O vp)/\cP H' dp A O/\H'.n=H.n/\H'.get vp = .cells (vc m vl vs vi dp (lost || A.off))/\∀ j,j≠vp->H'.get j=H.get j:=by
 have hw:=hD.wf
 obtain ⟨G,hG,-,p,n,w,k'⟩:=Heap.aU (b:=vp) (ae.refl hw |> λf=>(⟨f.wf,Yk _,λj hj=>absurd hj (Wa _),λlo _ h=>by rw [show lo=0 from YG2.1 h];exact Yk _⟩:ae (.mk 0 0 .e) H)) (Yk _) hVn (.cells (vc m vl vs vi dp (lost || A.off)))
 have hon:=λ{d:Nat} {k:K}=>GP (cp:=cp) (fuel:=fuel) (T.iP hc) (d:=d) (k:=k) hD
 refine ⟨G,λd k=>?_,by rw [<- hG];exact Step.kW hw hVn (YE rfl),?_,n,p,k'⟩
 .simp only [vc,aS,bP,YP,YN]at hV hG p
  rw [aR T.k48 rfl rfl]
  generalize hoff:A.off=off at hon hG p
  cases lost<;>cases off<;>
   simp only [Wq,YB2,Bool.or_true,Qx,YU,or_self,or_true,or_false]at hon hG p ⊢ <;>
   simp only [go_sem,RR,hV,hw,hVn,↓hon,hG,p]
 .rw [<- hG]
  exact (hD.cD (Q:=λb=>b=vp) (Step.kW hw hVn rfl) λb hb e=>hVO (by rw [<- e];exact hb)).1
def cg (m:MT):Sn:=m.ah.getLast?.getD ⟨(0,0),YZ m.live.length 0,false⟩
end
end Go.Ev
end
section
namespace Go.Ev
def dI (A:AD) (p:Nat):Tx:=if p=0 then (32,0) else A.read p
theorem PC {α:Type} {f:Nat->α} {z:α} {l:List Nat} {i:Nat} (h:i<l.length):((l.take i).map f ++ YZ (l.length-i) z).set i (f l[i])=(l.take (i+1)).map f ++ YZ (l.length-(i+1)) z:=by
 have e:((l.take i).map f).length=i:=by simp;omega
 rw [List.set_append_right _ _ (by omega),e,Qr,show l.length-i=(l.length-(i+1))+1 by omega,List.replicate_succ,List.set_cons_zero,List.take_succ_eq_append_getElem h,WB,WC]
 rfl
section
variable {cp:RC->aq} {t:Nat->Option cW} {fuel:Nat} {H:Heap} {O:Nat->Prop}
theorem P8 (T:aJ t) (hc:aY t) {m:MT} {vl vs vi v:V} {vp dp B:Nat} {lost:Bool} {A:AD} {Q:Nat->Prop} {l:List Nat} {G0:Heap} (hD:cP H dp A O) (ho:A.off=false) (hV:H.get vp = .cells (vc m vl vs vi dp lost)) (hVn:vp<H.n) (h:dH H Q v l) (hl:l.length<1000) (hlp:∀ p ∈ l,p<A.len) (hA:A.len<=1024)
 (f0:ae H G0) (hBH:H.n<=B) (hB:B<G0.n) (gB:G0.get B = .cells (YZ l.length (.str 0 0))) (hfu:1000<fuel):
 ∃ G',ae H G'/\G'.get B = .cells (l.map λp=>sv (dI A p))/\B<G'.n/\∀ (d:Nat) (kx:Nat->KE) (e:Env) (x:R),aa s000 e = .ptr vp 0->aa s006 e = .slice B 0 l.length (l.length+1) 0->aa s016 e=v->aa s017 e = .int 3 l.length->aa s020 e = .int 3 0->
  (∀ e',aa s006 e' = .slice B 0 l.length (l.length+1) 0->kx 1 e' G'=x)->lr sM fuel (aQ cp t fuel (d+3)) kx fuel e G0=x:=by
 have nl:nn l.length:=by unfold nn;omega
 obtain ⟨_,G',⟨f',g',hB'⟩,z⟩:=bV (c:=sM) (fuel:=fuel) (ph:=λd=>aQ cp t fuel (d+3)) (σ:=Unit) (n:=l.length)
  (I:=λi _ G=>ae H G/\G.get B = .cells ((l.take i).map (λp=>sv (dI A p)) ++ YZ (l.length-i) (.str 0 0))/\B<G.n)
  (S:=λi _ e=>aa s000 e = .ptr vp 0/\aa s006 e = .slice B 0 l.length (l.length+1) 0/\aa s016 e=v/\aa s017 e = .int 3 l.length/\aa s020 e = .int 3 i) (λi _ G hil ⟨f,g,hBn⟩=>by
   have hset:=PC (f:=λp=>sv (dI A p)) (z:=V.str 0 0) hil
   have hpl:=hlp _ (Yb hil)
   obtain ⟨b,o,c,s,rfl,hbn,-,hrd⟩:=h.open hil
   have hrd:=λ{id:Nat} {k:V->R}=>hrd (f.same _ hbn) (id:=id) (k:=k)
   have hxl:((l.take i).map (λp=>sv (dI A p)) ++ YZ (l.length-i) (V.str 0 0)).length=l.length:=by simp;omega
   generalize l[i]=p at hset hpl hrd
   generalize (l.take i).map (λp=>sv (dI A p)) ++ YZ (l.length-i) (V.str 0 0)=X at g hset hxl
   obtain ⟨G1,hG1,f1,p1,n1⟩:=Heap.aP f.wf (.bytes 32 0)
   have g1:G1.get B = .cells X:=(f1.same _ hBn).trans g
   obtain ⟨G2,hG2,f2,p2,n2,w2,k2⟩:=Heap.aU (b:=B) (f.trans f1) hBH (by omega) (.cells (X.set i (.str 32 0)))
   have gV2:=(f2.same _ hVn).trans hV
   simp only [vc,aS,bP,YP,YN]at gV2
   have a1:nn i:=by unfold nn;omega
   have a2:i<9223372036854775808:=by omega
   have a3:(i+1)%18446744073709551616=i+1:=by omega
   have a4:i<X.length:=by omega
   have a5:B<G1.n:=by omega
   have w0:=f.wf
   have w1:=f1.wf
   by_cases hp:p=0
   .rw [show sv (dI A p) = .str 32 0 by unfold dI;rw [if_pos hp];rfl]at hset
    refine ⟨(),G2,⟨f2,by rw [<- hset];exact p2,by omega⟩,λd kx r e x ⟨q0,q6,q16,q17,q20⟩ hk=>?_⟩
    rw [ax]
    simp only [go_sem,sM,q6,q16,q17,q20,hil,nl,a1,a2,a3,a4,a5,↓hrd,w0,hG1,p1,g1,w1,hG2,hp]
    exact hk _ (by simp only [go_sem,q0,q6,q16,q17])
   .rw [show sv (dI A p)=sv (A.read p) by unfold dI;rw [if_neg hp]]at hset
    obtain ⟨G3,z3,f3⟩:=oK (cp:=cp) (fuel:=fuel) (a:=p) (T.iP hc) (hD.fresh f2) ho (by omega)
    have z3:=λ{d:Nat} {k:K}=>z3 d k
    have m3:=f3.n
    obtain ⟨G4,hG4,f4,p4,n4,w4,k4⟩:=Heap.aU (b:=B) (f2.trans f3) hBH (by omega) (.cells (X.set i (sv (A.read p))))
    have g3:G3.get B = .cells (X.set i (.str 32 0)):=(f3.same _ (by omega)).trans p2
    have w3:=f3.wf
    have a6:B<G3.n:=by omega
    have hss:(X.set i (.str 32 0)).set i (sv (A.read p))=X.set i (sv (A.read p)):=List.set_set ..
    refine ⟨(),G4,⟨f4,by rw [<- hset];exact p4,by omega⟩,λd kx r e x ⟨q0,q6,q16,q17,q20⟩ hk=>?_⟩
    have a7:i<(X.set i (.str 32 0)).length:=by rw [YD4];exact a4
    generalize A.read p=tq at z3 hG4 hss
    simp only [sv]at z3 hG4 hss
    generalize X.set i (.str tq.1 tq.2)=Y at hG4 hss
    rw [ax]
    simp only [go_sem,sM,q0,q6,q16,q17,q20,hil,nl,a1,a2,a3,a4,a5,a6,↓hrd,w0,hG1,p1,g1,w1,hG2,hp,gV2,↓z3,g3,a7,hss,w3,hG4]
    exact hk _ (by simp only [go_sem,q0,q6,q16,q17])) l.length 0 () G0 (by omega) ⟨f0,by rw [Wy,WA,YN,Nat.sub_zero];exact gB,hB⟩
 rw [Wf,Qr,List.replicate_zero,YW]at g'
 refine ⟨G',f',g',hB',λd kx e x q0 q6 q16 q17 q20 hk=>z d kx fuel e x (by omega) ⟨q0,q6,q16,q17,q20⟩ λr e' ⟨q0,q6,q16,q17,q20⟩=>?_⟩
 have e6:¬ l.length<l.length:=by omega
 rw [ax]
 simp only [go_sem,sM,q17,q20,nl,e6]
 exact hk _ q6
theorem uC (T:aJ t) (hc:aY t) {m:MT} {vl vs vi v:V} {vp dp:Nat} {lost:Bool} {A:AD} {Q:Nat->Prop} {l:List Nat} (hD:cP H dp A O) (ho:A.off=false) (hV:H.get vp = .cells (vc m vl vs vi dp lost)) (hVn:vp<H.n) (h:dH H Q v l) (hl:l.length<1000) (hlp:∀ p ∈ l,p<A.len) (hA:A.len<=1024) (hfu:1000<fuel):
 ∃ H' v',(∀ (d:Nat) (k:K),aj (aQ cp t fuel (d+4)) (.func 214 []) [.ptr vp 0,v] H k=k (.cE [v',.int 3 0]) H')/\ae H H'/\Own H H' v' 1 l.length (l.map λp=>sv (dI A p)):=by
 obtain ⟨G1,f1,o1,g1,n1,z1⟩:=wZ (n:=l.length) (kl:=3) (x:=V.str 0 0) (a:=qt) rfl hD.wf rfl (by omega) (YA _)
 obtain ⟨G2,f2,g2,n2,z2⟩:=P8 (cp:=cp) (fuel:=fuel) T hc hD ho hV hVn h hl hlp hA f1 (YA _) (by omega) g1 hfu
 have sn:=λ{id:Nat} {f:Nat->R}=>h.sn (id:=id) (f:=f)
 have e1:l.length<9223372036854775808:=by omega
 refine ⟨G2,.slice H.n 0 l.length (l.length+1) 0,λd k=>?_,f2,⟨by simp,λx hx=>?_,YE ⟨_,_,_,[],rfl,by rw [YW];exact g2,YG rfl,YA _,n2⟩⟩⟩
 .have z1:=λ{id:Nat} {ph:dg} {e:Env} {k:K} (h:aA qt e = .int 3 l.length)=>z1 (id:=id) (ph:=ph) (e:=e) (k:=k) h
  rw [aR T.aaX rfl rfl]
  simp only [go_sem,Z4,↓sn,e1,↓z1]
  refine z2 d _ _ _ ?_ ?_ ?_ ?_ ?_ λe' q6=>?_
  .rfl
  .rfl
  .rfl
  .rfl
  .rfl
  simp only [go_sem,q6]
 .obtain ⟨p,-,rfl⟩:=Ye.1 hx
  rfl
end
end Go.Ev
end
section
namespace Go.Ev
def dY (m:MT):List (List Nat):=m.live :: m.tok.cz :: m.ah.map (·.cz)
theorem vj:∀ {cs:List Wr} {i:Nat} {c:Wr},cs[i]? = some c->((bZ cs).drop (i*2)).take 2=[.int 3 c.1,.str c.2.1 c.2.2]
 | [],i,c,h=>by simp at h
 | a :: cs,0,c,h=>by
  simp at h
  subst h
  rfl
 | a :: cs,i+1,c,h=>by
  rw [show (i+1)*2=i*2+2 by omega]
  exact vj (cs:=cs) (by simpa using h)
def fA (cs:List Wr):Nat->Nat
 | 0=>0
 | i+1=>fA cs i+(if (cs.getD i (0,(32,0))).2=(32,0) then 0 else 1)
theorem qH (cs:List Wr):∀ i,fA cs i<=i
 | 0=>YA _
 | i+1=>by
  have:=qH cs i
  simp only [fA]
  split<;>omega
theorem xd {cs:List Wr} {i:Nat}:∀ {j:Nat},i<=j->fA cs i<=fA cs j
 | 0,h=>by rw [YG2.1 h];exact YA _
 | j+1,h=>by
  rcases Nat.lt_or_ge i (j+1) with h|h
  .exact Ym (xd (Nat.lt_succ_iff.1 h)) (by simp only [fA];omega)
  .rw [show i=j+1 by omega];exact YA _
def Bn (cs:List Wr) (fr:List Nat):Nat->List Nat
 | 0=>[]
 | i+1=>Bn cs fr i ++ [if (cs.getD i (0,(32,0))).2=(32,0) then 0 else fr.getD (fA cs i) 0]
def DW (cs:List Wr) (fr:List Nat):Nat->List Wr
 | 0=>[]
 | i+1=>DW cs fr i ++ (if (cs.getD i (0,(32,0))).2=(32,0) then [] else [(fr.getD (fA cs i) 0,(cs.getD i (0,(32,0))).2)])
theorem rQ (cs:List Wr) (fr:List Nat):∀ i,(Bn cs fr i).length=i
 | 0=>rfl
 | i+1=>by simp only [Bn,YD,rQ cs fr i];rfl
theorem Bp (cs:List Wr) (fr:List Nat):∀ i,(DW cs fr i).length=fA cs i
 | 0=>rfl
 | i+1=>by
  simp only [DW,fA,YD,Bp cs fr i]
  split<;>rfl
theorem xe {v w:V} (h:∀ b o n c s,w = .slice b o n c s->kO v b):∀ b o n c s,v = .slice b o n c s->kO w b:=λb o n c s e b' o' n' c' s' e' he=>h _ _ _ _ _ e' _ _ _ _ _ e he.symm
section
variable {cp:RC->aq} {t:Nat->Option cW} {fuel:Nat} {H:Heap} {O:Nat->Prop}
theorem J3 (T:aJ t) {vp:Nat} {vl vi vs vx:V} {ss:List Sn} {G0:Heap} {v0:V} (hS:gm H O vs ss) (hn:ss.length<1000) (f0:ae H G0) (o0:Own H G0 v0 1 2 [vl,vi]) (hfu:1000<fuel):
 ∃ G' v' ns,ae H G'/\Own H G' v' 1 (2+ss.length) (vl :: vi :: ns)/\(∀ (j:Nat) (s:Sn),ss[j]? = some s->∃ x,ns[j]? = some x/\dH H O x s.cz)/\∀ (d:Nat) (kx:Nat->KE) (e:Env) (x:R),aa s000 e = .ptr vp 0->aa s001 e=vx->aa s004 e = .aw->aa s005 e = .aw->aa s007 e=v0->aa s042 e=vs->aa s043 e = .int 3 ss.length->aa s044 e = .int 3 0->
  (∀ e',aa s000 e' = .ptr vp 0->aa s001 e'=vx->aa s004 e' = .aw->aa s005 e' = .aw->aa s007 e'=v'->kx 1 e' G'=x)->lr Cj fuel (aQ cp t fuel d) kx fuel e G0=x:=by
 have nl:nn ss.length:=by unfold nn;omega
 obtain ⟨⟨ns,v'⟩,G',⟨f',o',nl',hx'⟩,z⟩:=bV (c:=Cj) (fuel:=fuel) (ph:=λd=>aQ cp t fuel d) (σ:=List V × V) (n:=ss.length)
  (I:=λi s G=>ae H G/\Own H G s.2 1 (2+i) (vl :: vi :: s.1)/\s.1.length=i/\∀ (j:Nat) (q:Sn),j<i->ss[j]? = some q->∃ x,s.1[j]? = some x/\dH H O x q.cz)
  (S:=λi s e=>aa s000 e = .ptr vp 0/\aa s001 e=vx/\aa s004 e = .aw/\aa s005 e = .aw/\aa s007 e=s.2/\aa s042 e=vs/\aa s043 e = .int 3 ss.length/\aa s044 e = .int 3 i) (λi s G hil ⟨f,o,hl,hx⟩=>by
   obtain ⟨ns,v⟩:=s
   obtain ⟨b,ob,c,z,y,rfl,hbn,-,hy,hrd⟩:=hS.open hil
   have hsi:ss[i]? = some ss[i]:=YB hil
   have hrd:=λ{id:Nat} {k:List V->R}=>hrd (f.same _ hbn) (id:=id) (k:=k)
   generalize ss[i]=s at hsi hy hrd
   have w0:=f.wf
   obtain ⟨G1,hG1,f1,p1,n1⟩:=Heap.aP w0 (.cells [.int 7 0,.int 7 0,.aw,.bool false])
   obtain ⟨G2,hG2,f2,p2,n2,w2,k2⟩:=Heap.aU (b:=G.n) f1 (YA _) (by omega) (.cells (bU s y))
   obtain ⟨G3,hG3,f3,p3,n3⟩:=Heap.aP w2 (.cells [y])
   have f03:=(f.trans f2).trans f3
   obtain ⟨v',G4,hap,o4,f4,-⟩:=Own.app (w:=v) (x:=.slice G2.n 0 1 2 0) (m:=1) (new:=[y]) f03 ((o.fresh f2).fresh f3) (λ{id f}=>jZ p3 rfl) rfl (λx hx=>by rw [YO.1 hx];exact hy.one) (by omega)
   have i1:=λ{id:Nat} {k:R}=>aG hy.one (id:=id) (k:=k)
   have cx:=λ{id:Nat} {f:List V->R}=>zP hy.one (id:=id) (f:=f)
   have w1:=f1.wf
   have a1:nn i:=by unfold nn;omega
   have a2:i<9223372036854775808:=by omega
   have a3:(i+1)%18446744073709551616=i+1:=by omega
   have a4:G.n<G1.n:=by omega
   refine ⟨(ns ++ [y],v'),G4,⟨f4,by have:=o4;rwa [show 2+i+1=2+(i+1) by omega]at this,by simp [hl],λj q hj hq=>?_⟩,λd kx r e x ⟨q0,q1,q4,q5,q7,q42,q43,q44⟩ hk=>?_⟩
   .show ∃ x,(ns ++ [y])[j]? = some x/\_
    have hl':ns.length=i:=hl
    by_cases hji:j<i
    .obtain ⟨x,b1,b2⟩:=hx j q hji hq
     exact ⟨x,by rw [Yq (by omega)];exact b1,b2⟩
    .obtain rfl:j=i:=by omega
     rw [hsi]at hq
     cases hq
     exact ⟨y,by rw [Ys (by omega),hl',Qr];rfl,hy⟩
   .simp only [bU]at hG2 p2 hrd
    rw [ax]
    simp only [go_sem,Cj,q7,q42,q43,q44,hil,nl,a1,a2,a3,a4,↓hrd,w0,hG1,p1,w1,hG2,p2,↓i1,↓cx,w2,hG3,↓hap]
    refine hk _ ?_
    simp only [go_sem,q0,q1,q4,q5,q42,q43,and_self]) ss.length 0 ([],v0) G0 (by omega) ⟨f0,o0,rfl,λj s hj=>by omega⟩
 refine ⟨G',v',ns,f',o',λj s hs=>hx' j s (Ya.1 hs).1 hs,λd kx e x q0 q1 q4 q5 q7 q42 q43 q44 hk=>z d kx fuel e x (by omega) ⟨q0,q1,q4,q5,q7,q42,q43,q44⟩ λr e' ⟨q0,q1,q4,q5,q7,q42,q43,q44⟩=>?_⟩
 have e6:¬ ss.length<ss.length:=by omega
 rw [ax]
 simp only [go_sem,Cj,q43,q44,nl,e6]
 exact hk _ q0 q1 q4 q5 q7
theorem SV (T:aJ t) {vx vcn:V} {cs:List Wr} {G0:Heap} (hX:Row H O vx 2 cs.length (bZ cs)) (hn:cs.length<1000) (f0:ae H G0) (hfu:1000<fuel):
 ∃ G',ae H G'/\ae G0 G'/\∀ (d:Nat) (kx:Nat->KE) (e:Env) (x:R),aa s001 e=vx->aa s004 e = .aw->aa s005 e = .aw->aa s012 e=vcn->aa s013 e = .str 32 0->aa s014 e = .int 3 0->aa s075 e=vx->aa s076 e = .int 3 cs.length->aa s077 e = .int 3 0->
  (∀ e',aa s001 e'=vx->aa s004 e' = .aw->aa s005 e' = .aw->aa s012 e'=vcn->aa s013 e' = .str 32 0->aa s014 e' = .int 3 (fA cs cs.length)->kx 3 e' G'=x)->lr yq fuel (aQ cp t fuel d) kx fuel e G0=x:=by
 have nl:nn cs.length:=by unfold nn;omega
 obtain ⟨_,G',⟨f',f0'⟩,z⟩:=bV (c:=yq) (fuel:=fuel) (ph:=λd=>aQ cp t fuel d) (σ:=Unit) (n:=cs.length)
  (I:=λi _ G=>ae H G/\ae G0 G)
  (S:=λi _ e=>aa s001 e=vx/\aa s004 e = .aw/\aa s005 e = .aw/\aa s012 e=vcn/\aa s013 e = .str 32 0/\aa s014 e = .int 3 (fA cs i)/\aa s075 e=vx/\aa s076 e = .int 3 cs.length/\aa s077 e = .int 3 i) (λi _ G hil ⟨f,f0⟩=>by
   have hsi:cs[i]? = some cs[i]:=YB hil
   have hgd:cs.getD i (0,(32,0))=cs[i]:=by rw [YJ,hsi];rfl
   have hnz:fA cs (i+1)=fA cs i+(if cs[i].2=(32,0) then 0 else 1):=by rw [<- hgd];rfl
   have hle:=qH cs i
   have bM:=vj hsi
   obtain ⟨b,ob,c,z,hvx,hbn,-,hrd⟩:=hX.open hil
   have hrd:=λ{id:Nat} {k:List V->R}=>(hrd (f.same _ hbn)).1 (id:=id) (k:=k)
   rw [bM]at hrd
   generalize cs[i]=w at hnz hrd
   obtain ⟨wb,wl,wn⟩:=w
   have w0:=f.wf
   obtain ⟨G1,hG1,f1,p1,n1⟩:=Heap.aP w0 (.cells [.int 3 0,.str 0 0])
   obtain ⟨G2,hG2,f2,p2,n2,w2,k2⟩:=Heap.aU (b:=G.n) f1 (YA _) (by omega) (.cells [.int 3 wb,.str wl wn])
   have w1:=f1.wf
   have a1:nn i:=by unfold nn;omega
   have a2:i<9223372036854775808:=by omega
   have a3:(i+1)%18446744073709551616=i+1:=by omega
   have a4:G.n<G1.n:=by omega
   have a5:(fA cs i+1)%18446744073709551616=fA cs i+1:=by omega
   refine ⟨(),G2,⟨f.trans f2,f0.trans f2⟩,λd kx r e x ⟨q1,q4,q5,q12,q13,q14,q75,q76,q77⟩ hk=>?_⟩
   subst hvx
   by_cases hz:wl=32/\wn=0
   .obtain ⟨rfl,rfl⟩:=hz
    rw [if_pos rfl,WI]at hnz
    rw [ax]
    simp only [go_sem,yq,q13,q75,q76,q77,hil,nl,a1,a2,a3,a4,↓hrd,w0,hG1,p1,w1,hG2,p2,and_self]
    exact hk _ (by simp only [go_sem,q1,q4,q5,q12,q13,q14,q75,q76,hnz,and_self])
   .have hz':(wl=32/\wn=0)=False:=eq_false hz
    rw [if_neg (λh=>hz ⟨congrArg YO3 h,congrArg YO4 h⟩)]at hnz
    rw [ax]
    simp only [go_sem,yq,q13,q14,q75,q76,q77,hil,nl,a1,a2,a3,a4,a5,↓hrd,w0,hG1,p1,w1,hG2,p2,hz']
    exact hk _ (by simp only [go_sem,q1,q4,q5,q12,q13,q75,q76,hnz,and_self])) cs.length 0 () G0 (by omega) ⟨f0,ae.refl f0.wf⟩
 refine ⟨G',f',f0',λd kx e x q1 q4 q5 q12 q13 q14 q75 q76 q77 hk=>z d kx fuel e x (by omega) ⟨q1,q4,q5,q12,q13,q14,q75,q76,q77⟩ λr e' ⟨q1,q4,q5,q12,q13,q14,q75,q76,q77⟩=>?_⟩
 have e6:¬ cs.length<cs.length:=by omega
 rw [ax]
 simp only [go_sem,yq,q76,q77,nl,e6]
 exact hk _ q1 q4 q5 q12 q13 q14
end
end Go.Ev
end
section
namespace Go.Ev
section
variable {cp:RC->aq} {t:Nat->Option cW} {fuel:Nat} {H:Heap} {O:Nat->Prop}
theorem Pc (T:aJ t) {vx vf:V} {cs:List Wr} {fr:List Nat} (hw:H.wf) (hX:Row H O vx 2 cs.length (bZ cs)) (hF:dH H O vf fr) (hfl:fr.length=fA cs cs.length) (hn:cs.length<1000) (hfu:1000<fuel):
 ∃ G' va vw,ae H G'/\Own H G' va 1 cs.length ((Bn cs fr cs.length).map (V.int 3))/\Own H G' vw 2 (fA cs cs.length) (bZ (DW cs fr cs.length))/\∀ (d:Nat) (kx:Nat->KE) (e:Env) (x:R),aa s004 e = .aw->aa s005 e = .aw->aa s013 e = .str 32 0->aa s017 e=vf->aa s123 e=vx->aa s124 e = .int 3 cs.length->aa s125 e = .int 3 0->
  (∀ e',aa s004 e'=va->aa s005 e'=vw->kx 5 e' G'=x)->lr yr fuel (aQ cp t fuel d) kx fuel e H=x:=by
 have nl:nn cs.length:=by unfold nn;omega
 obtain ⟨⟨va,vw⟩,G',⟨f',oa',ow',-⟩,z⟩:=bV (c:=yr) (fuel:=fuel) (ph:=λd=>aQ cp t fuel d) (σ:=V × V) (n:=cs.length)
  (I:=λi s G=>ae H G/\Own H G s.1 1 i ((Bn cs fr i).map (V.int 3))/\Own H G s.2 2 (fA cs i) (bZ (DW cs fr i))/\∀ b o n c z,s.2 = .slice b o n c z->kO s.1 b)
  (S:=λi s e=>aa s004 e=s.1/\aa s005 e=s.2/\aa s013 e = .str 32 0/\aa s017 e=vf/\aa s123 e=vx/\aa s124 e = .int 3 cs.length/\aa s125 e = .int 3 i) (λi s G hil ⟨f,oa,ow,oo⟩=>by
   obtain ⟨va,vw⟩:=s
   have oo:∀ b o n c z,vw = .slice b o n c z->kO va b:=oo
   have oa:Own H G va 1 i ((Bn cs fr i).map (V.int 3)):=oa
   have ow:Own H G vw 2 (fA cs i) (bZ (DW cs fr i)):=ow
   have hsi:cs[i]? = some cs[i]:=YB hil
   have hgd:cs.getD i (0,(32,0))=cs[i]:=by rw [YJ,hsi];rfl
   have hnz:fA cs (i+1)=fA cs i+(if cs[i].2=(32,0) then 0 else 1):=by rw [<- hgd];rfl
   have hpa:Bn cs fr (i+1)=Bn cs fr i ++ [if cs[i].2=(32,0) then 0 else fr.getD (fA cs i) 0]:=by rw [<- hgd];rfl
   have hpw:DW cs fr (i+1)=DW cs fr i ++ (if cs[i].2=(32,0) then [] else [(fr.getD (fA cs i) 0,cs[i].2)]):=by rw [<- hgd];rfl
   have hle:=qH cs i
   have hmo:=xd (cs:=cs) (show i+1<=cs.length by omega)
   have bM:=vj hsi
   obtain ⟨b,ob,c,z,hvx,hbn,-,hrd⟩:=hX.open hil
   have hrd:=λ{id:Nat} {k:List V->R}=>(hrd (f.same _ hbn)).1 (id:=id) (k:=k)
   rw [bM]at hrd
   generalize cs[i]=w at hnz hrd hpa hpw
   obtain ⟨wb,wl,wn⟩:=w
   have w0:=f.wf
   obtain ⟨G1,hG1,f1,p1,n1⟩:=Heap.aP w0 (.cells [.int 3 0,.str 0 0])
   obtain ⟨G2,hG2,f2,p2,n2,w2,k2⟩:=Heap.aU (b:=G.n) f1 (YA _) (by omega) (.cells [.int 3 wb,.str wl wn])
   have w1:=f1.wf
   have a1:nn i:=by unfold nn;omega
   have a2:i<9223372036854775808:=by omega
   have a3:(i+1)%18446744073709551616=i+1:=by omega
   have a4:G.n<G1.n:=by omega
   by_cases hz:wl=32/\wn=0
   .obtain ⟨rfl,rfl⟩:=hz
    rw [if_pos rfl]at hpa
    rw [if_pos rfl,YW]at hpw
    rw [if_pos rfl,WI]at hnz
    obtain ⟨G3,hG3,f3,p3,n3⟩:=Heap.aP w2 (.cells [.int 3 0])
    obtain ⟨va',G4,hap,oa4,f4,k4,n4,off4⟩:=Own.app (w:=va) (x:=.slice G2.n 0 1 2 0) (m:=1) (new:=[.int 3 0]) ((f.trans f2).trans f3) ((oa.fresh f2).fresh f3) (λ{id f}=>jZ p3 rfl) rfl (λx hx=>by rw [YO.1 hx];rfl) (by omega)
    refine ⟨(va',vw),G4,⟨f4,by rw [hpa,WB];exact oa4,by rw [hnz,hpw];exact ((ow.fresh f2).fresh f3).eL n4 k4 oo,λb o n c z e=>off4 b (by have:=(ow.cQ e).2;omega) (oo _ _ _ _ _ e)⟩,λd kx r e x ⟨q4,q5,q13,q17,q123,q124,q125⟩ hk=>?_⟩
    subst hvx
    rw [ax]
    simp only [go_sem,yr,q4,q13,q123,q124,q125,hil,nl,a1,a2,a3,a4,↓hrd,w0,hG1,p1,w1,hG2,p2,and_self,w2,hG3,↓hap]
    exact hk _ (by simp only [go_sem,q5,q13,q17,q123,q124,and_self])
   .have hz':(wl=32/\wn=0)=False:=eq_false hz
    have hz2:¬ ((wl,wn):Tx)=(32,0):=λh=>hz ⟨congrArg YO3 h,congrArg YO4 h⟩
    rw [if_neg hz2]at hpa hpw hnz
    have hj:fA cs i<fr.length:=by omega
    obtain ⟨fb,fo,fc,fz,rfl,IY,-,hfr⟩:=hF.open hj
    have hfr2:=λ{id:Nat} {k:V->R}=>hfr ((f.trans f2).same _ IY) (id:=id) (k:=k)
    have hfd:fr.getD (fA cs i) 0=fr[fA cs i]:=by rw [YJ,YB hj];rfl
    rw [hfd]at hpa hpw
    generalize fr[fA cs i]=q at hpa hpw hfr hfr2
    obtain ⟨G3,hG3,f3,p3,n3⟩:=Heap.aP w2 (.cells [.int 3 q])
    obtain ⟨va',G4,hap,oa4,f4,k4,n4,off4⟩:=Own.app (w:=va) (x:=.slice G2.n 0 1 2 0) (m:=1) (new:=[.int 3 q]) ((f.trans f2).trans f3) ((oa.fresh f2).fresh f3) (λ{id f}=>jZ p3 rfl) rfl (λx hx=>by rw [YO.1 hx];rfl) (by omega)
    have ow4:=((ow.fresh f2).fresh f3).eL n4 k4 oo
    have p4:G4.get G.n = .cells [.int 3 wb,.str wl wn]:=(k4 _ (by omega) (oa.Bi (YA _))).trans ((f3.same _ (by omega)).trans p2)
    have hfr4:=λ{id:Nat} {k:V->R}=>hfr (f4.same _ IY) (id:=id) (k:=k)
    have oo4:∀ b o n c z,vw = .slice b o n c z->kO va' b:=λb o n c z e=>off4 b (by have:=(ow.cQ e).2;omega) (oo _ _ _ _ _ e)
    obtain ⟨G5,hG5,f5,p5,n5⟩:=Heap.aP f4.wf (.cells [.int 3 q,.str wl wn])
    have f45:=f4.trans f5
    obtain ⟨vw',G6,hap6,ow6,f6,k6,n6,off6⟩:=Own.app (w:=vw) (x:=.slice G4.n 0 1 2 0) (m:=1) (new:=[.int 3 q,.str wl wn]) f45 (ow4.fresh f5) (λ{id f}=>jZ p5 rfl) rfl (λx hx=>by rcases YT.1 hx with rfl|hx;rfl;rw [YO.1 hx];rfl) (by omega)
    have sw:=λ{id:Nat} {f:Nat->R}=>ow.sn (id:=id) (f:=f)
    have w4:=f4.wf
    have w5:=f5.wf
    have a5:nn (fA cs i):=by unfold nn;omega
    have a6:fA cs i<9223372036854775808:=by omega
    have hle2:=qH cs cs.length
    have a7:nn fr.length:=by unfold nn;omega
    refine ⟨(va',vw'),G6,⟨f6,?_,by rw [hnz,hpw,ei];exact ow6,?_⟩,λd kx r e x ⟨q4,q5,q13,q17,q123,q124,q125⟩ hk=>?_⟩
    .rw [hpa,WB]
     exact (oa4.fresh f5).eL n6 k6 (xe oo4)
    .exact xe λb o n c z e=>off6 b (by have:=(oa4.cQ e).2;omega) (xe oo4 _ _ _ _ _ e)
    subst hvx
    rw [ax]
    simp only [go_sem,yr,q4,q5,q13,q17,q123,q124,q125,hil,hj,nl,a1,a2,a3,a4,a6,↓hrd,w0,hG1,p1,w1,hG2,p2,hz',↓sw,↓hfr2,w2,hG3,↓hap,↓hfr4,p4,w4,hG5,↓hap6]
    exact hk _ (by simp only [go_sem,q13,q17,q123,q124,and_self])) cs.length 0 (.aw,.aw) H (by omega) ⟨ae.refl hw,Own.nil,Own.nil,λb o n c z e=>by cases e⟩
 refine ⟨G',va,vw,f',oa',ow',λd kx e x q4 q5 q13 q17 q123 q124 q125 hk=>z d kx fuel e x (by omega) ⟨q4,q5,q13,q17,q123,q124,q125⟩ λr e' ⟨q4,q5,q13,q17,q123,q124,q125⟩=>?_⟩
 have e6:¬ cs.length<cs.length:=by omega
 rw [ax]
 simp only [go_sem,yr,q124,q125,nl,e6]
 exact hk _ q4 q5
end
end Go.Ev
end
section
namespace Go.Ev
open Go.Proofs
def gz (m:MT) (n:Nat):List Nat:=pR n (nz (dY m).flatten)
section
variable {t:Nat->Option cW} {fuel:Nat} {H:Heap} {O Q:Nat->Prop}
set_option maxRecDepth 4000 in
theorem Hf (T:aJ t) (hc:aY t) {m:MT} {vl vs vi vx:V} {vp dp:Nat} {lost:Bool} {A:AD} {cs:List Wr} (hD:cP H dp A O) (hV:H.get vp = .cells (vc m vl vs vi dp lost)) (hVn:vp<H.n) (M:jk H Q m vl vs vi) (Y:nE m) (hX:Row H Q vx 2 cs.length (bZ cs)) (hn:cs.length<1000) (hA:A.len<=1024)
 (hok:∀ l ∈ dY m,∀ a ∈ l,a≠0->193<=a/\a<A.len) (hQ:∀ b,Q b->b<H.n) (hfl:(dY m).flatten.length<1000000) (hfu:1000000<fuel):
 ∃ H' va vw,(∀ (d:Nat) (k:K),aj (aQ (aZ Tryz.prog) t fuel (d+5)) (.func 100 []) [.ptr vp 0,vx] H k=k (.cE [va,vw,.int 3 (if (dv (gz m A.len)).length<fA cs cs.length then 7 else 0)]) H')/\ae H H'/\va.one=true/\vw.one=true/\
  (¬ (dv (gz m A.len)).length<fA cs cs.length->Own H H' va 1 cs.length ((Bn cs ((dv (gz m A.len)).take (fA cs cs.length)) cs.length).map (V.int 3))/\Own H H' vw 2 (fA cs cs.length) (bZ (DW cs ((dv (gz m A.len)).take (fA cs cs.length)) cs.length))):=by
 have hw:=hD.wf
 have l1:=Y.live.1
 have l2:=Y.num
 have l3:=Y.tok.2.2.2.2.1
 obtain ⟨Ml,Ms,Mi⟩:=M
 have j1:=λ{id:Nat} {k:R}=>aG Ml.one (id:=id) (k:=k)
 have j2:=λ{id:Nat} {k:R}=>aG Mi.one (id:=id) (k:=k)
 have x1:=λ{id:Nat} {f:List V->R}=>zP Ml.one (id:=id) (f:=f)
 have x2:=λ{id:Nat} {f:List V->R}=>zP Mi.one (id:=id) (f:=f)
 have sn:=λ{id:Nat} {f:Nat->R}=>(let ⟨_,h,_⟩:=Ms;h.sn (id:=id) (f:=f):bz id vs (λ_ _ len _ _=>f len) (f 0)=f m.ah.length)
 have sx:=λ{id:Nat} {f:Nat->R}=>hX.sn (id:=id) (f:=f)
 have hV':=hV
 simp only [vc,aS,bP,YP,YN]at hV'
 obtain ⟨G1,hG1,f1,p1,n1⟩:=Heap.aP hw (.cells [vl,vi])
 have o1:Own H G1 (.slice H.n 0 2 3 0) 1 2 [vl,vi]:=⟨rfl,λx hx=>by rcases YT.1 hx with rfl|hx;exact Ml.one;rw [YO.1 hx];exact Mi.one,YE ⟨_,_,_,[],rfl,p1,YG rfl,YA _,by omega⟩⟩
 obtain ⟨G2,vg,ns,f2,o2,hns,zi⟩:=J3 (cp:=aZ Tryz.prog) (fuel:=fuel) (vp:=vp) (vx:=vx) T Ms l2 f1 o1 (by omega)
 have hV1:=(f1.same _ hVn).trans hV'
 have hV2:=(f2.same _ hVn).trans hV'
 have hims:Ls G2 Q vg (dY m):=by
  refine ⟨vl :: vi :: ns,?_,λi l hl=>?_⟩
  .have:=o2.toRow hQ
   rwa [show 2+m.ah.length=(dY m).length by simp [dY];omega]at this
  .match i,hl with
   | 0,hl=>cases hl;exact ⟨vl,rfl,Ml.fresh f2⟩
   | 1,hl=>cases hl;exact ⟨vi,rfl,Mi.fresh f2⟩
   | i+2,hl=>
    have hl:(m.ah.map (·.cz))[i]? = some l:=hl
    rw [Yh]at hl
    obtain ⟨s,hs,rfl⟩:=Option.map_eq_some_iff.1 hl
    obtain ⟨x,hx,hI⟩:=hns i s hs
    exact ⟨x,hx,hI.fresh f2⟩
 have hlen:∀ l ∈ dY m,l.length<1000000:=λl hl=>by
  have:l.length<=(dY m).flatten.length:=(List.sublist_flatten_of_mem hl).length_le
  omega
 have zl:=λ{d:Nat} {k:K}=>rN (cp:=aZ Tryz.prog) (fuel:=fuel) (T.iP hc) (d:=d) (k:=k) (hD.fresh f2)
 obtain ⟨G3,vcn,zc,f3,o3⟩:=CL (t:=t) (fuel:=fuel) T f2.wf hims (by simp [dY];omega) hlen hfu hA hok hfl
 have zc:=λ{d:Nat} {k:K}=>zc d k
 have w3:=f3.wf
 obtain ⟨G4,hG4,f4,p4,n4⟩:=Heap.aP w3 (.bytes 32 0)
 have f24:=f2.trans (f3.trans f4)
 obtain ⟨G5,f5,f45,zn⟩:=SV (cp:=aZ Tryz.prog) (fuel:=fuel) (vcn:=vcn) T hX hn f24 (by omega)
 have hcn:dH G5 Q vcn (gz m A.len):=((o3.toRow (O:=Q) λb h=>YC (hQ b h) f2.n).fresh (f4.trans f45):Row G5 Q vcn 1 A.len _) |> λh=>by
  unfold dH gz
  rw [dP]
  exact h
 have hnle:=qH cs cs.length
 obtain ⟨G6,vf,zt,f6,o6⟩:=TQ (t:=t) (fuel:=fuel) (n:=fA cs cs.length) T f5.wf hcn (by unfold gz;rw [dP];omega) hfu (by omega)
 have zt:=λ{d:Nat} {k:K}=>zt d k
 have e1:m.ah.length<9223372036854775808:=by omega
 have e2:cs.length<9223372036854775808:=by omega
 by_cases hlt:(dv (gz m A.len)).length<fA cs cs.length
 .rw [if_pos hlt]at zt ⊢
  refine ⟨G6,.aw,.aw,λd k=>?_,f5.trans f6,rfl,rfl,λh=>absurd hlt h⟩
  rw [aR T.k50 rfl rfl]
  simp only [go_sem,c50,Mz,hV',↓j1,↓j2,↓x1,↓x2,hw,hG1]
  simp only [go_sem,MD,hV1,↓sn,e1]
  refine zi (d+4) _ _ _ ?_ ?_ ?_ ?_ ?_ ?_ ?_ ?_ λe' q0 q1 q4 q5 q7=>?_
  .rfl
  .rfl
  .rfl
  .rfl
  .rfl
  .rfl
  .rfl
  .rfl
  simp only [go_sem,ME,q0,q7,hV2,↓zl,↓zc]
  simp only [go_sem,MF,MG,MH,MI,q1,w3,hG4,p4,↓sx,e2]
  refine zn (d+4) _ _ _ ?_ ?_ ?_ ?_ ?_ ?_ ?_ ?_ ?_ λe' q1 q4 q5 q12 q13 q14=>?_
  .exact q1
  .exact q4
  .exact q5
  .rfl
  .rfl
  .rfl
  .rfl
  .rfl
  .rfl
  simp only [go_sem,MJ,q12,q14,↓zt]
  simp only [go_sem,MK]
 .rw [if_neg hlt]at zt ⊢
  have o6:=o6 hlt
  have hfrl:((dv (gz m A.len)).take (fA cs cs.length)).length=fA cs cs.length:=by rw [List.length_take];omega
  generalize (dv (gz m A.len)).take (fA cs cs.length)=fr at o6 hfrl ⊢
  obtain ⟨G7,va,vw,f7,oa,ow,zp⟩:=Pc (cp:=aZ Tryz.prog) (fuel:=fuel) (vf:=vf) (fr:=fr) T f6.wf (hX.fresh (f5.trans f6)) (by unfold dH;rw [hfrl];exact o6.toRow λb h=>YC (hQ b h) f5.n) hfrl hn (by omega)
  have f56:=f5.trans f6
  refine ⟨G7,va,vw,λd k=>?_,f56.trans f7,oa.one,ow.one,λ_=>⟨oa.sub f56.n,ow.sub f56.n⟩⟩
  rw [aR T.k50 rfl rfl]
  simp only [go_sem,c50,Mz,hV',↓j1,↓j2,↓x1,↓x2,hw,hG1]
  simp only [go_sem,MD,hV1,↓sn,e1]
  refine zi (d+4) _ _ _ ?_ ?_ ?_ ?_ ?_ ?_ ?_ ?_ λe' q0 q1 q4 q5 q7=>?_
  .rfl
  .rfl
  .rfl
  .rfl
  .rfl
  .rfl
  .rfl
  .rfl
  simp only [go_sem,ME,q0,q7,hV2,↓zl,↓zc]
  simp only [go_sem,MF,MG,MH,MI,q1,w3,hG4,p4,↓sx,e2]
  refine zn (d+4) _ _ _ ?_ ?_ ?_ ?_ ?_ ?_ ?_ ?_ ?_ λe' q1 q4 q5 q12 q13 q14=>?_
  .exact q1
  .exact q4
  .exact q5
  .rfl
  .rfl
  .rfl
  .rfl
  .rfl
  .rfl
  simp only [go_sem,MJ,q12,q14,↓zt]
  simp only [go_sem,MK,MA,q1,↓sx,e2]
  refine zp (d+4) _ _ _ ?_ ?_ ?_ ?_ ?_ ?_ ?_ λe' q4 q5=>?_
  .exact q4
  .exact q5
  .exact q13
  .rfl
  .rfl
  .rfl
  .rfl
  simp only [go_sem,MB,MC,q4,q5]
end
end Go.Ev
end
section
namespace Go.Ev
structure TS (H G:Heap) (B:Nat) (m:MT) (vl vs vi:V):Prop where
 f:ae H G
 g:G.get B = .cells (aS m vl vs vi)
 hi:B<G.n
 base:∃ G1,ae H G1/\MO H G1 m vl vs vi/\G1.n<=B/\ae G1 G
theorem MO.fresh {H G G':Heap} {m:MT} {vl vs vi:V} (h:MO H G m vl vs vi) (f:ae G G'):MO H G' m vl vs vi:=⟨h.live.fresh f,let ⟨xs,s⟩:=h.ah; ⟨xs,s.1.fresh f,s.2.1,λi q hq=>let ⟨x,a,b,c⟩:=s.2.2 i q hq; ⟨x,a,b.fresh f,c⟩⟩,h.cz.fresh f,h.dl,h.di⟩
theorem TS.of {H G1 G:Heap} {m:MT} {vl vs vi:V} (f1:ae H G1) (o:MO H G1 m vl vs vi) (f:ae G1 G) (g:G.get G1.n = .cells (aS m vl vs vi)) (n:G.n=G1.n+1):TS H G G1.n m vl vs vi:=⟨f1.trans f,g,by omega,G1,f1,o,YA _,f⟩
theorem TS.mo {H G:Heap} {B:Nat} {m:MT} {vl vs vi:V} (h:TS H G B m vl vs vi):MO H G m vl vs vi:=let ⟨_,_,o,_,f⟩:=h.base;o.fresh f
theorem TS.lo {H G:Heap} {B:Nat} {m:MT} {vl vs vi:V} (h:TS H G B m vl vs vi):H.n<=B:=let ⟨_,f,_,n,_⟩:=h.base;Ym f.n n
def xG:Tk:=⟨(0,0),(0,0),0,0,[]⟩
theorem tb:∀ {ss} {xs} {s} {x},xs.length=ss.length->dR (ss ++ [s]) (xs ++ [x])=dR ss xs ++ bU s x
 | [],[],s,x,_=>by rfl
 | [],_ :: _,_,_,h=>by simp_all
 | _ :: _,[],_,_,h=>by simp_all
 | a :: ss,b :: xs,s,x,h=>by
  show bU a b ++ dR (ss ++ [s]) (xs ++ [x])=_
  rw [tb (by simp_all),<- WC]
  rfl
theorem JS:∀ {ss} {xs} {i} {s},ss[i]? = some s->xs.length=ss.length->(dR ss xs).set (i*4+3) (.bool true)=dR (ss.set i {s with hid:=true }) xs
 | [],_,i,_,h,_=>by rfl
 | _ :: _,[],i,_,_,h=>by simp_all
 | a :: ss,b :: xs,0,s,h,_=>by
  simp at h
  subst h
  rfl
 | a :: ss,b :: xs,i+1,s,h,h'=>by
  rw [show (i+1)*4+3=(i*4+3)+4 by omega]
  show bU a b ++ (dR ss xs).set (i*4+3) (.bool true)=_
  rw [JS (by simpa using h) (by simp_all)]
  rfl
theorem Heap.Oy {H:Heap} (hw:H.wf) (x:ee):∃ Gm G,H.mark.new x=Gm/\Gm.dW H.bC=G/\H.n<=Gm.bC/\ae H G/\G.get H.n=x/\G.n=H.n+1:=by
 have hm:H.mark.wf:=by rw [Heap.cO];exact hw
 have f:=ae.new hm (x:=x)
 refine ⟨_,_,rfl,rfl,f.dW.2,f.dW.1,?_,?_⟩
 .show (H.mark.new x).get H.mark.n=x
  rw [Heap.aH hm,if_pos rfl]
 .show (H.mark.new x).n=H.mark.n+1
  exact Heap.aO
section
variable {cp:RC->aq} {t:Nat->Option cW} {fuel:Nat} {H G:Heap} {Q:Nat->Prop} {B:Nat} {m:MT} {vl vs vi:V}
theorem BS (T:aJ t) (S:TS H G B m vl vs vi):
 ∃ G',(∀ (d) (k),aj (aQ cp t fuel (d+1)) (.func 112 []) [.ptr B 0] G k=k (.cE []) G')/\TS H G' B {m with tok:=xG } vl vs .aw/\∀ j,j≠B->G'.get j=G.get j:=by
 obtain ⟨f,g,hi,G1,f1,o1,n1,f13⟩:=S
 obtain ⟨G2,hG2,f2,p2,n2,w2,k2⟩:=Heap.aU f13 n1 hi (.cells (aS {m with tok:=xG } vl vs .aw))
 have w:=f.wf
 refine ⟨G2,λd k=>?_,⟨f1.trans f2,p2,by omega,G1,f1,⟨o1.live,o1.ah,Own.nil,o1.dl,λb o n c s e=>by cases e⟩,n1,f2⟩,k2⟩
 simp only [aS,bP,xG]at g hG2
 rw [aR T.k56 rfl rfl]
 simp only [go_sem,c56,g,w,hi,hG2]
theorem TS.put {G2:Heap} (S:TS H G B m vl vs vi) (f2:ae G G2) (l:List V):∃ G3,G2.put B (.cells l)=G3/\ae H G3/\G3.get B = .cells l/\G3.n=G2.n/\G3.wf/\(∀ j,j≠B->G3.get j=G2.get j)/\MO H G3 m vl vs vi:=by
 obtain ⟨f,g,hi,G1,f1,o1,n1,f13⟩:=S
 obtain ⟨G3,hG3,f3,p3,n3,w3,k3⟩:=Heap.aU (b:=B) (f13.trans f2) n1 (by have:=f2.n;omega) (.cells l)
 exact ⟨G3,hG3,f1.trans f3,p3,n3,w3,k3,o1.fresh f3⟩
theorem Il (T:aJ t) {Q1} {cb ca block p} {va} {at_} (S:TS H G B m vl vs vi) (Y:nE m) (gb:G.get cb = .cells [.int 3 block]) (ga:G.get ca = .cells [va]) (hva:dH G Q1 va at_) (hp:at_[0]? = some p) (hpn:nn p) (hbl:block<m.live.length) (hQ:∀ b,Q b->b<H.n):
 ∃ G' vl',(∀ (d) (k),aj (aQ cp t fuel (d+3)) (.func 104 [.ptr cb 0,.ptr ca 0]) [.ptr B 0] G k=k (.cE []) G')/\ae H G'/\B<G'.n/\G'.get B = .cells (aS {m with live:=m.live.set block p } vl' vs vi)/\jk G' Q {m with live:=m.live.set block p } vl' vs vi/\∀ j,j<G.n->j≠B->G'.get j=G.get j:=by
 have l1:=Y.live.1
 have o:=S.mo
 have w:=S.f.wf
 have hi:=S.hi
 have g:=S.g
 have hal:=(Ya.1 hp).1
 have hp0:=(Ya.1 hp).2
 obtain ⟨ab,ao,ac,az,hvae,hab,-,hrd⟩:=hva.open hal
 have hrd:=λ{id} {k}=>hrd rfl (id:=id) (k:=k)
 rw [hp0,WI]at hrd
 obtain ⟨G2,vl',z2,f2,o2⟩:=AW (cp:=cp) (fuel:=fuel) T w (dH.iT o.live λb h=>h) (by omega) hbl hpn
 have z2:=λ{d} {k}=>z2 d k
 have m2:=f2.n
 obtain ⟨G3,hG3,f3,p3,n3,w3,k3,o3⟩:=S.put f2 (aS {m with live:=m.live.set block p } vl' vs vi)
 have g2:=(f2.same _ hi).trans g
 have i1:=λ{id} {k}=>aG o.live.one (id:=id) (k:=k)
 have i2:=λ{id} {k}=>aG o2.one (id:=id) (k:=k)
 have i3:=λ{id} {k}=>aG hva.one (id:=id) (k:=k)
 refine ⟨G3,vl',λd k=>?_,f3,by omega,p3,⟨?_,(o3.at_ hQ).ah,(o3.at_ hQ).cz⟩,λj hj hne=>(k3 j hne).trans (f2.same _ hj)⟩
 .have w2:=f2.wf
  have u2:B<G2.n:=by omega
  simp only [aS,bP]at g hG3 g2
  subst hvae
  rw [aB T.k52 rfl rfl]
  simp only [go_sem,ZE,c52,g,gb,ga,↓hrd,hal,↓z2,↓i2,g2,w2,u2,hG3]
 .have:=o2.eL (v:=.slice B 0 0 0 0) (by omega) (λj hj ho=>k3 j (ho _ _ _ _ _ rfl)) λb o n c s e b' o' n' c' s' e'=>by cases e';have:=(o2.cQ e).1;omega
  have h:=this.toRow λb h=>by have:=hQ b h;have:=S.f.n;omega
  unfold dH
  simp_all
theorem K1 (T:aJ t) {ca:Nat} {gd:Gd} (S:TS H G B m vl vs vi) (Y:nE m) (ga:G.get ca = .cells (bu gd)) (hca:ca<G.n) (hcB:ca≠B) (hQ:∀ b,Q b->b<H.n):
 ∃ G' vs',(∀ (d:Nat) (k:K),aj (aQ cp t fuel (d+2)) (.func 114 [.ptr ca 0]) [.ptr B 0] G k=k (.cE []) G')/\ae H G'/\B<G'.n/\G'.get B = .cells (aS {m with ah:=m.ah ++ [⟨gd,m.live,false⟩]} vl vs' vi)/\jk G' Q {m with ah:=m.ah ++ [⟨gd,m.live,false⟩]} vl vs' vi/\∀ j,j<H.n->G'.get j=G.get j:=by
 have l1:=Y.live.1
 have l2:=Y.num
 have o:=S.mo
 have w:=S.f.wf
 have hi:=S.hi
 have lo:=S.lo
 have g:=S.g
 have f:=S.f
 obtain ⟨-,-,-,G1,f1,o1,n1,f13⟩:=S
 obtain ⟨xs,ho1,hxl,hx1⟩:=o1.ah
 have ho:=ho1.fresh f13
 have hvB:kO vs B:=ho1.Bi n1
 obtain ⟨Gm,G2,y,z2,hu2,hl2,f2,oy⟩:=Ow (eW (cp:=cp) (fuel:=fuel) (H:=G.mark) (O:=Q) T (by rw [Heap.cO];exact w) ((dH.iT o.live hQ).fresh (ae.DF w)) (by omega))
 have m2:=f2.n
 obtain ⟨Gn,G3,hGn,hu3,hl3,f3,p3,n3⟩:=Heap.Oy f2.wf (.cells [.int 7 gd.1,.int 7 gd.2,y,.bool false])
 have f23:=f2.trans f3
 obtain ⟨vs',G4,hap,o4,f4,k4,n4,off4⟩:=Own.app (w:=vs) (x:=.slice G2.n 0 1 2 0) (m:=1) (new:=[.int 7 gd.1,.int 7 gd.2,y,.bool false]) (f.trans f23) (ho.fresh f23) (λ{id f}=>jZ p3 rfl) rfl (λx hx=>by
  rcases YT.1 hx with rfl|hx;rfl
  rcases YT.1 hx with rfl|hx;rfl
  rcases YT.1 hx with rfl|hx;exact oy.one
  rw [YO.1 hx];rfl) (by omega)
 have o4:Own H G4 vs' 4 (m.ah.length+1) (dR m.ah xs ++ bU ⟨gd,m.live,false⟩ y):=o4
 rw [<- tb hxl]at o4
 have g4:G4.get B = .cells (aS m vl vs vi):=(k4 B (by omega) hvB).trans ((f23.same _ hi).trans g)
 have hB4:B<G4.n:=by grind
 obtain ⟨G5,hG5,f5,p5,n5,w5,k5⟩:=Heap.aU (b:=B) f4 lo hB4 (.cells (aS {m with ah:=m.ah ++ [⟨gd,m.live,false⟩]} vl vs' vi))
 have off5:kO vs' B:=off4 B (by grind) hvB
 have keepO:∀ {v:V} {sz n:Nat} {row:List V},Own H G v sz n row->(∀ b o n c s,v = .slice b o n c s->kO vs b)->(∀ b o n c s,v = .slice b o n c s->b≠B)->Own H G5 v sz n row:=λh hh hb=>((h.fresh f23).eL (v:=vs) n4 k4 hh).eL (v:=.slice B 0 0 0 0) (by omega) (λj hj ho=>k5 j (ho _ _ _ _ _ rfl)) λb o n c s e b' o' n' c' s' e'=>by grind
 have keep5:∀ {H1:Heap} {v:V} {sz n:Nat} {row:List V},Own H1 G4 v sz n row->(∀ b o n c s,v = .slice b o n c s->b≠B)->Own H1 G5 v sz n row:=λh hb=>h.eL (v:=.slice B 0 0 0 0) (by omega) (λj hj ho=>k5 j (ho _ _ _ _ _ rfl)) λb o n c s e b' o' n' c' s' e'=>by grind
 have offB:∀ {v:V} {sz n:Nat} {row:List V},Own H G1 v sz n row->∀ b o n c s,v = .slice b o n c s->b≠B:=λh b o n c s e=>by have:=(h.cQ e).2;omega
 refine ⟨G5,vs',λd k=>?_,f5,by omega,p5,⟨dH.iT (keepO o.live o1.dl (offB o1.live)) hQ,⟨xs ++ [y],?_,by simp [hxl],λi s' hs'=>?_⟩,dH.iT (keepO o.cz o1.di (offB o1.cz)) hQ⟩,λj hj=>?_⟩
 .have j1:=λ{id:Nat} {k:R}=>aG o.live.one (id:=id) (k:=k)
  have j2:=λ{id:Nat} {k:R}=>aG o.cz.one (id:=id) (k:=k)
  have j3:=λ{id:Nat} {k:R}=>aG oy.one (id:=id) (k:=k)
  have j4:=λ{id:Nat} {k:R}=>aG ho.one (id:=id) (k:=k)
  have j5:=λ{id:Nat} {k:R}=>aG o4.one (id:=id) (k:=k)
  have x3:=λ{id:Nat} {f:List V->R}=>zP oy.one (id:=id) (f:=f)
  have z2:=λ{d:Nat} {k:K}=>z2 d k
  have w4:=f4.wf
  have wm:G2.mark.wf:=by rw [Heap.cO];exact f2.wf
  have nm:G2.mark.n=G2.n:=rfl
  simp only [aS,bP,bu]at g g4 ga hG5
  rw [aB T.k57 rfl rfl]
  simp only [YP,YN]
  simp only [go_sem,c57,g,ga,↓j3,↓j5,↓x3,↓z2,hu2,hl2,wm,nm,hGn,hu3,hl3,↓hap,g4,w4,hB4,hG5]
 .have:=(keep5 o4 λb o n c s e he=>off5 _ _ _ _ _ e he.symm).toRow hQ
  grind
 .have hs':(m.ah ++ [⟨gd,m.live,false⟩])[i]? = some s':=hs'
  by_cases hil:i<m.ah.length
  .rw [Yq hil]at hs'
   obtain ⟨x,b1,b2,b3⟩:=hx1 i s' hs'
   exact ⟨x,by grind,dH.iT (keepO (b2.fresh f13) b3 (offB b2)) hQ⟩
  .rw [Ys (by omega)]at hs'
   have hi0:i-m.ah.length=0:=by
    grind
   rw [hi0]at hs'
   cases hs'
   refine ⟨y,by grind,?_⟩
   have oy4:Own G G4 y 1 m.live.length (m.live.map (V.int 3)):=(oy.fresh f3).eL (v:=vs) n4 k4 λb o n c s e=>ho.Bi (oy.cQ e).1
   exact dH.iT (keep5 oy4 λb o n c s e=>by have:=(oy4.cQ e).1;omega) λb h=>by grind
 .rw [k5 j (by omega),k4 j (by grind) (ho.off hj),f23.same j (by grind)]
end
end Go.Ev
end
section
namespace Go.Ev
section
variable {id:Nat} {ph:dg} {e:Env} {H:Heap} {k:K} {O:Nat->Prop}
end
theorem FT:∀ {ss} {xs} {n},xs.length=ss.length->(dR ss xs).take (n*4)=dR (ss.take n) (xs.take n)
 | [],[],n,_=>by simp [dR]
 | [],_ :: _,_,h=>by simp_all
 | _ :: _,[],_,h=>by simp_all
 | a :: ss,b :: xs,0,_=>by rfl
 | a :: ss,b :: xs,n+1,h=>by
  have:=FT (n:=n) (by simpa using h)
  show (bU a b ++ dR ss xs).take ((n+1)*4)=bU a b ++ dR (ss.take n) (xs.take n)
  rw [<- this,show (n+1)*4=(bU a b).length+n*4 by simp [bU];omega,List.take_length_add_append]
section
variable {cp:RC->aq} {t:Nat->Option cW} {fuel:Nat} {H G:Heap} {Q:Nat->Prop} {B:Nat} {m:MT} {vl vs vi:V}
end
end Go.Ev
end
section
namespace Go.Ev
section
variable {cp:RC->aq} {t:Nat->Option cW} {fuel:Nat} {H G:Heap} {Q:Nat->Prop} {B:Nat} {m:MT} {vl vs vi:V}
end
end Go.Ev
end
section
namespace Go.Ev
structure VP (H:Heap) (dp vp a n:Nat) (A:AD) (O:Nat->Prop) (m:MT) (vl vs vi:V):Prop where
 eX:cP H dp A O
 off:A.off=false
 can:pg A a n
 lo:193<=A.len
 hi:A.len<=1024
 get:H.get vp = .cells (vc m vl vs vi dp false)
 vn:vp<H.n
 vo:¬ O vp
 yX:jk H (bH O vp) m vl vs vi
 ok:nE m
def tP (H H':Heap) (dp vp:Nat) (O O':Nat->Prop) (m:MT) (vl vs vi:V) (A':AD) (m':MT) (lost:Bool):Prop:=Step H (bH O vp) H' (bH O' vp)/\cP H' dp A' O'/\¬ O' vp/\vp<H'.n/\∃ vl' vs' vi',H'.get vp = .cells (vc m' vl' vs' vi' dp lost)/\jk H' (bH O' vp) m' vl' vs' vi'/\∀ X:Nat->Prop,(∀ b,X b->b<H.n)->jk H (λb=>X b\/bH O vp b) m vl vs vi->jk H' (λb=>X b\/bH O' vp b) m' vl' vs' vi'
theorem VP.fresh {H H':Heap} {dp vp a n:Nat} {A:AD} {O:Nat->Prop} {m:MT} {vl vs vi:V} (S:VP H dp vp a n A O m vl vs vi) (f:ae H H'):VP H' dp vp a n A O m vl vs vi:=⟨S.eX.fresh f,S.off,S.can,S.lo,S.hi,(f.same _ S.vn).trans S.get,YC S.vn f.n,S.vo,S.yX.fresh f,S.ok⟩
theorem VP.lt {H:Heap} {dp vp a n:Nat} {A:AD} {O:Nat->Prop} {m:MT} {vl vs vi:V} (S:VP H dp vp a n A O m vl vs vi):∀ b,bH O vp b->b<H.n:=λb h=>h.elim (S.eX.lt b) λh=>by rw [h];exact S.vn
theorem VP.done {H:Heap} {dp vp a n:Nat} {A:AD} {O:Nat->Prop} {m:MT} {vl vs vi:V} (S:VP H dp vp a n A O m vl vs vi):tP H H dp vp O O m vl vs vi A m false:=⟨(ae.refl S.eX.wf).step,S.eX,S.vo,S.vn,vl,vs,vi,S.get,S.yX,λX _ h=>h⟩
theorem tP.before {H0 H H':Heap} {dp vp:Nat} {O O1 O':Nat->Prop} {A':AD} {m m':MT} {vl vs vi:V} {lost:Bool} (h:tP H H' dp vp O1 O' m vl vs vi A' m' lost) (s:Step H0 (bH O vp) H (bH O1 vp)):tP H0 H' dp vp O O' m vl vs vi A' m' lost:=
 let ⟨h1,h2,h3,h4,vl',vs',vi',h5,h6,h7⟩:=h
 ⟨s.trans h1,h2,h3,h4,vl',vs',vi',h5,h6,λX hX hM=>h7 X (λb hb=>YC (hX b hb) s.n) (hM.cD s.or)⟩
def Ln (pk:List UInt8->List (List UInt8)) (A:AD) (a:Nat) (m m':MT) (bw:List Wr):MT:=if (uM pk A a m' bw).2=0 then m' else m
def US (pk:List UInt8->List (List UInt8)) (A:AD) (a:Nat) (m':MT) (bw:List Wr):Bool:=(oq m').2 == 0 && (uM pk A a m' bw).2 == 6
section
variable {cp:RC->aq} {t:Nat->Option cW} {fuel:Nat} {H:Heap} {pk:List UInt8->List (List UInt8)} {unpk:List (List UInt8)->Option (List UInt8)}
theorem tT (T:aJ t) (hc:aY t) (F:cT pk unpk) (hp:t 123=some (.nat (fN pk))) {Hb} {dp vp a n bt c z} {A} {O} {m m'} {vl vs vi vb} {bw} {fs}
 (f0:ae Hb H) (S:VP Hb dp vp a n A O m vl vs vi) (Y':nE m') (hbw:∀ w ∈ bw,w.1<18446744073709551616/\w.2.1<1000000/\ur w.2) (hbl:bw.length<1000) (hbt:H.get bt = .cells fs) (hbn:bt<H.n) (hfl:fs.length<1000) (hf1:∀ f ∈ fs,f.one=true)
 (ht:∀ (G1 G:Heap) (vl1 vs1 vi1:V),ae H G->TS H G G1.n m vl1 vs1 vi1->∃ G' vl2 vs2 vi2,Ip cp t fuel G1.n bt fs G G'/\ae Hb G'/\G1.n<G'.n/\G'.get G1.n = .cells (aS m' vl2 vs2 vi2)/\jk G' (λb=>b<Hb.n) m' vl2 vs2 vi2/\Row G' (bH O vp) vb 2 bw.length (bZ bw)) (hfu:1000000<fuel):
 ∃ H' O',(∀ (d:Nat) (k:K),aj (aQ cp t fuel (d+8)) (.func 102 []) [.ptr vp 0,vb,.slice bt 0 fs.length c z] H k=k (.int 3 (uM pk A a m' bw).2) H')/\tP Hb H' dp vp O O' m vl vs vi (uM pk A a m' bw).1 (Ln pk A a m m' bw) (US pk A a m' bw):=by
 obtain ⟨H',O',z1,s,D,v1,v2,h⟩:=CC T hc F hp f0 S.eX S.off S.can S.lo S.hi S.get S.vn S.vo S.yX S.ok Y' hbw hbl hbt hbn hfl hf1 (λG1 G vl1 vs1 vi1 f1 o f g hn=>ht G1 G vl1 vs1 vi1 (f1.trans f) (TS.of f1 o f g hn)) hfu
 refine ⟨H',O',z1,s,D,v1,v2,?_⟩
 rcases h with ⟨h0,vl2,vs2,vi2,h1,h2,h3⟩|⟨h0,h1,h2,h3⟩
 .exact ⟨vl2,vs2,vi2,by unfold Ln US;simp_all,by unfold Ln;simp_all,λX hX _=>by unfold Ln;simp_all⟩
 .exact ⟨vl,vs,vi,by unfold Ln US;simp_all,by unfold Ln;simp_all,λX _ hM=>by unfold Ln;simp_all⟩
theorem qR:mg xG.b/\mg xG.t/\nn xG.next/\nn xG.all/\Kq xG.cz:=by
 have z:(0:Nat)<18446744073709551616:=by omega
 have z2:nn 0:=by unfold nn;omega
 exact ⟨⟨z,z⟩,⟨z,z⟩,z2,z2,⟨by show 0<100;omega,λp hp=>by cases hp⟩⟩
theorem nE.drop {m:MT} (h:nE m):nE {m with tok:=xG }:=⟨h.live,h.num,h.ah,qR⟩
end
end Go.Ev
end
section
namespace Go.Ev
section
variable {cp:RC->aq} {t:Nat->Option cW} {fuel:Nat} {H:Heap} {pk:List UInt8->List (List UInt8)} {unpk:List (List UInt8)->Option (List UInt8)}
end
end Go.Ev
end
section
namespace Go.Ev
theorem pD {m} {q} {s} (hs:m.ah[q]? = some s) (hq:m.ah.length=q+1):cg m=s:=by
 show m.ah.getLast?.getD _=_
 rw [List.getLast?_eq_getElem?,hq,YA3,hs]
 rfl
theorem pE {m} (h:m.ah.length=0):cg m=⟨(0,0),YZ m.live.length 0,false⟩:=by
 show m.ah.getLast?.getD _=_
 simp_all
theorem ON {m} (h:nE m):mg (cg m).g:=by
 rcases hm:m.ah.getLast? with _|s
 .have:cg m=⟨(0,0),YZ m.live.length 0,false⟩:=by unfold cg;simp_all
  rw [this]
  have z:(0:Nat)<18446744073709551616:=by omega
  exact ⟨z,z⟩
 .have:cg m=s:=by unfold cg;simp_all
  rw [this]
  exact (h.ah s (List.mem_of_getLast? hm)).1
def Rc (m:MT) (g:Gd):MT:={m with tok:=xG,ah:=m.ah ++ [⟨g,m.live,false⟩]}
section
variable {cp:RC->aq} {t:Nat->Option cW} {fuel:Nat} {H:Heap} {pk:List UInt8->List (List UInt8)} {unpk:List (List UInt8)->Option (List UInt8)}
theorem Kb (T:aJ t) {m:MT} {vl vs vi:V} {vp dp:Nat} {lost:Bool} {Q:Nat->Prop} (hw:H.wf) (hV:H.get vp = .cells (vc m vl vs vi dp lost)) (hVn:vp<H.n) (M:jk H Q m vl vs vi) (Y:nE m) (hQ:∀ b,Q b->b<H.n):
 ∃ H' x,(∀ (d:Nat) (k:K),aj (aQ cp t fuel (d+1)) (.func 110 []) [.ptr vp 0] H k=k (.agg (bU (cg m) x)) H')/\ae H H'/\dH H' Q x (cg m).cz:=by
 have l1:=Y.live.1
 have l2:=Y.num
 have hV':=hV
 simp only [vc,aS,bP,YP,YN]at hV'
 have sn:=λ{id} {f:Nat->R}=>(let ⟨_,h,_⟩:=M.ah;h.sn:bz id vs (λ_ _ len _ _=>f len) (f 0)=f m.ah.length)
 have sl:=λ{id} {f}=>M.live.sn (id:=id) (f:=f)
 have a1:=by omega
 have a2:nn m.ah.length:=by unfold nn;omega
 have a3:nn 0:=by unfold nn;omega
 have a4:m.live.length<9223372036854775808:=by omega
 obtain ⟨G1,hG1,f1,p1,n1⟩:=Heap.aP hw (.cells [.int 7 0,.int 7 0,.aw,.bool false])
 have g1:=(f1.same _ hVn).trans hV'
 have w1:=f1.wf
 have b1:H.n<G1.n:=by omega
 by_cases h0:m.ah.length=0
 .rw [pE h0]
  obtain ⟨G2,f2,o2,g2,n2,z2⟩:=wZ (n:=m.live.length) (x:=V.int 3 0) rfl w1 rfl (by omega) (YA _)
  obtain ⟨G3,hG3,f3,p3,n3,w3,k3⟩:=Heap.aU (f1.trans f2) (YA _) (by omega) (.cells [.int 7 0,.int 7 0,.slice G1.n 0 m.live.length (m.live.length+1) 0,.bool false])
  have p2:=(f2.same _ (by omega)).trans p1
  have w2:=f2.wf
  have b2:H.n<G2.n:=by omega
  have z2:=λ{id} {ph} {e} {k} (h1:aA xR e = .int 3 m.live.length)=>z2 (id:=id) (ph:=ph) (k:=k) h1
  have nz:=by omega
  refine ⟨G3,.slice G1.n 0 m.live.length (m.live.length+1) 0,λd k=>?_,f3,?_⟩
  .rw [aR T.k55 rfl rfl]
   simp only [go_sem,ZE,c55,hw,hG1,g1,↓sn,a1,a3,a4,h0,↓z2,p2,w2,b2,hG3,↓ev,p3,bU]
  .have:=o2.eL (v:=.slice H.n 0 0 0 0) (by omega) (λj hj ho=>k3 j (ho _ _ _ _ _ rfl)) λb o n c s e b' o' n' c' s' e'=>by cases e';cases e;omega
   have h:=this.toRow λb h=>by have:=hQ b h;omega
   unfold dH
   rw [Wj,YF0]
   exact h
 .obtain ⟨q,hq⟩:∃ q,m.ah.length=q+1:=⟨m.ah.length-1,by omega⟩
  have hlt:q<m.ah.length:=by omega
  obtain ⟨b,o,c,z,x,hvs,hbn,hbQ,hI,hrd⟩:=M.ah.open hlt
  have hsq:=YB hlt
  rw [pD hsq hq]
  generalize m.ah[q]=s at hI hrd
  have hrd:=λ{id} {k}=>hrd (f1.same _ hbn) (id:=id) (k:=k)
  obtain ⟨G2,hG2,f2,p2,n2,w2,k2⟩:=Heap.aU f1 (YA _) b1 (.cells (bU s x))
  have jx:=λ{id} {k}=>aG hI.one (id:=id) (k:=k)
  refine ⟨G2,x,λd k=>?_,f2,hI.fresh f2⟩
  have a5:nn q:=by unfold nn;omega
  have a6:q<9223372036854775808:=by omega
  have a7:(q+1+18446744073709551615)%18446744073709551616=q:=by omega
  have a8:q+1<9223372036854775808:=by omega
  have a9:0<q+1:=by omega
  have a10:q<q+1:=by omega
  have a11:nn (q+1):=by unfold nn;omega
  simp only [bU]at hrd hG2 p2 ⊢
  rw [hq]at sn hvs
  subst hvs
  rw [aR T.k55 rfl rfl]
  simp only [go_sem,c55,hw,hG1,g1,a3,a6,a7,a8,a9,a10,a11,↓hrd,↓jx,p1,w1,b1,hG2,↓ev,p2]
theorem K0 (T:aJ t) (hc:aY t) (F:cT pk unpk) (hp:t 123=some (.nat (fN pk))) {dp vp a n:Nat} {g:Gd} {A:AD} {O:Nat->Prop} {m:MT} {vl vs vi:V} (S:VP H dp vp a n A O m vl vs vi) (hg:mg g) (Y':nE (Rc m g)) (hfu:1000000<fuel):
 ∃ H' O',(∀ (d:Nat) (k:K),aj (aQ cp t fuel (d+9)) (.func 44 []) [.ptr vp 0,.agg (bu g)] H k=k (.int 3 (if bS g (cg m).g=false then 2 else if 20<=m.ah.length then 3 else (uM pk A a (Rc m g) []).2)) H')/\tP H H' dp vp O O' m vl vs vi (if bS g (cg m).g=false\/20<=m.ah.length then A else (uM pk A a (Rc m g) []).1) (if bS g (cg m).g=false\/20<=m.ah.length then m else Ln pk A a m (Rc m g) []) (if bS g (cg m).g=false\/20<=m.ah.length then false else US pk A a (Rc m g) []):=by
 have hn0:=S.ok.num
 obtain ⟨G0,hG0,f0,p0,n0⟩:=Heap.aP S.eX.wf (.cells (bu g))
 have S0:=S.fresh f0
 obtain ⟨G1,z1,s1,D1,n1,g1,k1⟩:=uE (cp:=cp) (fuel:=fuel) T hc S0.eX S0.get S0.vn S0.vo
 rw [S.off]at z1 g1
 have z1:=λ{d} {k}=>z1 (d+5) k
 have S1:VP G1 dp vp a n A O m vl vs vi:=⟨D1,S.off,S.can,S.lo,S.hi,g1,by rw [n1];exact S0.vn,S.vo,S0.yX.cD s1,S.ok⟩
 have hne:H.n≠vp:=by have:=S.vn;omega
 have p1:=(k1 _ hne).trans p0
 have s01:=f0.step.trans s1
 have w0:=S.eX.wf
 have wm:G1.mark.wf:=by exact D1.wf
 obtain ⟨Gm',x,zl',fl',-⟩:=Kb T wm g1 S1.vn (S1.yX.fresh (ae.DF D1.wf)) S.ok S1.lt
 obtain ⟨Gm,G2,zl,hu2,hl2,f2⟩:=pT (cp:=cp) (fuel:=fuel) ⟨Gm',zl',fl'⟩
 obtain ⟨G3,za,f3⟩:=Fm (cp:=cp) (fuel:=fuel) T f2.wf hg (ON S.ok)
 have zl:=λ{d} {k}=>zl d k
 have za:=λ{d} {k}=>za d k
 have f13:=f2.trans f3
 have S3:=S1.fresh f13
 have p3:=(f13.same _ (by omega)).trans p1
 have g3':=S3.get
 simp only [vc,aS,bP,YP,YN]at g3'
 have sn:=λ{id} {f:Nat->R}=>(let ⟨_,h,_⟩:=S1.yX.ah;h.sn:bz id vs (λ_ _ len _ _=>f len) (f 0)=f m.ah.length)
 have a1:m.ah.length<9223372036854775808:=by omega
 have a2:nn m.ah.length:=by unfold nn;omega
 have a3:nn 20:=by unfold nn;omega
 have p1':=p1
 simp only [bu]at p1' za
 have s13:=s01.trans f13.step
 simp only [bU]at zl
 simp only [bu]at hG0
 rcases hab:bS g (cg m).g with _|_
 .rw [hab]at za
  refine ⟨G3,O,λd k=>?_,S3.done.before s13⟩
  rw [aR T.k22 rfl rfl]
  simp only [go_sem,c22,bu,w0,hG0,↓z1,p1',↓zl,hu2,hl2,↓za,YU,or_self,YB2]
 .rw [hab]at za
  by_cases h20:20<=m.ah.length
  .simp only [QQ,if_false,h20,or_true,if_true]
   refine ⟨G3,O,λd k=>?_,S3.done.before s13⟩
   rw [aR T.k22 rfl rfl]
   simp only [go_sem,c22,bu,w0,hG0,↓z1,p1',↓zl,hu2,hl2,↓za,g3',↓sn,a1,a2,a3,h20,YU,or_self,Wq]
  .simp only [QQ,if_false,h20,or_self]
   obtain ⟨G4,hG4,f4,p4,n4⟩:=Heap.aP f3.wf (.cells [.func 112 [],.func 114 [.ptr H.n 0]])
   have m3:=f3.n
   have m2:=f2.n
   have p34:=(f4.same _ (by omega)).trans p3
   obtain ⟨H',O',z3,hd⟩:=tT (bw:=[]) T hc F hp f4 S3 Y' (λw h=>by cases h) (by decide) p4 (by omega) (by show 2<1000;omega) (λf hf=>by rcases YT.1 hf with rfl|hf;rfl;rw [YO.1 hf];rfl) (λB G vl1 vs1 vi1 fG ts=>by
    obtain ⟨G',zt,ts',kt⟩:=BS T ts
    have hlo:=ts.lo
    have hQ:∀ b,b<G3.n->b<G4.n:=λb h=>YC h f4.n
    have mt:=ts'.f.n
    obtain ⟨G'',vs2,zr,fr,hr,pr,mr,kr⟩:=K1 (cp:=cp) T ts' S.ok.drop ((kt _ (by omega)).trans ((fG.same _ (by omega)).trans p34)) (by omega) (by omega) hQ
    exact ⟨G'',vl1,vs2,.aw,⟨G',λd k=>zt (d+4) k,kt _ (by omega),G'',λd k=>zr (d+3) k,kr _ (by omega),rfl⟩,f4.trans fr,hr,pr,mr,rfl,λx hx=>(by cases hx),YG ⟨YG rfl,rfl⟩⟩) hfu
   have z3:∀ {d} {k},aj (aQ cp t fuel (d+8)) (.func 102 []) [.ptr vp 0,.aw,.slice G3.n 0 2 3 0] G4 k=k (.int 3 (uM pk A a (Rc m g) []).2) H':=λ{d k}=>z3 d k
   refine ⟨H',O',λd k=>?_,hd.before s13⟩
   have w3:=f3.wf
   rw [aR T.k22 rfl rfl]
   simp only [go_sem,c22,bu,w0,hG0,↓z1,p1',↓zl,hu2,hl2,↓za,g3',↓sn,a1,a2,a3,h20,w3,hG4,↓z3,YU,or_self,Wq]
end
end Go.Ev
end
section
namespace Go.Ev
open Go.Proofs
theorem Dc {cs} {x} (h:x ∈ dv cs):x<cs.length:=List.mem_range.1 (List.mem_filter.1 h).1
def iB (m:MT) (n:Nat) (cs:List Wr):List Nat:=(dv (gz m n)).take (fA cs cs.length)
theorem IX {m} {n i} {cs} (hn:n<=1024):(iB m n cs).getD i 0<1024:=by
 rw [YJ]
 rcases h:(iB m n cs)[i]? with _|x
 .simp
 .have h1:=Dc (WW (Yi h))
  rw [gz,dP]at h1
  show x<1024
  omega
theorem O7 {cs} {m} {n} (hn:n<=1024) (hc:∀ c ∈ cs,c.2.1<1000000/\ur c.2):∀ i,i<=cs.length->∀ w ∈ DW cs (iB m n cs) i,w.1<18446744073709551616/\w.2.1<1000000/\ur w.2
 | 0,_,w,h=>by cases h
 | i+1,hi,w,h=>by
  rcases Yt.1 h with h|h
  .exact O7 hn hc i (by omega) w h
  .split at h
   .cases h
   .rw [YO.1 h]
    have hl:=IX (m:=m) (i:=fA cs i) (cs:=cs) hn
    have hm:cs.getD i (0,(32,0)) ∈ cs:=by
     rw [YJ,YB (show i<cs.length by omega)]
     simp
    exact ⟨by omega,hc (cs.getD i (0,(32,0))) hm⟩
def Ll (m:MT) (n block:Nat) (d:Tx):MT:={m with live:=m.live.set block ((Bn [(block,d)] (iB m n [(block,d)]) 1).getD 0 0)}
def Lp (m:MT) (n block:Nat) (d:Tx):List Wr:=DW [(block,d)] (iB m n [(block,d)]) 1
def lG (m:MT) (n block:Nat) (d:Tx):Prop:=(dv (gz m n)).length<fA [(block,d)] 1
instance (m:MT) (n block:Nat) (d:Tx):Decidable (lG m n block d):=inferInstanceAs (Decidable (_<_))
section
variable {t:Nat->Option cW} {fuel:Nat} {H:Heap} {pk:List UInt8->List (List UInt8)} {unpk:List (List UInt8)->Option (List UInt8)}
set_option maxRecDepth 4000 in
theorem EP (T:aJ t) (hc:aY t) (F:cT pk unpk) (hp:t 123=some (.nat (fN pk))) {dp vp a n block:Nat} {data:List UInt8} {A:AD} {O:Nat->Prop} {m:MT} {vl vs vi:V} (S:VP H dp vp a n A O m vl vs vi) (hbk:block<18446744073709551616) (hdl:data.length<1000000)
 (hok:∀ l ∈ dY m,∀ a ∈ l,a≠0->193<=a/\a<A.len) (hfl:(dY m).flatten.length<1000000) (Y':rP m block data=true->nE (Ll m A.len block (tx data))) (hfu:1000000<fuel):
 ∃ H' O',(∀ (d:Nat) (k:K),aj (aQ (aZ Tryz.prog) t fuel (d+9)) (.func 40 []) [.ptr vp 0,.int 3 block,tv data] H k=k (.int 3 (if rP m block data=false then 2 else if lG m A.len block (tx data) then 7 else (uM pk A a (Ll m A.len block (tx data)) (Lp m A.len block (tx data))).2)) H')/\
  tP H H' dp vp O O' m vl vs vi (if rP m block data=false\/lG m A.len block (tx data) then A else (uM pk A a (Ll m A.len block (tx data)) (Lp m A.len block (tx data))).1) (if rP m block data=false\/lG m A.len block (tx data) then m else Ln pk A a m (Ll m A.len block (tx data)) (Lp m A.len block (tx data))) (if rP m block data=false\/lG m A.len block (tx data) then false else US pk A a (Ll m A.len block (tx data)) (Lp m A.len block (tx data))):=by
 have hn0:=S.ok.num
 have hl0:=S.ok.live.1
 obtain ⟨G0,hG0,f0,p0,n0⟩:=Heap.aP S.eX.wf (.cells [.int 3 block])
 have S0:=S.fresh f0
 obtain ⟨G1,z1,s1,D1,n1,g1,k1⟩:=uE (cp:=aZ Tryz.prog) (fuel:=fuel) T hc S0.eX S0.get S0.vn S0.vo
 rw [S.off]at z1 g1
 have z1:=λ{d} {k}=>z1 (d+5) k
 have S1:VP G1 dp vp a n A O m vl vs vi:=⟨D1,S.off,S.can,S.lo,S.hi,g1,by rw [n1];exact S0.vn,S.vo,S0.yX.cD s1,S.ok⟩
 have hne:H.n≠vp:=by have:=S.vn;omega
 have p1:=(k1 _ hne).trans p0
 have s01:=f0.step.trans s1
 have w0:=S.eX.wf
 have w1:=D1.wf
 have zm:=λ{d} {k}=>Li (cp:=aZ Tryz.prog) (fuel:=fuel) T g1 S1.yX (by omega) hbk hdl d k
 have hmb:(decide (block<9223372036854775808) && rP m block data)=rP m block data:=by
  unfold rP
  by_cases h:block<m.live.length
  .rw [decide_eq_true (show block<9223372036854775808 by omega),Bool.true_and]
  .rw [decide_eq_false h,QO,Qn]
 rw [hmb]at zm
 simp only [tv]at zm
 rcases hmay:rP m block data with _|_
 .rw [hmay]at zm
  simp only [if_true,true_or]
  refine ⟨G1,O,λd k=>?_,S1.done.before s01⟩
  simp only [tv]
  rw [aR T.k20 rfl rfl]
  simp only [go_sem,c20,w0,hG0,↓z1,p1,↓zm,YU,or_self,YB2]
 .rw [hmay]at zm
  simp only [QQ,if_false,false_or]
  have hblk:=by
   unfold rP at hmay
   rw [Bool.and_eq_true,decide_eq_true_eq]at hmay
   exact hmay.1
  obtain ⟨G2,hG2,f2,p2,n2⟩:=Heap.aP w1 (.cells [.int 3 block,.str data.length (enc data)])
  have S2:=S1.fresh f2
  have hX:Row G2 (bH O vp) (.slice G1.n 0 1 2 0) 2 1 (bZ [(block,tx data)]):=⟨rfl,(λx hx=>by rcases YT.1 hx with rfl|hx;rfl;rw [YO.1 hx];rfl),YE ⟨_,0,2,0,_,rfl,YG p2,by omega,λh=>by have:=S1.lt _ h;omega,by show 0+1*2<=2;omega,rfl⟩⟩
  obtain ⟨G3,va,vw,z3,f3,hva,hvw,h3⟩:=Hf T hc S2.eX S2.get S2.vn S2.yX S.ok hX (by show 1<1000;omega) S.hi hok S2.lt hfl hfu
  have z3:=λ{d} {k}=>z3 (d+3) k
  obtain ⟨G4,hG4,f4,p4,n4⟩:=Heap.aP f3.wf (.cells [.aw])
  obtain ⟨G5,hG5,f5,p5,n5,w5,k5⟩:=Heap.aU f4 (YA _) (by omega) (.cells [va])
  have S5:=(S2.fresh f3).fresh f5
  have s15:=s01.trans ((f2.trans f3).trans f5).step
  have ja:=λ{id} {k}=>aG hva (id:=id) (k:=k)
  have jw:=λ{id} {k}=>aG hvw (id:=id) (k:=k)
  have w3:=f3.wf
  have w4:=f4.wf
  have b4:G3.n<G4.n:=by omega
  have m3:=f3.n
  have p15:=((f2.trans f3).trans f5).same _ (by omega) |>.trans p1
  by_cases hfull:lG m A.len block (tx data)
  .simp only [if_pos hfull]
   rw [show (if (dv (gz m A.len)).length<fA [(block,tx data)] [(block,tx data)].length then 7 else 0)=7 from if_pos hfull]at z3
   refine ⟨G5,O,λd k=>?_,S5.done.before s15⟩
   simp only [tv]
   rw [aR T.k20 rfl rfl]
   simp only [go_sem,c20,w0,hG0,↓z1,p1,↓zm,YU,or_self,Wq,w1,hG2,↓z3,w3,hG4,p4,↓ja,w4,b4,hG5]
  .simp only [if_neg hfull]
   rw [show (if (dv (gz m A.len)).length<fA [(block,tx data)] [(block,tx data)].length then 7 else 0)=0 from if_neg hfull]at z3
   obtain ⟨oa,ow⟩:=h3 hfull
   obtain ⟨G6,hG6,f6,p6,n6⟩:=Heap.aP w5 (.cells [.func 104 [.ptr H.n 0,.ptr G3.n 0]])
   have hQ5:=λb h=>S2.lt b h
   have hwl:fA [(block,tx data)] 1<=1:=qH _ _
   have hplw:(Lp m A.len block (tx data)).length=fA [(block,tx data)] 1:=Bp _ _ _
   have ra:Row G5 (bH O vp) va 1 1 ((Bn [(block,tx data)] (iB m A.len [(block,tx data)]) 1).map (V.int 3)):=(oa.toRow hQ5).fresh f5
   have rw_:Row G5 (bH O vp) vw 2 (Lp m A.len block (tx data)).length (bZ (Lp m A.len block (tx data))):=by rw [hplw];exact (ow.toRow hQ5).fresh f5
   have hpl1:(Bn [(block,tx data)] (iB m A.len [(block,tx data)]) 1).length=1:=rQ _ _ _
   obtain ⟨p,hpp⟩:∃ p,Bn [(block,tx data)] (iB m A.len [(block,tx data)]) 1=[p]:=List.length_eq_one_iff.1 hpl1
   have hpn:nn p:=by
    have:(Bn [(block,tx data)] (iB m A.len [(block,tx data)]) 1).getD 0 0<1024:=by
     show (if _ then 0 else _)<1024
     split
     .omega
     .exact IX S.hi
    rw [hpp]at this
    have:p<1024:=this
    unfold nn;omega
   have hwrm:Ll m A.len block (tx data)={m with live:=m.live.set block p }:=by unfold Ll;rw [hpp];rfl
   have Yw:=Y' hmay
   have p36:=(f6.same _ (by omega)).trans p5
   have p16:=(f6.same _ (by omega)).trans p15
   have hbw:=O7 (cs:=[(block,tx data)]) (m:=m) S.hi (λc hc=>by rw [YO.1 hc];exact ⟨hdl,iw _⟩) 1 (YA 1)
   obtain ⟨H',O',z7,hd⟩:=tT (bw:=Lp m A.len block (tx data)) T hc F hp f6 S5 Yw hbw (by omega) p6 (by omega) (by show 1<1000;omega) (λf hf=>by rw [YO.1 hf];rfl) (λB G vl1 vs1 vi1 fG ts=>by
    have hlo:=ts.lo
    have mG:=fG.n
    have hQ:∀ b,b<G5.n->b<G6.n:=λb h=>YC h f6.n
    obtain ⟨G',vl2,zw,fw,hw',pw,mw,kw⟩:=Il (cp:=aZ Tryz.prog) T ts S.ok ((fG.same _ (by omega)).trans p16) ((fG.same _ (by omega)).trans p36) (by have:=((ra.fresh f6).fresh fG);rw [hpp]at this;exact this) rfl hpn hblk hQ
    rw [hwrm]
    have hf:=f6.trans fw
    refine ⟨G',vl2,vs1,vi1,⟨G',λd k=>zw (d+2) k,kw _ (by omega) (by omega),rfl⟩,hf,hw',pw,mw,rw_.fresh hf⟩) hfu
   have z7:∀ {d} {k},aj (aQ (aZ Tryz.prog) t fuel (d+8)) (.func 102 []) [.ptr vp 0,vw,.slice G5.n 0 1 2 0] G6 k=k (.int 3 (uM pk A a (Ll m A.len block (tx data)) (Lp m A.len block (tx data))).2) H':=λ{d k}=>z7 d k
   refine ⟨H',O',λd k=>?_,hd.before s15⟩
   simp only [tv]
   rw [aR T.k20 rfl rfl]
   simp only [go_sem,c20,w0,hG0,↓z1,p1,↓zm,YU,or_self,Wq,w1,hG2,↓z3,w3,hG4,p4,↓ja,w4,b4,hG5,w5,hG6,↓z7]
end
end Go.Ev
end
section
namespace Go.Ev
section
variable {cp:RC->aq} {t:Nat->Option cW} {fuel:Nat} {H:Heap}
end
end Go.Ev
end
section
namespace Go.Ev
section
variable {cp:RC->aq} {t:Nat->Option cW} {fuel:Nat} {H:Heap} {O:Nat->Prop}
end
end Go.Ev
end
section
namespace Go.Ev
theorem Row.cell {H:Heap} {O:Nat->Prop} {v:V} {sz n:Nat} {row:List V} (h:Row H O v sz n row) (hn:0<n):∃ b o c s,v = .slice b o n c s/\b<H.n/\¬ O b/\∀ {G:Heap},G.get b=H.get b->∀ {j:Nat} {x:V},row[j]? = some x->∀ {id:Nat} {k:V->R},KM id (G.get b) (o+j) k=k x:=by
 obtain ⟨h1,h2,h|⟨b,o,c,z,l,g1,g2,g3,g4,g5,g6⟩⟩:=h
 .omega
 refine ⟨b,o,c,z,g1,g3,g4,λ{G} hG {j x} hx {id k}=>?_⟩
 have hlt:j<n*sz:=by rw [<- h1];exact (Ya.1 hx).1
 have hx':=hx
 rw [<- g6,WD,if_pos hlt,WE]at hx
 rw [hG]
 exact Pg g2 hx (h2 x (Yi hx'))
section
variable {cp:RC->aq} {t:Nat->Option cW} {fuel:Nat} {H:Heap}
end
end Go.Ev
end
section
namespace Go.Ev
section
variable {cp:RC->aq} {t:Nat->Option cW} {fuel:Nat} {H:Heap} {pk:List UInt8->List (List UInt8)} {unpk:List (List UInt8)->Option (List UInt8)}
end
end Go.Ev
end
section
namespace Go.Ev
structure qm (cs:List Wr) (b:Nat):Prop where
 lt:∀ c ∈ cs,c.1<b/\c.2.1=32/\ur c.2
 up:∀ i,i+1<cs.length->(cs.getD i (0,(0,0))).1<(cs.getD (i+1) (0,(0,0))).1
def xi (cs:List Wr):Nat->Nat
 | 0=>18446744073709551615
 | i+1=>(cs.getD i (0,(0,0))).1
section
variable {cp:RC->aq} {t:Nat->Option cW} {fuel:Nat} {H:Heap} {O:Nat->Prop}
end
end Go.Ev
end
section
namespace Go.Ev
section
variable {cp:RC->aq} {t:Nat->Option cW} {fuel:Nat} {H:Heap}
end
end Go.Ev
end
section
namespace Go.Ev
theorem eqG {id} {g h:Gd} {f}:lq id [1,1] [.int 7 g.1,.int 7 g.2] [.int 7 h.1,.int 7 h.2] f=f (decide (g=h)):=by
 obtain ⟨g1,g2⟩:=g
 obtain ⟨h1,h2⟩:=h
 by_cases e1:g1=h1
 .by_cases e2:g2=h2
  .subst e1 e2
   simp only [cI,dS,if_true,decide_true]
  .have hne:¬ ((g1,g2):Gd)=(h1,h2):=λh=>e2 (congrArg YO4 h)
   simp only [cI,dS,e1,e2,if_true,if_false]
   simp_all
 .have hne:¬ ((g1,g2):Gd)=(h1,h2):=λh=>e1 (congrArg YO3 h)
  simp only [cI,dS,e1,if_false,hne,decide_false]
theorem St {g h:Gd} (e:g=h) {id} {f}:lq id [1,1] [.int 7 g.1,.int 7 g.2] [.int 7 h.1,.int 7 h.2] f=f true:=by rw [eqG,decide_eq_true e]
theorem aen {g h:Gd} (e:¬ g=h) {id} {f}:lq id [1,1] [.int 7 g.1,.int 7 g.2] [.int 7 h.1,.int 7 h.2] f=f false:=by rw [eqG,decide_eq_false e]
def ic (l:List Nat) (cs:List Wr) (at_:List Nat):Nat->List Nat
 | 0=>l
 | i+1=>(ic l cs at_ i).set (cs.getD i (0,(0,0))).1 (at_.getD i 0)
theorem zH {l} {cs} {at_}:∀ i,(ic l cs at_ i).length=l.length
 | 0=>rfl
 | i+1=>by simp only [ic,YD4,zH i]
section
variable {cp:RC->aq} {t:Nat->Option cW} {fuel:Nat} {H:Heap}
end
end Go.Ev
end
section
namespace Go.Ev
open Go.Proofs
theorem N0 {m} {n} {cs} (hn:n<=1024):∀ p ∈ iB m n cs,p<1024:=λp hp=>by
 have h:=Dc (WW hp)
 unfold gz at h
 rw [dP]at h
 omega
theorem O0 {cs} {fr} (h:∀ p ∈ fr,p<1024):∀ i,∀ p ∈ Bn cs fr i,p<1024
 | 0,p,hp=>by cases hp
 | i+1,p,hp=>by
  rcases Yt.1 hp with hp|hp
  .exact O0 h i p hp
  .rw [YO.1 hp]
   split
   .omega
   .rw [YJ]
    rcases hx:fr[fA cs i]? with _|x
    .simp
    .exact h x (Yi hx)
section
variable {cp:RC->aq} {t:Nat->Option cW} {fuel:Nat} {H:Heap}
theorem Ih (T:aJ t) (hc:aY t) {dp vp a n} {A} {O} {m} {vl vs vi} (S:VP H dp vp a n A O m vl vs vi):
 (∀ (d) (k),aj (aQ cp t fuel (d+3)) (.func 96 []) [.ptr vp 0] H k=k (.int 3 0) (H.put vp (.cells (vc m vl vs vi dp false))))/\VP (H.put vp (.cells (vc m vl vs vi dp false))) dp vp a n A O m vl vs vi/\Step H (bH O vp) (H.put vp (.cells (vc m vl vs vi dp false))) (bH O vp):=by
 have hw:=S.eX.wf
 have hVn:=S.vn
 have hV:=S.get
 have s1:Step H (bH O vp) (H.put vp (.cells (vc m vl vs vi dp false))) (bH O vp):=Step.kW hw hVn (YE rfl)
 have D1:=(S.eX.cD (Q:=λb=>b=vp) (Step.kW (x:=.cells (vc m vl vs vi dp false)) hw hVn rfl) λb hb e=>S.vo (by simp_all)).1
 have hon:=λ{d} {k}=>GP (cp:=cp) (fuel:=fuel) (T.iP hc) (d:=d) (k:=k) S.eX
 rw [S.off]at hon
 have g1:(H.put vp (.cells (vc m vl vs vi dp false))).get vp = .cells (vc m vl vs vi dp false):=by rw [Heap.aF hw hVn,if_pos rfl]
 refine ⟨λd k=>?_,⟨D1,S.off,S.can,S.lo,S.hi,g1,by rw [Heap.aT];omega,S.vo,S.yX.cD s1,S.ok⟩,s1⟩
 generalize hG:H.put vp (.cells (vc m vl vs vi dp false))=G at g1
 simp only [vc,aS,bP,YP,YN]at hV hG g1
 rw [aR T.k48 rfl rfl]
 simp only [go_sem,RR,hV,hw,hVn,↓hon,hG,g1]
end
section
variable {t:Nat->Option cW} {fuel:Nat} {H:Heap} {pk:List UInt8->List (List UInt8)} {unpk:List (List UInt8)->Option (List UInt8)}
end
end Go.Ev
end
section
namespace Go.Ev
def fI (l:List Gd):List V:=l.flatMap bu
theorem yA:∀ l:List Gd,(fI l).length=l.length*2
 | []=>rfl
 | g :: l=>by
  show (bu g ++ fI l).length=_
  rw [YD,yA l,YF,Wp]
  simp only [bu,YF,YM];omega
theorem AK (a b):fI (a ++ b)=fI a ++ fI b:=List.flatMap_append
theorem NK (g):∀ y ∈ bu g,y.one=true:=λy hy=>by
 rcases YT.1 hy with rfl|hy
 .rfl
 .rw [YO.1 hy];rfl
section
variable {cp:RC->aq} {t:Nat->Option cW} {fuel:Nat} {H:Heap} {O:Nat->Prop}
theorem Kf (T:aJ t) {vs:V} {ss:List Sn} (hw:H.wf) (hS:gm H O vs ss) (hn:ss.length<1000) (hfu:1000<fuel):
 ∃ G' v',ae H G'/\Own H G' v' 2 ss.length (fI (ss.map (·.g)))/\∀ (d:Nat) (kx:Nat->KE) (e:Env) (x:R),aa s003 e = .aw->aa s014 e=vs->aa s015 e = .int 3 ss.length->aa s016 e = .int 3 0->
  (∀ e',aa s003 e'=v'->kx 1 e' G'=x)->lr MS fuel (aQ cp t fuel d) kx fuel e H=x:=by
 have nl:nn ss.length:=by unfold nn;omega
 obtain ⟨v',G',⟨f',o'⟩,z⟩:=bV (c:=MS)
  (I:=λi v G=>ae H G/\Own H G v 2 i (fI ((ss.take i).map (·.g))))
  (S:=λi v e=>aa s003 e=v/\aa s014 e=vs/\aa s015 e = .int 3 ss.length/\aa s016 e = .int 3 i) (λi v G hil ⟨f,o⟩=>by
   obtain ⟨b,ob,c,z,y,rfl,hbn,-,hy,hrd⟩:=hS.open hil
   have htk:ss.take (i+1)=ss.take i ++ [ss[i]]:=by rw [List.take_add_one,YB hil];rfl
   have hrd:=λ{id} {k}=>hrd (f.same _ hbn) (id:=id) (k:=k)
   generalize ss[i]=s at htk hy hrd
   have w0:=f.wf
   obtain ⟨G1,hG1,f1,p1,n1⟩:=Heap.aP w0 (.cells [.int 7 0,.int 7 0,.aw,.bool false])
   obtain ⟨G2,hG2,f2,p2,n2,w2,k2⟩:=Heap.aU f1 (YA _) (by omega) (.cells (bU s y))
   obtain ⟨G3,hG3,f3,p3,n3⟩:=Heap.aP w2 (.cells (bu s.g))
   have f03:=(f.trans f2).trans f3
   obtain ⟨v',G4,hap,o4,f4,-⟩:=Own.app (w:=v) (x:=.slice G2.n 0 1 2 0) f03 ((o.fresh f2).fresh f3) (λ{id f}=>jZ p3 rfl) rfl (NK _) (by omega)
   have i1:=λ{id} {k}=>aG hy.one (id:=id) (k:=k)
   have w1:=f1.wf
   have a1:nn i:=by unfold nn;omega
   have a2:i<9223372036854775808:=by omega
   have a3:(i+1)%18446744073709551616=i+1:=by omega
   have a4:G.n<G1.n:=by omega
   refine ⟨v',G4,⟨f4,by rw [htk,WB,AK];simpa [fI] using o4⟩,λd kx r e x ⟨q3,q14,q15,q16⟩ hk=>?_⟩
   simp only [bU]at hG2 p2 hrd
   simp only [bu]at hG3
   rw [ax]
   simp only [go_sem,MS,q3,q14,q15,q16,hil,nl,a1,a2,a3,a4,↓hrd,w0,hG1,p1,w1,hG2,p2,↓i1,w2,hG3,↓hap]
   refine hk _ ?_
   simp only [go_sem,q14,q15,and_self]) ss.length 0 .aw H (by omega) ⟨ae.refl hw,Own.nil⟩
 rw [Wf]at o'
 refine ⟨G',v',f',o',λd kx e x q3 q14 q15 q16 hk=>z d kx fuel e x (by omega) ⟨q3,q14,q15,q16⟩ λr e' ⟨q3,q14,q15,q16⟩=>?_⟩
 have e6:¬ ss.length<ss.length:=by omega
 rw [ax]
 simp only [go_sem,MS,q15,q16,nl,e6]
 exact hk _ q3
theorem kE (T:aJ t) {dp vp a n} {A} {m} {vl vs vi} (S:VP H dp vp a n A O m vl vs vi) (hfu:1000<fuel):
 ∃ H' v',(∀ (d) (k),aj (aQ cp t fuel (d+1)) (.func 16 []) [.ptr vp 0] H k=k v' H')/\ae H H'/\Own H H' v' 2 m.ah.length (fI (m.ah.map (·.g))):=by
 obtain ⟨G',v',f',o',z⟩:=Kf T S.eX.wf S.yX.ah S.ok.num hfu
 have g:=S.get
 simp only [vc,aS,bP,YP,YN]at g
 have sn:=λ{id} {f:Nat->R}=>(let ⟨_,h,_⟩:=S.yX.ah;h.sn:bz id vs (λ_ _ len _ _=>f len) (f 0)=f m.ah.length)
 have a1:m.ah.length<9223372036854775808:=by have:=S.ok.num;omega
 refine ⟨G',v',λd k=>?_,f',o'⟩
 rw [aR T.k8 rfl rfl]
 simp only [go_sem,c8,g,↓sn,a1]
 refine z d _ _ _ ?_ ?_ ?_ ?_ λe' q3=>?_
 .rfl
 .rfl
 .rfl
 .rfl
 simp_all
set_option maxRecDepth 4000 in
theorem uF (T:aJ t) {dp vp a n} {A} {m} {vl vs vi} (S:VP H dp vp a n A O m vl vs vi):
 ∃ H' x,(∀ (d) (k),aj (aQ cp t fuel (d+2)) (.func 24 []) [.ptr vp 0] H k=k (.agg (bP m.tok x)) H')/\ae H H'/\Own H H' x 1 m.tok.cz.length (m.tok.cz.map (V.int 3)):=by
 have g:=S.get
 simp only [vc,aS,bP,YP,YN]at g
 have w:=S.eX.wf
 have i1:=λ{id} {k}=>aG S.yX.cz.one (id:=id) (k:=k)
 obtain ⟨G1,hG1,f1,p1,n1⟩:=Heap.aP w (.cells [.int 7 0,.int 7 0,.int 7 0,.int 7 0,.int 3 0,.int 3 0,.aw])
 have w1:=f1.wf
 have g1:=(f1.same _ S.vn).trans g
 obtain ⟨G2,hG2,f2,p2,n2⟩:=Heap.jr n1 w1 (.cells [.int 7 0,.int 7 0,.int 7 0,.int 7 0,.int 3 0,.int 3 0,.aw])
 have w2:=f2.wf
 have b2:H.n+1<G2.n:=by omega
 obtain ⟨G3,hG3,f3,p3,n3,w3,k3⟩:=Heap.aU f2 (by omega) b2 (.cells (bP m.tok vi))
 have f03:=f1.trans f3
 obtain ⟨G4,x,z4,f4,o4⟩:=eW (cp:=cp) (fuel:=fuel) T w3 ((S.fresh f03).yX.cz) (by have:=S.ok.tok.2.2.2.2.1;omega)
 have z4:=λ{d} {k}=>z4 d k
 have i2:=λ{id} {k}=>aG o4.one (id:=id) (k:=k)
 have w4:=f4.wf
 have p4:=(f4.same _ (by omega)).trans p3
 have b4:H.n+1<G4.n:=by have:=f4.n;omega
 obtain ⟨G5,hG5,f5,p5,n5,w5,k5⟩:=Heap.aU (f3.trans f4) (by omega) b4 (.cells (bP m.tok x))
 have q5:G5.get H.n = .cells [.int 7 0,.int 7 0,.int 7 0,.int 7 0,.int 3 0,.int 3 0,.aw]:=by rw [k5 _ (by omega),f4.same _ (by omega),k3 _ (by omega),f2.same _ (by omega)];omega
 have b5:H.n<G5.n:=by omega
 have f05:=f1.trans f5
 obtain ⟨G6,hG6,f6,p6,n6,w6,k6⟩:=Heap.aU f05 (YA _) b5 (.cells (bP m.tok x))
 have oo:Own H G6 x 1 m.tok.cz.length (m.tok.cz.map (V.int 3)):=by
  rw [<- hG6]
  refine (Own.qJ ?_ w5 b5 (o4.off (by omega))).sub (by have:=f03.n;omega)
  rw [<- hG5]
  exact o4.qJ w4 b4 (o4.off (by omega))
 refine ⟨G6,x,λd k=>?_,f6,oo⟩
 simp only [bP]at hG3 p3 p4 hG5 p5 hG6 p6 ⊢
 rw [aR T.k12 rfl rfl]
 simp only [go_sem,c12,w,hG1,n1,g1,w1,hG2,p2,b2,w2,↓i1,hG3,p3,↓z4,p4,b4,w4,↓i2,hG5,p5,w5,b5,q5,hG6,↓ev,p6]
theorem gm.cz {v:V} {ss:List Sn} (h:gm H O v ss) {i:Nat} (hi:i<ss.length):∃ b o c s x,v = .slice b o ss.length c s/\b<H.n/\¬ O b/\dH H O x ss[i].cz/\∀ {G:Heap},G.get b=H.get b->∀ {id:Nat} {k:V->R},KM id (G.get b) (o+i*4+2) k=k x:=by
 obtain ⟨xs,hR,hl,hx⟩:=h
 obtain ⟨x,hxi,hI⟩:=hx i _ (YB hi)
 obtain ⟨b,o,c,z,g1,g2,g3,g4⟩:=hR.cell (by omega)
 refine ⟨b,o,c,z,x,g1,g2,g3,hI,λ{G} hG {id k}=>?_⟩
 have e:=vh (YB hi) hxi
 have e2:(((dR ss xs).drop (i*4)).take 4)[2]? = some x:=by rw [e];rfl
 rw [WD,if_pos (by omega),WE]at e2
 rw [Nat.add_assoc]
 exact g4 hG e2
end
end Go.Ev
end
section
namespace Go.Ev
def t0:Tx:=(0,0)
def lN (a b:List Tx):Nat->List Wr
 | 0=>[]
 | i+1=>lN a b i ++ (if a.getD i t0=b.getD i t0 then [] else [(i,b.getD i t0)])
def Ra (a b:List Tx):List Wr:=lN a b b.length
theorem pq (a b):∀ i,(lN a b i).length<=i
 | 0=>YA _
 | i+1=>by
  have:=pq a b i
  simp only [lN,YD]
  split<;>simp<;>omega
abbrev T5 (H:Heap) (O:Nat->Prop) (v:V) (l:List Tx):Prop:=Row H O v 1 l.length (l.map sv)
theorem T5.open {H:Heap} {O:Nat->Prop} {v:V} {l:List Tx} (h:T5 H O v l) {i:Nat} (hi:i<l.length):∃ b o c s,v = .slice b o l.length c s/\b<H.n/\¬ O b/\∀ {G:Heap},G.get b=H.get b->∀ {id:Nat} {k:V->R},KM id (G.get b) (o+i) k=k (sv l[i]):=by
 obtain ⟨b,o,c,z,h1,h2,h3,h4⟩:=Row.open h hi
 refine ⟨b,o,c,z,h1,h2,h3,λ{G} hG {id k}=>?_⟩
 have:=(h4 hG).2 (x:=sv l[i]) (by simp [hi]) (id:=id) (k:=k)
 rw [WN]at this
 exact this
theorem Vg {x y:Tx}:(x.1=y.1/\x.2=y.2)=(x=y):=by
 obtain ⟨a,b⟩:=x
 obtain ⟨c,d⟩:=y
 simp
section
variable {cp:RC->aq} {t:Nat->Option cW} {fuel:Nat} {H:Heap} {O:Nat->Prop}
theorem Lh (T:aJ t) {va vb:V} {a b:List Tx} (hw:H.wf) (hA:T5 H O va a) (hB:T5 H O vb b) (hab:a.length=b.length) (hn:b.length<1000) (hfu:1000<fuel):
 ∃ G' v',ae H G'/\Own H G' v' 2 (Ra a b).length (bZ (Ra a b))/\∀ (d:Nat) (kx:Nat->KE) (e:Env) (x:R),aa s010 e=va->aa s012 e=vb->aa s013 e = .aw->aa s114 e = .int 3 b.length->aa s115 e = .int 3 0->
  (∀ e',aa s013 e'=v'->kx 1 e' G'=x)->lr yu fuel (aQ cp t fuel d) kx fuel e H=x:=by
 have nl:nn b.length:=by unfold nn;omega
 obtain ⟨v',G',⟨f',o'⟩,z⟩:=bV (c:=yu) (fuel:=fuel)
  (I:=λi v G=>ae H G/\Own H G v 2 (lN a b i).length (bZ (lN a b i)))
  (S:=λi v e=>aa s010 e=va/\aa s012 e=vb/\aa s013 e=v/\aa s114 e = .int 3 b.length/\aa s115 e = .int 3 i) (λi v G hil ⟨f,o⟩=>by
   obtain ⟨bb,ob,cb,zb,hvb,hbn,-,hrb⟩:=hB.open hil
   obtain ⟨ba,oa,ca,za,hva,han,-,hra⟩:=hA.open (i:=i) (by omega)
   have hrb:=λ{id} {k}=>hrb (f.same _ hbn) (id:=id) (k:=k)
   have hra:=λ{id} {k}=>hra (f.same _ han) (id:=id) (k:=k)
   have hg1:a.getD i t0=a[i]:=by rw [YJ,YB (show i<a.length by omega),Yn]
   have hg2:b.getD i t0=b[i]:=by rw [YJ,YB hil,Yn]
   have hst:lN a b (i+1)=lN a b i ++ (if a[i]=b[i] then [] else [(i,b[i])]):=by simp only [lN,hg1,hg2]
   have hcl:=pq a b i
   have hal:=by omega
   generalize a[i]=x at hra hst
   generalize b[i]=y at hrb hst
   subst hva hvb
   simp only [sv]at hra hrb
   have w0:=f.wf
   have a1:nn i:=by unfold nn;omega
   have a2:i<9223372036854775808:=by omega
   have a3:(i+1)%18446744073709551616=i+1:=by omega
   by_cases hxy:x=y
   .rw [if_pos hxy,YW]at hst
    have e1:(x.1=y.1/\x.2=y.2)=True:=by rw [Vg];exact eq_true hxy
    refine ⟨v,G,⟨f,by rw [hst];exact o⟩,λd kx r e x ⟨q10,q12,q13,q114,q115⟩ hk=>?_⟩
    rw [ax]
    simp only [go_sem,yu,q10,q12,q114,q115,hil,hab,nl,a1,a2,a3,↓hra,↓hrb,e1,Wq]
    exact hk _ (by simp only [go_sem,q10,q12,q13,q114,hab,and_self])
   .rw [if_neg hxy]at hst
    have e1:(x.1=y.1/\x.2=y.2)=False:=by rw [Vg];exact eq_false hxy
    obtain ⟨G3,hG3,f3,p3,n3⟩:=Heap.aP w0 (.cells [.int 3 i,.str y.1 y.2])
    obtain ⟨v',G4,hap,o4,f4,-⟩:=Own.app (w:=v) (x:=.slice G.n 0 1 2 0) (f.trans f3) (o.fresh f3) (λ{id f}=>jZ p3 rfl) rfl (λz hz=>by rcases YT.1 hz with rfl|hz;rfl;rw [YO.1 hz];rfl) (by omega)
    refine ⟨v',G4,⟨f4,by rw [hst,YD,ei];exact o4⟩,λd kx r e x ⟨q10,q12,q13,q114,q115⟩ hk=>?_⟩
    rw [ax]
    simp only [go_sem,yu,q10,q12,q13,q114,q115,hil,hab,nl,a1,a2,a3,↓hra,↓hrb,e1,w0,hG3,↓hap]
    refine hk _ ?_
    simp only [go_sem,q10,q12,q114,hab,and_self]) b.length 0 .aw H (by omega) ⟨ae.refl hw,Own.nil⟩
 refine ⟨G',v',f',o',λd kx e x q10 q12 q13 q114 q115 hk=>z d kx fuel e x (by omega) ⟨q10,q12,q13,q114,q115⟩ λr e' ⟨q10,q12,q13,q114,q115⟩=>?_⟩
 have e6:¬ b.length<b.length:=by omega
 rw [ax]
 simp only [go_sem,yu,q114,q115,nl,e6]
 exact hk _ q13
def nh (m:MT) (i:Nat):List Nat:=if i=0 then YZ m.live.length 0 else (m.ah.getD (i-1) ⟨(0,0),[],false⟩).cz
set_option maxRecDepth 4000 in
theorem ym (T:aJ t) (hc:aY t) {dp vp a n i:Nat} {A:AD} {m:MT} {vl vs vi:V} (S:VP H dp vp a n A O m vl vs vi) (hi:nn i) (hlp:∀ s ∈ m.ah,∀ p ∈ s.cz,p<A.len) (hil:∀ s ∈ m.ah,s.cz.length=m.live.length) (hfu:1000<fuel):
 ∃ H' v',(∀ (d:Nat) (k:K),aj (aQ cp t fuel (d+5)) (.func 158 []) [.ptr vp 0,.int 3 i] H k=k (.cE [v',.int 3 (if i<m.ah.length then 0 else 5)]) H')/\Step H (bH O vp) H' (bH O vp)/\VP H' dp vp a n A O m vl vs vi/\(¬ i<m.ah.length->v' = .aw)/\∀ s,m.ah[i]? = some s->Own H H' v' 2 (Ra ((nh m i).map (dI A)) (s.cz.map (dI A))).length (bZ (Ra ((nh m i).map (dI A)) (s.cz.map (dI A)))):=by
 have hn0:=S.ok.num
 have hl0:=S.ok.live.1
 obtain ⟨z1,S1,s1⟩:=Ih (cp:=cp) (fuel:=fuel) T hc S
 have z1:=λ{d} {k}=>z1 (d+1) k
 generalize H.put vp (.cells (vc m vl vs vi dp false))=G1 at z1 S1 s1
 have g1':=S1.get
 simp only [vc,aS,bP,YP,YN]at g1'
 have sn:=λ{id} {f:Nat->R}=>(let ⟨_,h,_⟩:=S1.yX.ah;h.sn:bz id vs (λ_ _ len _ _=>f len) (f 0)=f m.ah.length)
 have a1:m.ah.length<9223372036854775808:=by omega
 have a2:nn m.ah.length:=by unfold nn;omega
 have a3:nn 0:=by unfold nn;omega
 have a4:¬ i<0:=by omega
 by_cases hlt:i<m.ah.length
 .have hsi:=YB hlt
  have hge:¬ m.ah.length<=i:=by omega
  rw [if_pos hlt]
  have w1:=S1.eX.wf
  have hll:∀ s ∈ m.ah,s.cz.length<1000:=λs hs=>by rw [hil s hs];omega
  have sl:=λ{id} {f}=>S1.yX.live.sn (id:=id) (f:=f)
  have b1:m.live.length<9223372036854775808:=by omega
  obtain ⟨G2,f2,o2,-,n2,z2⟩:=wZ (x:=.int 3 0) (n:=m.live.length) rfl w1 rfl (by omega) (YA _) (a:=.s s043)
  have S2:=S1.fresh f2
  have g2':=S2.get
  simp only [vc,aS,bP,YP,YN]at g2'
  have base:∃ vb,dH G2 (bH O vp) vb (nh m i)/\(∀ p ∈ nh m i,p<A.len)/\(nh m i).length=m.live.length/\∀ (d) (kn) (kx) (e) (x),aa s000 e = .ptr vp 0->aa s001 e = .int 3 i->aa s007 e = .slice G1.n 0 m.live.length (m.live.length+1) 0->
   (∀ e',aa s000 e' = .ptr vp 0->aa s001 e' = .int 3 i->aa s007 e'=vb->fM MR fuel (aQ cp t fuel d) e' G2 kn kx=x)->fM IC fuel (aQ cp t fuel d) e G2 kn kx=x:=by
   unfold nh
   by_cases h0:i=0
   .subst h0
    simp only [if_true]
    refine ⟨.slice G1.n 0 m.live.length (m.live.length+1) 0,?_,λp hp=>?_,Wj,λd kn kx e x q0 q1 q7 hk=>?_⟩
    .have:=o2.toRow S1.lt
     unfold dH
     rw [Wj,YF0]
     exact this
    .rw [(List.mem_replicate.1 hp).2];have:=S.lo;omega
    .have e0:¬ 0<0:=by omega
     simp only [go_sem,IC,q1,a3,e0]
     exact hk _ q0 q1 q7
   .obtain ⟨j,rfl⟩:∃ j,i=j+1:=⟨i-1,by omega⟩
    have hj:j<m.ah.length:=by omega
    simp only [h0,if_false,YA3]
    rw [YJ,YB hj,Yn]
    obtain ⟨b,o,c,z,x,hvs,hbn,-,hI,hrd⟩:=S2.yX.ah.cz hj
    have hrd:=λ{id} {k}=>hrd rfl (id:=id) (k:=k)
    have jx:=λ{id} {k}=>aG hI.one (id:=id) (k:=k)
    refine ⟨x,hI,hlp _ (Yb hj),hil _ (Yb hj),λd kn kx e y q0 q1 q7 hk=>?_⟩
    have e1:0<j+1:=by omega
    have e2:(j+1+18446744073709551615)%18446744073709551616=j:=by unfold nn at hi;omega
    have e3:nn j:=by unfold nn;omega
    have e4:j<9223372036854775808:=by omega
    have e5:=by omega
    subst hvs
    simp only [go_sem,IC,q0,q1,a3,hi,e1,e2,e4,hj,g2',↓hrd]
    exact hk _ q0 q1 rfl
  obtain ⟨vb,hIb,hpb,hlb,zb⟩:=base
  obtain ⟨G3,wa,z3,f3,o3⟩:=uC (cp:=cp) T hc S2.eX S2.off S2.get S2.vn hIb (by omega) hpb S.hi hfu
  have z3:=λ{d} {k}=>z3 d k
  have S3:=S2.fresh f3
  have g3':=S3.get
  simp only [vc,aS,bP,YP,YN]at g3'
  obtain ⟨b,o,c,z,x,hvs,hbn,-,hI,hrd⟩:=S3.yX.ah.cz hlt
  have hrd:=λ{id} {k}=>hrd rfl (id:=id) (k:=k)
  have jx:=λ{id} {k}=>aG hI.one (id:=id) (k:=k)
  obtain ⟨G4,wb,z4,f4,o4⟩:=uC (cp:=cp) T hc S3.eX S3.off S3.get S3.vn hI (hll _ (Yb hlt)) (hlp _ (Yb hlt)) S.hi hfu
  have z4:=λ{d} {k}=>z4 d k
  have S4:=S3.fresh f4
  have hilx:=hil _ (Yb hlt)
  generalize m.ah[i]=s at hsi hI o4 hilx
  have hA:T5 G4 (bH O vp) wa ((nh m i).map (dI A)):=by
   have:=(o3.toRow S2.lt).fresh f4
   unfold T5
   rw [Yl,List.map_map]
   exact this
  have hB:T5 G4 (bH O vp) wb (s.cz.map (dI A)):=by
   have:=o4.toRow S3.lt
   unfold T5
   rw [Yl,List.map_map]
   exact this
  obtain ⟨G5,v',f5,o5,z5⟩:=Lh T S4.eX.wf hA hB (by rw [Yl,Yl,hlb,hilx]) (by rw [Yl,hilx];omega) hfu
  have sb:=λ{id} {f}=>hB.sn (id:=id) (f:=f)
  simp only [Yl]at z5 sb
  have b5:s.cz.length<9223372036854775808:=by omega
  have hs15:=s1.trans (f2.trans (f3.trans (f4.trans f5))).step
  have hsn:=s1.n
  refine ⟨G5,v',λd k=>?_,hs15,S4.fresh f5,λh=>absurd hlt h,λs' hs'=>by rw [hsi]at hs';cases hs';exact o5.sub (by have:=f3.n;have:=f4.n;omega)⟩
  rw [aR T.k79 rfl rfl]
  simp only [go_sem,c79,ML,MQ,↓z1,g1',↓sn,a1,a2,a3,a4,hi,hge]
  simp only [go_sem,UK,g1',↓sl,b1,↓z2]
  refine zb (d+4) _ _ _ _ ?_ ?_ ?_ λe' q0 q1 q7=>?_
  .rfl
  .rfl
  .rfl
  have b3:=hi
  have b4:i<9223372036854775808:=by omega
  subst hvs
  simp only [go_sem,MR,UL,UM,q0,q1,q7,↓z3,g3',b4,hlt,↓hrd,↓z4]
  simp only [go_sem,UN,UO,MM,↓sb,b5]
  refine z5 (d+4) _ _ _ ?_ ?_ ?_ ?_ ?_ λe' q13=>?_
  .rfl
  .rfl
  .rfl
  .rfl
  .rfl
  simp only [go_sem,MN,MP,q13]
 .have hge:m.ah.length<=i:=by omega
  rw [if_neg hlt]
  refine ⟨G1,.aw,λd k=>?_,s1,S1,λ_=>rfl,λs hs=>absurd (Ya.1 hs).1 hlt⟩
  rw [aR T.k79 rfl rfl]
  simp only [go_sem,c79,ML,MQ,↓z1,g1',↓sn,a1,a2,a3,a4,hi,hge]
end
end Go.Ev
end

