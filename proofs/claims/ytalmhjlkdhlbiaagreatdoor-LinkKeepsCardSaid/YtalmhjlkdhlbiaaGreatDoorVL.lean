/- VL: a part of the evaluator,of its logic,or of the laws' walk in it. -/
import Derived.Test.YtalmhjlkdhlbiaaGreatDoorVC
import Derived.Test.YtalmhjlkdhlbiaaGreatDoorLC
import Derived.OpenShut
open Nat renaming le_refl → YA,lt_of_lt_of_le → YE,le_trans → Yn,add_zero → WD,mul_one → WO,lt_irrefl → Wa
open List renaming getElem?_eq_getElem → YB,mem_cons_of_mem → YI,mem_cons_self → YJ,mem_singleton → YO,mem_cons → YP,getElem?_eq_some_iff → YX,mem_map → Yc,getElem?_map → Yj,mem_append → Yv,length_map → WB,range → WT,length_range → Wx,mem_range → QI
open Or renaming inr → YD,inl → YG
open Bool renaming true_eq_false → QR
set_option linter.unusedVariables false
set_option linter.unusedSimpArgs false
set_option linter.unusedSectionVars false
set_option maxHeartbeats 8000000
open Nat renaming reduceAdd→ZA,reduceSub→ZB,reduceMul→ZC,reduceEqDiff→ZD,reduceLT→ZE,reduceDiv→ZF,reduceMod→ZG,reduceLeDiff→ZH
section
namespace Go.Ev
variable {cp:RC->ai} {t:Nat->Option cF} {fuel:Nat} {H:Heap} {pk:List UInt8->List (List UInt8)} {unpk:List (List UInt8)->Option (List UInt8)}
theorem wS (T:aG t) {c:Nat} (hw:H.wf) (hc:c<256) (hfu:1000<fuel):
 ∃ H',(∀ (d:Nat) (k:K),aj (aQ cp t fuel (d+1)) (.func 42 []) [.int 4 c] H k=k (.str 32 (enc (ie c 32))) H')/\ae H H':=by
 obtain ⟨G1,hG1,f1,p1,n1⟩:=Heap.aU hw (.bytes 32 0)
 have n32:nn 32:=by unfold nn;omega
 obtain ⟨_,G',⟨f',g',n'⟩,z⟩:=bV (c:=IV) (fuel:=fuel) (ph:=λd=>aQ cp t fuel d) (σ:=Unit) (n:=32)
  (I:=λi _ G=>ae H G/\G.get H.n = .bytes 32 (enc (ie c i))/\H.n<G.n)
  (S:=λi _ e=>aa s000 e = .int 4 c/\aa s003 e = .slice H.n 0 32 33 0/\aa s004 e = .int 3 i) (λi _ G hil ⟨f,g,hn⟩=>by
   have hx:=K3 (c:=c) (i:=i) (by omega)
   have w0:=f.wf
   obtain ⟨G2,hG2,f2,p2,n2,w2,k2⟩:=Heap.bd (b:=H.n) f (YA _) hn (.bytes 32 (enc (ie c (i+1))))
   have a1:nn i:=by unfold nn;omega
   have a2:i<9223372036854775808:=by omega
   have a3:(i+1)%18446744073709551616=i+1:=by omega
   have a4:i+1<=32:=by omega
   refine ⟨(),G2,⟨f2,p2,by omega⟩,λd kx r e x ⟨q0,q3,q4⟩ hk=>?_⟩
   rw [ak]
   simp only [go_sem,ZE,IV,q0,q3,q4,hil,n32,a1,a2,a3,a4,g,hx,w0,hn,hG2]
   exact hk _ (by simp only [go_sem,q0,q3,and_self])) 32 0 () G1 (by omega) ⟨f1,p1,by omega⟩
 refine ⟨G',λd k=>?_,f'⟩
 have e6:¬ (32:Nat)<32:=by omega
 have e8:enc (ie c 32)%256 ^ 32=enc (ie c 32):=Nat.mod_eq_of_lt (Vd c)
 have e9:(32:Nat)<=32:=by omega
 rw [aR T.k21 rfl rfl]
 simp only [go_sem,c21,hw,hG1]
 refine z d _ fuel _ _ (by omega) ⟨?_,?_,?_⟩ λr e' ⟨q0,q3,q4⟩=>?_
 .rfl
 .rfl
 .rfl
 rw [ak]
 simp only [go_sem,ZE,IV,q3,q4,n32,e6,g',Nat.shiftRight_zero,e8,e9]
theorem Dv (T:aG t) {a b:Nat} (hw:H.wf):
 ∃ H',(∀ (d:Nat) (k:K),aj (aQ cp t fuel (d+1)) (.func 26 []) [.int 7 a,.int 7 b] H k=k (.agg [.int 7 a,.int 7 b]) H')/\ae H H':=by
 obtain ⟨G1,hG1,f1,p1,n1⟩:=Heap.aU hw (.cells [.int 7 0,.int 7 0])
 have w1:=f1.wf
 have b1:H.n<G1.n:=by omega
 obtain ⟨G2,hG2,f2,p2,n2,w2,k2⟩:=Heap.bd (b:=H.n) f1 (YA _) b1 (.cells [.int 7 a,.int 7 b])
 refine ⟨G2,λd k=>?_,f2⟩
 rw [aR T.k13 rfl rfl]
 simp only [go_sem,c13,hw,hG1,p1,w1,b1,hG2,↓dA,p2]
end Go.Ev
end
section
namespace Go.Ev
open Go.Proofs
def okV (x:Tx):Prop:=x.1=32/\um x
def VT (A:AD) (m:MT):Prop:=∀ l ∈ dR m,∀ q ∈ l,okV (iZ A q)
structure VJ (pk:List UInt8->List (List UInt8)) (A:AD) (a n:Nat) (us:List Wr) (m:MT) (nb:Nat):Prop where
 jd:JD pk A a n us
 lo:193<=A.len
 hi:A.len<=1024
 room:A.len<=A.room
 lb:m.live.length=nb
 ok:gk m nb A.len
 Eg:lg m
 tab:LX A (pk (nums (nw m)))
 vt:VT A m
 tk:m.tok=rj
structure Cg (A:AD) (m:MT) (o:Ci) (nb:Nat):Prop where
 ok:gk o.m1 nb A.len
 Eg:lg o.m1
 lb:o.m1.live.length=nb
 bw:∀ w ∈ o.bw,193<=w.1/\w.1<A.len/\w.2.1=32/\um w.2/\∀ l ∈ dR m,w.1 ∉ l
 nd:(o.bw.map (·.1)).Nodup
 len:o.bw.length<=12
 vt:∀ A':AD,(∀ w ∈ o.bw,A'.read w.1=w.2)->(∀ l ∈ dR m,∀ q ∈ l,iZ A' q=iZ A q)->VT A' o.m1
 tk:o.m1.tok=rj
section
variable {pk:List UInt8->List (List UInt8)} {unpk:List (List UInt8)->Option (List UInt8)} {A:AD} {a n nb:Nat} {us:List Wr} {m:MT}
theorem Cg.done (F:bX pk unpk) {o:Ci} (I:VJ pk A a n us m nb) (hf:A.aV=0) (G:Cg A m o nb):
 (sH pk A a o.m1 o.bw).2=0/\(sH pk A a o.m1 o.bw).1.aV=0/\(sH pk A a o.m1 o.bw).1.len=A.len/\(sH pk A a o.m1 o.bw).1.room=A.room/\∃ a' n' us',VJ pk (sH pk A a o.m1 o.bw).1 a' n' us' o.m1 nb:=by
 obtain ⟨h1,h2,h3,h4,h5⟩:=J5 F I.lo I.hi G.ok G.lb (λw hw=>let ⟨a1,a2,a3,a4,_⟩:=G.bw w hw; ⟨a1,a2,a3,a4⟩) G.nd G.len
 have hR:sH pk A a o.m1 o.bw=A.eM pk a (Q5 pk A o.m1 o.bw):=by unfold sH;rw [if_pos h1]
 rw [hR]
 have hcode:=I.jd.code F hf I.room h4
 have hdid:=I.jd.eM F hf h4
 have h0:(A.eM pk a (Q5 pk A o.m1 o.bw)).2=0:=by
  rw [hcode];unfold Ev.code
  split
  .rfl
  .rw [if_neg (by omega),if_neg (by rw [h3];simp)]
 obtain ⟨a',n',us',J'⟩:=hdid.jd
 have hC:=h5.congr (λk hk=>(hdid.yes h0).1 k hk) λw hw=>(G.bw w hw).1
 refine ⟨h0,hdid.aV,hdid.len,hdid.room,a',n',us',J',by rw [hdid.len];exact I.lo,by rw [hdid.len];exact I.hi,by rw [hdid.len,hdid.room];exact I.room,G.lb,by rw [hdid.len];exact G.ok,G.Eg,⟨λi hi=>hC.tab i hi⟩,G.vt _ (λw hw=>hC.wr w hw) (λl hlm q hq=>?_),G.tk⟩
 unfold iZ
 rcases I.ok.pl l hlm q hq with rfl|⟨h1,h2⟩
 .rw [if_pos rfl,if_pos rfl]
 .rw [if_neg (by omega),if_neg (by omega)]
  exact hC.other q h1 λhk=>by
   obtain ⟨w,hw,rfl⟩:=Yc.1 hk
   exact (G.bw w hw).2.2.2.2 l hlm hq
theorem Fl (I:VJ pk A a n us m nb) {b:Nat} {d:Tx} (hb:b<nb) (hd:d.1=32) (hk:um d) (hr:¬ lI m A.len b d):Cg A m ⟨0,LM m A.len b d,LV m A.len b d⟩ nb:=by
 have P:eo m A.len [(b,d)]:=⟨hr,λc hc=>by rw [YO.1 hc];exact ⟨hd,hk⟩⟩
 have ch:=xO.one hb hd hk
 have hi:=uX I.ok.live (YG (YJ ..)) P ch
 have ok1:gk (LM m A.len b d) nb A.len:=⟨hi,I.ok.num,I.ok.ah,I.ok.tok⟩
 refine ⟨ok1,ok1.lg I.hi (λs hs=>gh I.Eg s hs) I.Eg.tok.1 I.Eg.tok.2.1,hi.len,λw hw=>P.w hw,P.nodup,Yn eo.len (by show 1<=12;omega),λA' hA hf l hl q hq=>?_,I.tk⟩
 rcases YP.1 hl with rfl|hl
 .have hm:=rW (l:=m.live) P (⟨λc hc=>⟨YE (ch.lt c hc).1 I.ok.live.hi,(ch.lt c hc).2⟩,ch.up⟩:xO [(b,d)] 8) hA (YA _)
  have hv:iZ A' q ∈ (ij m.live [(b,d)] (pA m A.len [(b,d)]) [(b,d)].length).map (iZ A'):=Yc.2 ⟨q,hq,rfl⟩
  rw [hm]at hv
  rcases List.mem_or_eq_of_mem_set (show iZ A' q ∈ (m.live.map (iZ A')).set b d from hv) with hv|hv
  .obtain ⟨q',hq',e⟩:=Yc.1 hv
   rw [<- e,hf _ (YJ ..) q' hq']
   exact I.vt _ (YJ ..) q' hq'
  .rw [hv]
   exact ⟨hd,hk⟩
 .rw [hf l (YI _ hl) q hq]
  exact I.vt l (YI _ hl) q hq
theorem Io (I:VJ pk A a n us m nb) {g:Gd} (hg:jm g) (ha:eK g (eH m).g=true) (h20:m.ah.length<20):Cg A m ⟨0,Q9 m g,[]⟩ nb:=by
 have ok1:gk (Q9 m g) nb A.len:=⟨I.ok.live,by show (m.ah ++ [_]).length<=20;rw [List.length_append];show m.ah.length+1<=20;omega,I.ok.ah.snoc (by rw [<- uZ];exact th.2 ha) I.ok.live,sC _ _ _⟩
 refine ⟨ok1,ok1.lg I.hi (λs hs=>(Yv.1 hs).elim (gh I.Eg s) λh=>by rw [YO.1 h];exact hg) kF.1 kF.2.1,I.lb,λw hw=>(by cases hw),List.nodup_nil,Nat.zero_le _,λA' _ hf l hl q hq=>?_,rfl⟩
 rcases YP.1 hl with rfl|hl
 .rw [hf _ (YJ ..) q hq]
  exact I.vt _ (YJ ..) q hq
 rcases YP.1 hl with rfl|hl
 .cases hq
 .obtain ⟨s,hs,rfl⟩:=Yc.1 hl
  rcases Yv.1 (show s ∈ m.ah ++ [⟨g,m.live,false⟩] from hs) with hs|hs
  .have hm:s.cD ∈ dR m:=YI _ (YI _ (Yc.2 ⟨s,hs,rfl⟩))
   rw [hf _ hm q hq]
   exact I.vt _ hm q hq
  .rw [YO.1 hs]at hq
   rw [hf _ (YJ ..) q hq]
   exact I.vt _ (YJ ..) q hq
end
section
variable {t:Nat->Option cF} {fuel:Nat} {H:Heap} {pk:List UInt8->List (List UInt8)} {unpk:List (List UInt8)->Option (List UInt8)}
variable {dp vp a n nb:Nat} {A:AD} {O:Nat->Prop} {m:MT} {vl vs vi:V} {us:List Wr}
theorem Uz (T:aG t) (hc:bg t) (F:bX pk unpk) (hp:t 123=some (.nat (eD pk))) (S:VP H dp vp a n A O m vl vs vi) (I:VJ pk A a n us m nb) (hf:A.aV=0) {b l:Nat} (hb:b<1000000) (hfu:1000000<fuel):
 ∃ H' O' E,(∀ (d:Nat) (k:K),aj (aQ (aO Tryz.prog) t fuel (d+9)) (.func 40 []) [.ptr vp 0,.int 3 b,.str 32 (enc (ie l 32))] H k=k (.int 3 E) H')/\Step H (bM O vp) H' (bM O' vp)/\(E=0->∃ A' m' vl' vs' vi' a' n' us',VP H' dp vp a' n' A' O' m' vl' vs' vi'/\VJ pk A' a' n' us' m' nb/\A'.aV=0/\∀ X:Nat->Prop,(∀ b,X b->b<H.n)->gj H (λb=>X b\/bM O vp b) m vl vs vi->gj H' (λb=>X b\/bM O' vp b) m' vl' vs' vi'):=by
 obtain ⟨H',O',z,hd⟩:=Fj (fuel:=fuel) (block:=b) (data:=ie l 32) T hc F hp S (by omega) (by rw [fA];omega) (λl hl a ha h0=>(I.ok.pl l hl a ha).resolve_left h0) (Ti S.ok) (λ_=>X0 S.ok S.hi) hfu
 have hmay:se m b (ie l 32)=decide (b<nb):=by unfold se;rw [fA,I.lb];simp
 rw [hmay,aa5]at z hd
 simp only [tv,fA]at z
 refine ⟨H',O',_,z,hd.1,λhE=>?_⟩
 by_cases h1:b<nb
 .by_cases h2:lI m A.len b (dT l)
  .simp [h1,h2]at hE
  .obtain ⟨g1,g2,g3,g4,a',n',us',I'⟩:=(Fl I h1 rfl (Vd l) h2).done F I hf
   obtain ⟨-,D,ho,hn,vl',vs',vi',hg,hM,hX⟩:=hd
   simp only [h1,h2,decide_true,QR,false_or,if_false,I6,Q4,g1]at D hg hM hX
   exact ⟨_,_,vl',vs',vi',a',n',us',⟨D,I'.jd.off,I'.jd.BD.can,I'.lo,I'.hi,by simpa using hg,hn,ho,hM,I'.Eg⟩,I',g2,hX⟩
 .simp [h1]at hE
theorem Zj (T:aG t) (hc:bg t) (F:bX pk unpk) (hp:t 123=some (.nat (eD pk))) (S:VP H dp vp a n A O m vl vs vi) (I:VJ pk A a n us m nb) (hf:A.aV=0) {g:Gd} (hg:jm g) (hfu:1000000<fuel):
 ∃ H' O' E,(∀ (d:Nat) (k:K),aj (aQ (aO Tryz.prog) t fuel (d+9)) (.func 44 []) [.ptr vp 0,.agg (bq g)] H k=k (.int 3 E) H')/\Step H (bM O vp) H' (bM O' vp)/\(E=0->∃ A' m' vl' vs' vi' a' n' us',VP H' dp vp a' n' A' O' m' vl' vs' vi'/\VJ pk A' a' n' us' m' nb/\A'.aV=0/\∀ X:Nat->Prop,(∀ b,X b->b<H.n)->gj H (λb=>X b\/bM O vp b) m vl vs vi->gj H' (λb=>X b\/bM O' vp b) m' vl' vs' vi'):=by
 have hl:m.ah.length<900:=by have:=I.ok.num;omega
 obtain ⟨H',O',z,hd⟩:=Un T hc F hp S hg hl hfu
 refine ⟨H',O',_,z,hd.1,λhE=>?_⟩
 unfold Ci.E snO at hE
 rcases h1:eK g (eH m).g with _|_
 .simp [h1]at hE
 .by_cases h2:20<=m.ah.length
  .simp [h1,h2]at hE
  .obtain ⟨g1,g2,g3,g4,a',n',us',I'⟩:=(Io I hg h1 (by omega)).done F I hf
   obtain ⟨-,D,ho,hn,vl',vs',vi',hgt,hM,hX⟩:=hd
   simp only [Ci.A1,Ci.M,Ci.L,snO,h1,h2,I6,Q4,g1,QR,if_false,ne_eq,not_true_eq_false]at D hgt hM hX
   exact ⟨_,_,vl',vs',vi',a',n',us',⟨D,I'.jd.off,I'.jd.BD.can,I'.lo,I'.hi,by simpa using hgt,hn,ho,hM,I'.Eg⟩,I',g2,hX⟩
theorem ab3 (A:AD):VT A (mz 3):=λl hl q hq=>by
 have hq0:q=0:=by
  rcases YP.1 hl with rfl|hl
  .exact (List.mem_replicate.1 hq).2
  rcases YP.1 hl with rfl|hl
  .cases hq
  .cases hl
 subst hq0
 exact ⟨rfl,by show 0<256 ^ 32;omega⟩
theorem yk (T:aG t) (hc:bg t) (F:bX pk unpk) (hp:t 123=some (.nat (eD pk))) (hu:t 89=some (.nat (fC unpk))) (hw:H.wf) (hfu:1000000<fuel):
 ∃ H' A a k us dp vp O' vl vs vi,(∀ (d:Nat) (k:K),aj (aQ (aO Tryz.prog) t fuel (d+10)) (.func 28 []) [] H k=k (.cV [.ptr vp 0,.ptr dp 0]) H')/\ae H H'/\VP H' dp vp a k A O' (mz 3) vl vs vi/\VJ pk A a k us (mz 3) 3/\A.aV=0/\(∀ b,bM O' vp b->H.n<=b)/\gj H' (λb=>b<H.n\/bM O' vp b) (mz 3) vl vs vi:=by
 obtain ⟨G1,dp,O1,z1o,D1,f1,o1⟩:=Tw (cp:=aO Tryz.prog) (fuel:=fuel) (n:=300) (r:=300) (T.jT hc) hw (by omega) (by omega) (by unfold nn;omega)
 obtain ⟨G2,A1,O2,z2o,f2,D2,own2,⟨a,k,us,J⟩,q1,q2,q3,hT⟩:=B6 (cp:=aO Tryz.prog) (fuel:=fuel) (b:=3) T hc F hp (by omega) (by omega) (YA 300) (by omega) (by omega) f1 D1 o1 hfu
 obtain ⟨r1,r2,r3,r4,r5,r6⟩:=J.recovered q1
 have hT':LX (A1.recover k us).1 (pk (nums (nw (mz 3)))):=⟨λi h=>by rw [AD.read,r6];exact hT.at_ i h⟩
 have ok3:gk (mz 3) 3 (A1.recover k us).1.len:=Oq (by omega) (by omega)
 obtain ⟨H',O',vp,vl,vs,vi,z3o,s,D,g,hn,ho,hv,hM,hX⟩:=IG (cp:=aO Tryz.prog) (fuel:=fuel) (m:=mz 3) T hc F hu D2 J.BD r1 r2.off (by rw [r4];omega) (by rw [r4];omega) (by rw [tu];exact ok3) (Bm (by omega)) hT' hfu
 obtain ⟨f3,own3⟩:=f2.own s own2
 have z1:=λ{d:Nat} {k:K}=>z1o d k
 have z2:=λ{d:Nat} {k:K}=>z2o d k
 have z3:=λ{d:Nat} {k:K}=>z3o d k
 refine ⟨H',(A1.recover k us).1,a,k,us,dp,vp,O',vl,vs,vi,λd k=>?_,f3,⟨D,r2.off,r2.BD.can,by rw [r4];omega,by rw [r4];omega,g,hn,ho,hM,Bm (by omega)⟩,⟨r2,by rw [r4];omega,by rw [r4];omega,by rw [r4,r5];omega,tu 3,ok3,Bm (by omega),hT',ab3 _,rfl⟩,r3,λb hb=>hb.elim (own3 b) λe=>by rw [e];exact Yn f2.n hv,hX _ λb hb=>YE hb f2.n⟩
 rw [aR T.k14 rfl rfl]
 simp only [go_sem,c14,UK,UL,↓z1,↓z2]
 simp only [go_sem,UM,UN,UO,UP,↓z3]
end
end Go.Ev
end
section
namespace Go.Ev
open Go.Proofs
def FB (H:Heap) (v:V) (rs:List (List Nat)):Prop:=rs.length<9223372036854775808/\∃ xs:List V,Row H (λ_=>False) v 1 rs.length xs/\∀ (i:Nat) (r:List Nat),rs[i]? = some r->r.length<9223372036854775808/\(∀ q ∈ r,q<256)/\∃ x,xs[i]? = some x/\Row H (λ_=>False) x 1 r.length (r.map (V.int 4))
theorem uN {id half a b:Nat} {f:Nat->R} (ha:a<half) (hb:b<half) (h0:b≠0):iS id (.rem half) a b f=f (a%b):=by
 show aD (Nat.blt a half) (aD (Nat.blt b half) (aD (Nat.beq b 0) (no 0) (av (Nat.mod a b) f)) (no 0)) (no 0)=_
 rw [bA,if_pos (by rw [Nat.blt_eq];exact ha),bA,if_pos (by rw [Nat.blt_eq];exact hb),bA,if_neg (by rw [oQ];exact h0),aw]
 rfl
def SJ (pk:List UInt8->List (List UInt8)) (H G:Heap) (vp:Nat):Prop:=∃ dp A O m vl vs vi a k us,VP G dp vp a k A O m vl vs vi/\VJ pk A a k us m 3/\A.aV=0/\ae H G/\(∀ b,bM O vp b->H.n<=b)/\gj G (λb=>b<H.n\/bM O vp b) m vl vs vi
section
variable {t:Nat->Option cF} {fuel:Nat} {H:Heap} {pk:List UInt8->List (List UInt8)} {unpk:List (List UInt8)->Option (List UInt8)}
theorem GX (T:aG t) (hc:bg t) (F:bX pk unpk) (hp:t 123=some (.nat (eD pk))) {G0:Heap} {lv:V} {rs:List (List Nat)} {vp i:Nat} {r:List Nat} (hl:FB H lv rs) (hr:rs[i]? = some r) (h0:SJ pk H G0 vp) (hfu:1000000<fuel):
 ∃ G' ok,ae H G'/\(ok=true->SJ pk H G' vp)/\∀ (d:Nat) (kx:Nat->KE) (e:Env) (x:R),aa s000 e=lv->aa s003 e = .ptr vp 0->aa s005 e = .int 3 i->aa s006 e = .int 3 0->
  (ok=true->∀ e',aa s000 e'=lv->aa s003 e' = .ptr vp 0->aa s005 e' = .int 3 i->kx 3 e' G'=x)->(ok=false->∀ e',aa s002 e' = .jk->kx 0 e' G'=x)->jF CG fuel (aQ (aO Tryz.prog) t fuel (d+9)) kx fuel e G0=x:=by
 obtain ⟨hn,xs,bC,hrs⟩:=hl
 obtain ⟨hrn,hq,y,hy,hyr⟩:=hrs i r hr
 have hil:=(YX.1 hr).1
 have ci:i<9223372036854775808:=by omega
 have ni:nn i:=by unfold nn;omega
 have run:=iI (c:=CG) (fuel:=fuel) (ph:=λd=>aQ (aO Tryz.prog) t fuel (d+9)) (σ:=Unit) (τ:=Unit) (n:=min r.length 4)
  (I:=λk _ G=>SJ pk H G vp)
  (S:=λk _ e=>aa s000 e=lv/\aa s003 e = .ptr vp 0/\aa s005 e = .int 3 i/\aa s006 e = .int 3 k)
  (J:=λ_ G=>ae H G) (Q:=λ_ e=>aa s002 e = .jk) (j:=λ_=>0) (λk _ G hkn ⟨dp,A,O,m,vl,vs,vi,a,kk,us,S,I,hf,fr,own,hM⟩=>by
   have hk4:k<4:=by omega
   have hkl:k<r.length:=by omega
   have hw:=fr.wf
   have hrow1:=bC.fresh fr
   have hyr1:=hyr.fresh fr
   obtain ⟨bL,oL,cL,zL,hvL,hbL,-,hrL⟩:=hrow1.open hil
   have hrL:=λ{id:Nat} {k:V->R}=>(hrL (G:=G) rfl).2 (by rw [WO];exact hy) (id:=id) (k:=k)
   obtain ⟨bY,oY,cY,zY,hvY,hbY,-,hrY⟩:=hyr1.open hkl
   have hrk:r[k]? = some r[k]:=YB hkl
   have hrY:=λ{id:Nat} {k':V->R}=>(hrY (G:=G) rfl).2 (x:=.int 4 r[k]) (by rw [WO,Yj,hrk];rfl) (id:=id) (k:=k')
   have hqk:=hq _ (List.getElem_mem hkl)
   generalize r[k]=z at hrY hqk
   rw [WO]at hrL hrY
   have wm:G.mark.wf:=by rw [Heap.dV];exact hw
   obtain ⟨Gm',z1',f1'⟩:=wS (cp:=aO Tryz.prog) (fuel:=fuel) (H:=G.mark) (c:=z/3) T wm (by omega) (by omega)
   obtain ⟨Gm,G1,z1o,hu1,hl1,f1⟩:=qO (cp:=aO Tryz.prog) (fuel:=fuel) ⟨Gm',z1',f1'⟩
   have z1:=λ{d:Nat} {k:K}=>z1o (d+8) k
   clear z1o
   obtain ⟨G2,O2,E,z2o,s2,hE⟩:=Uz (b:=z%3) (l:=z/3) T hc F hp (S.fresh f1) I hf (by omega) hfu
   have z2:=λ{d:Nat} {k:K}=>z2o d k
   clear z2o
   obtain ⟨fr2,own2⟩:=(fr.trans f1).own s2 own
   have ck:k<9223372036854775808:=by omega
   have nk:nn k:=by unfold nn;omega
   have e1:(k+1)%18446744073709551616=k+1:=by omega
   have e2:z%18446744073709551616=z:=by omega
   have rm:∀ {id:Nat} {f:Nat->R},iS id (.rem 9223372036854775808) z 3 f=f (z%3):=λ{id f}=>uN (by omega) (by omega) (by omega)
   have rq:∀ {id:Nat} {f:Nat->R},iS id (.quo 256) z 3 f=f (z/3):=λ{id f}=>FN (by omega) (by omega) (by omega)
   have hsn:=λ{id:Nat} {f:Nat->R}=>hyr1.sn (id:=id) (f:=f)
   subst hvL hvY
   by_cases h0:E=0
   .obtain ⟨A',m',vl',vs',vi',a',n',us',S',I',hf',hX⟩:=hE h0
    subst h0
    refine YG ⟨(),G2,⟨dp,A',O2,m',vl',vs',vi',a',n',us',S',I',hf',fr2,own2,hX _ (λb hb=>YE hb (fr.trans f1).n) (hM.fresh f1)⟩,λd kx rr e x ⟨q0,q3,q5,q6⟩ hk=>?_⟩
    rw [ak]
    simp only [go_sem,ZE,CG,q0,q3,q5,q6,hil,hkl,hk4,ci,ck,nk,e1,e2,hrn,↓hrL,↓hrY,↓hsn,↓rm,↓rq,↓z1,hu1,hl1,↓z2]
    exact hk _ (by simp only [go_sem,q0,q3,q5,and_self])
   .refine YD ⟨(),G2,fr2,λd kx rr e x ⟨q0,q3,q5,q6⟩ hk=>?_⟩
    rw [ak]
    simp only [go_sem,ZE,CG,q0,q3,q5,q6,hil,hkl,hk4,ci,ck,nk,e2,hrn,↓hrL,↓hrY,↓hsn,↓rm,↓rq,↓z1,hu1,hl1,↓z2,h0]
    exact hk _ rfl) (min r.length 4) 0 () G0 (by omega) h0
 rcases run with ⟨_,G',hS,z⟩|⟨_,G',fr,z⟩
 .have hS':=hS
  obtain ⟨dp,A,O,m,vl,vs,vi,a,kk,us,S,I,hf,fr,own,hM⟩:=hS'
  refine ⟨G',true,fr,λ_=>hS,λd kx e x q0 q3 q5 q6 h1 _=>?_⟩
  refine z d kx fuel e x (by omega) ⟨q0,q3,q5,q6⟩ λrr e' ⟨q0,q3,q5,q6⟩=>?_
  have hrow1:=bC.fresh fr
  have hyr1:=hyr.fresh fr
  obtain ⟨bL,oL,cL,zL,hvL,hbL,-,hrL⟩:=hrow1.open hil
  have hrL:=λ{id:Nat} {k:V->R}=>(hrL (G:=G') rfl).2 (by rw [WO];exact hy) (id:=id) (k:=k)
  rw [WO]at hrL
  have hsn:=λ{id:Nat} {f:Nat->R}=>hyr1.sn (id:=id) (f:=f)
  have b1:nn (min r.length 4):=by unfold nn;omega
  subst hvL
  rw [ak]
  by_cases h30:r.length<4
  .have e1:min r.length 4=r.length:=by omega
   have e2:¬ r.length<r.length:=Wa _
   rw [e1]at q6 b1
   simp only [go_sem,CG,q0,q5,q6,hil,ci,↓hrL,↓hsn,hrn,b1,e2]
   exact h1 rfl _ q0 q3 q5
  .have e1:min r.length 4=4:=by omega
   rw [e1]at q6 b1
   by_cases h31:r.length=4
   .have e2:¬ 4<r.length:=by omega
    simp only [go_sem,CG,q0,q5,q6,hil,ci,↓hrL,↓hsn,hrn,b1,e2]
    exact h1 rfl _ q0 q3 q5
   .have e2:4<r.length:=by omega
    simp only [go_sem,CG,q0,q5,q6,hil,ci,↓hrL,↓hsn,hrn,b1,e2,Wa]
    exact h1 rfl _ q0 q3 q5
 .refine ⟨G',false,fr,λh=>(by cases h),λd kx e x q0 q3 q5 q6 _ h2=>?_⟩
  exact z d kx fuel e x (by omega) ⟨q0,q3,q5,q6⟩ λe' q2=>h2 rfl e' q2
theorem GY (T:aG t) (hc:bg t) (F:bX pk unpk) (hp:t 123=some (.nat (eD pk))) {G0:Heap} {lv:V} {rs:List (List Nat)} {vp:Nat} (hl:FB H lv rs) (h0:SJ pk H G0 vp) (hfu:1000000<fuel):
 ∃ G' ok,ae H G'/\(ok=true->SJ pk H G' vp)/\∀ (d:Nat) (kx:Nat->KE) (e:Env) (x:R),aa s000 e=lv->aa s003 e = .ptr vp 0->aa s005 e = .int 3 0->
  (ok=true->∀ e',aa s003 e' = .ptr vp 0->kx 1 e' G'=x)->(ok=false->∀ e',aa s002 e' = .jk->kx 0 e' G'=x)->jF As fuel (aQ (aO Tryz.prog) t fuel (d+9)) kx fuel e G0=x:=by
 have hn:=hl.1
 have run:=iI (c:=As) (fuel:=fuel) (ph:=λd=>aQ (aO Tryz.prog) t fuel (d+9)) (σ:=Unit) (τ:=Unit) (n:=min rs.length 10)
  (I:=λi _ G=>SJ pk H G vp)
  (S:=λi _ e=>aa s000 e=lv/\aa s003 e = .ptr vp 0/\aa s005 e = .int 3 i)
  (J:=λ_ G=>ae H G) (Q:=λ_ e=>aa s002 e = .jk) (j:=λ_=>0) (λi _ G hin hS=>by
   have hil:i<rs.length:=by omega
   have hi10:i<10:=by omega
   have hri:rs[i]? = some rs[i]:=YB hil
   have ci:i<9223372036854775808:=by omega
   have ni:nn i:=by unfold nn;omega
   have e1:(i+1)%18446744073709551616=i+1:=by omega
   have e2:i%18446744073709551616=i:=by omega
   have e3:(1+i/3)%18446744073709551616=1+i/3:=by omega
   have e4:(1+i%3)%18446744073709551616=1+i%3:=by omega
   have hsn:=λ{id:Nat} {f:Nat->R}=>(let ⟨_,xs,h,_⟩:=hl;h.sn (id:=id) (f:=f):bh id lv (λ_ _ len _ _=>f len) (f 0)=f rs.length)
   have rm:∀ {id:Nat} {f:Nat->R},iS id (.rem 18446744073709551616) i 3 f=f (i%3):=λ{id f}=>uN (by omega) (by omega) (by omega)
   have rq:∀ {id:Nat} {f:Nat->R},iS id (.quo 18446744073709551616) i 3 f=f (i/3):=λ{id f}=>FN (by omega) (by omega) (by omega)
   obtain ⟨G1,ok,fr1,hok,z1⟩:=GX (fuel:=fuel) T hc F hp hl hri hS hfu
   rcases ok with _|_
   .refine YD ⟨(),G1,fr1,λd kx rr e x ⟨q0,q3,q5⟩ hk=>?_⟩
    rw [ak]
    simp only [go_sem,ZE,As,q0,q3,q5,↓hsn,hn,hil,hi10,ni]
    refine z1 d _ _ x ?_ ?_ ?_ ?_ (λh=>by cases h) λ_ e' q2=>?_
    all_goals first|(simp only [go_sem,q0,q3,q5];done)|skip
    simp only [go_sem]
    exact hk _ q2
   .obtain ⟨dp,A,O,m,vl,vs,vi,a,kk,us,S,I,hf,fr,own,hM⟩:=hok rfl
    obtain ⟨G2,z2o,f2⟩:=Dv (cp:=aO Tryz.prog) (fuel:=fuel) (a:=1+i/3) (b:=1+i%3) T fr.wf
    have z2:=λ{d:Nat} {k:K}=>z2o (d+8) k
    clear z2o
    obtain ⟨G3,O3,E,z3o,s3,hE⟩:=Zj (g:=(1+i/3,1+i%3)) T hc F hp (S.fresh f2) I hf ⟨by show 1+i/3<18446744073709551616;omega,by show 1+i%3<18446744073709551616;omega⟩ hfu
    have z3:=λ{d:Nat} {k:K}=>z3o d k
    clear z3o
    simp only [bq]at z3
    obtain ⟨fr3,own3⟩:=(fr.trans f2).own s3 own
    by_cases h0:E=0
    .obtain ⟨A',m',vl',vs',vi',a',n',us',S',I',hf',hX⟩:=hE h0
     subst h0
     refine YG ⟨(),G3,⟨dp,A',O3,m',vl',vs',vi',a',n',us',S',I',hf',fr3,own3,hX _ (λb hb=>YE hb (fr.trans f2).n) (hM.fresh f2)⟩,λd kx rr e x ⟨q0,q3,q5⟩ hk=>?_⟩
     rw [ak]
     simp only [go_sem,ZE,As,q0,q3,q5,↓hsn,hn,hil,hi10,ni]
     refine z1 d _ _ x ?_ ?_ ?_ ?_ (λ_ e' q0 q3 q5=>?_) λh=>by cases h
     all_goals first|(simp only [go_sem,q0,q3,q5];done)|skip
     simp only [go_sem,q3,q5,e1,e2,e3,e4,↓rm,↓rq,↓z2,↓z3]
     exact hk _ (by simp only [go_sem,q0,q3,and_self])
    .refine YD ⟨(),G3,fr3,λd kx rr e x ⟨q0,q3,q5⟩ hk=>?_⟩
     rw [ak]
     simp only [go_sem,ZE,As,q0,q3,q5,↓hsn,hn,hil,hi10,ni]
     refine z1 d _ _ x ?_ ?_ ?_ ?_ (λ_ e' q0 q3 q5=>?_) λh=>by cases h
     all_goals first|(simp only [go_sem,q0,q3,q5];done)|skip
     simp only [go_sem,q3,q5,e2,e3,e4,↓rm,↓rq,↓z2,↓z3,h0]
     exact hk _ rfl) (min rs.length 10) 0 () G0 (by omega) h0
 rcases run with ⟨_,G',hS,z⟩|⟨_,G',fr,z⟩
 .have hS':=hS
  obtain ⟨dp,A,O,m,vl,vs,vi,a,kk,us,S,I,hf,fr,own,hM⟩:=hS'
  refine ⟨G',true,fr,λ_=>hS,λd kx e x q0 q3 q5 h1 _=>?_⟩
  refine z d kx fuel e x (by omega) ⟨q0,q3,q5⟩ λrr e' ⟨q0,q3,q5⟩=>?_
  have hsn:=λ{id:Nat} {f:Nat->R}=>(let ⟨_,xs,h,_⟩:=hl;h.sn (id:=id) (f:=f):bh id lv (λ_ _ len _ _=>f len) (f 0)=f rs.length)
  have b1:nn (min rs.length 10):=by unfold nn;omega
  rw [ak]
  by_cases h30:rs.length<10
  .have e1:min rs.length 10=rs.length:=by omega
   have e2:¬ rs.length<rs.length:=Wa _
   rw [e1]at q5 b1
   simp only [go_sem,As,q0,q5,↓hsn,hn,b1,e2]
   exact h1 rfl _ q3
  .have e1:min rs.length 10=10:=by omega
   rw [e1]at q5 b1
   by_cases h31:rs.length=10
   .have e2:¬ 10<rs.length:=by omega
    simp only [go_sem,As,q0,q5,↓hsn,hn,b1,e2]
    exact h1 rfl _ q3
   .have e2:10<rs.length:=by omega
    simp only [go_sem,As,q0,q5,↓hsn,hn,b1,e2,Wa]
    exact h1 rfl _ q3
 .refine ⟨G',false,fr,λh=>(by cases h),λd kx e x q0 q3 q5 _ h2=>?_⟩
  exact z d kx fuel e x (by omega) ⟨q0,q3,q5⟩ λe' q2=>h2 rfl e' q2
theorem DU (T:aG t) (hc:bg t) (F:bX pk unpk) (hp:t 123=some (.nat (eD pk))) (hu:t 89=some (.nat (fC unpk))) (hw:H.wf) {lv:V} {rs:List (List Nat)} (hl:FB H lv rs) (hfu:1000000<fuel):
 ∃ H' v,(∀ (d:Nat) (k:K),aj (aQ (aO Tryz.prog) t fuel (d+12)) (.func 12 []) [lv] H k=k v H')/\ae H H'/\(v = .jk\/∃ vp,v = .ptr vp 0/\SJ pk H H' vp):=by
 obtain ⟨G1,A,a,kk,us,dp,vp,O,vl,vs,vi,z1o,f1,S,I,hf,own,hM⟩:=yk (fuel:=fuel) T hc F hp hu hw hfu
 have z1:=λ{d:Nat} {k:K}=>z1o d k
 clear z1o
 obtain ⟨G2,ok,fr,hok,z2⟩:=GY (fuel:=fuel) T hc F hp hl ⟨dp,A,O,mz 3,vl,vs,vi,a,kk,us,S,I,hf,f1,own,hM⟩ hfu
 have j0:=λ{id:Nat} {k:R}=>aI (let ⟨_,xs,h,_⟩:=hl;h.one) (id:=id) (k:=k)
 refine ⟨G2,if ok then .ptr vp 0 else .jk,λd k=>?_,fr,?_⟩
 .rw [aR T.k6 rfl rfl]
  have z1':=λ{k:K}=>z1 (d:=d+1) (k:=k)
  simp only [go_sem,c6,aaR,aaS,↓z1']
  refine z2 (d+2) _ _ _ ?_ ?_ ?_ (λh e' q3=>?_) λh e' q2=>?_
  all_goals first|(simp only [go_sem];done)|skip
  .subst h
   simp only [go_sem,aaT,aaU,q3]
  .subst h
   simp only [go_sem,q2,Bool.false_eq_true]
 .rcases ok with _|_
  .exact YG rfl
  .exact YD ⟨vp,rfl,hok rfl⟩
end
end Go.Ev
end
section
namespace Go.Ev
open Go.Proofs
variable {cp:RC->ai} {t:Nat->Option cF} {fuel:Nat} {H:Heap}
theorem tT (T:aG t) {O:Nat->Prop} {n:Nat} {v:V} {row:List V} (hw:H.wf) (h:Row H O v 2 n row) (hn:n<1000000):
 ∃ H' v',(∀ (d:Nat) (k:K),aj (aQ cp t fuel (d+1)) (.func 116 []) [v] H k=k v' H')/\ae H H'/\Own H H' v' 2 n row:=sW T.k58 hw h hn
theorem Ei (T:aG t) {O:Nat->Prop} {n ep bf:Nat} {ls:Bool} {v:V} {row:List V} (hw:H.wf) (h:Row H O v 2 n row) (hO:∀ b,O b->b<H.n) (hn:n<1000000):
 ∃ H' v',(∀ (d:Nat) (k:K),aj (aQ cp t fuel (d+2)) (.func 46 []) [.agg [.int 7 ep,.int 3 bf,.bool ls,v]] H k=k (.agg [.int 7 ep,.int 3 bf,.bool ls,v']) H')/\ae H H'/\Own H H' v' 2 n row:=by
 obtain ⟨G1,hG1,f1,p1,n1⟩:=Heap.aU hw (.cells [.int 7 ep,.int 3 bf,.bool ls,v])
 have w1:=f1.wf
 obtain ⟨G2,hG2,f2,p2,n2⟩:=Heap.aU w1 (.cells [.int 7 0,.int 3 0,.bool false,.aB])
 have w2:=f2.wf
 have q1:G2.get H.n = .cells [.int 7 ep,.int 3 bf,.bool ls,v]:=(f2.same _ (by omega)).trans p1
 obtain ⟨G3,v',z3o,f3,o3⟩:=tT (cp:=cp) (fuel:=fuel) T w2 ((h.fresh f1).fresh f2) hn
 have z3:=λ{d:Nat} {k:K}=>z3o d k
 have m3:=f3.n
 have q3:G3.get H.n = .cells [.int 7 ep,.int 3 bf,.bool ls,v]:=(f3.same _ (by omega)).trans q1
 have w3:=f3.wf
 have b3:H.n<G3.n:=by omega
 obtain ⟨G4,hG4,f4,p4,n4,w4,k4⟩:=Heap.bd (b:=H.n) (f1.trans (f2.trans f3)) (YA _) b3 (.cells [.int 7 ep,.int 3 bf,.bool ls,v'])
 have q4:G4.get G1.n = .cells [.int 7 0,.int 3 0,.bool false,.aB]:=(k4 _ (by omega)).trans ((f3.same _ (by omega)).trans p2)
 have b4:G1.n<G4.n:=by omega
 obtain ⟨G5,hG5,f5,p5,n5,w5,k5⟩:=Heap.bd (b:=G1.n) f4 (by omega) b4 (.cells [.int 7 ep,.int 3 bf,.bool ls,v'])
 have jv:=λ{id:Nat} {k:R}=>aI h.one (id:=id) (k:=k)
 have jv':=λ{id:Nat} {k:R}=>aI o3.one (id:=id) (k:=k)
 have o2:=o3.sub (H:=H) (by omega)
 have oF:Own H G5 v' 2 n row:=by
  have a:Own G2 G5 v' 2 n row:=(o3.eQ (v:=.slice H.n 0 0 0 0) (by omega) (λj hj ho=>k4 j (ho _ _ _ _ _ rfl)) λb o n c s e b' o' n' c' s' e'=>by cases e';have:=(o3.cO e).1;omega).eQ (v:=.slice G1.n 0 0 0 0) (by omega) (λj hj ho=>k5 j (ho _ _ _ _ _ rfl)) λb o n c s e b' o' n' c' s' e'=>by cases e';have:=(o3.cO e).1;omega
  exact a.sub (by omega)
 refine ⟨G5,v',λd k=>?_,f5,oF⟩
 rw [aR T.k23 rfl rfl]
 simp only [go_sem,c23,↓jv,hw,hG1,w1,hG2,q1,↓z3,↓jv',q3,w3,b3,hG4,p4,q4,w4,b4,hG5,↓dA,p5]
end Go.Ev
end
section
namespace Go.Ev
open Go.Proofs
variable {cp:RC->ai} {t:Nat->Option cF} {fuel:Nat} {H:Heap}
end Go.Ev
end
section
namespace Go.Ev
open Go.Proofs
def Q7 (kind ep bf:Nat) (ls:Bool) (v:V) (len:Nat) (last target:Gd) (next:Nat):List V:=[.int 3 kind,.int 7 0,.int 3 0,.int 7 0,.aB,.int 3 0,.bool false,.int 3 0,.int 3 0,.int 7 ep,.int 3 bf,.bool ls,v,.int 3 len,.int 7 last.1,.int 7 last.2,.int 7 target.1,.int 7 target.2,.int 3 next,.int 7 0,.int 7 0,.int 7 0,.int 7 0,.int 3 0,.int 3 0,.aB]
variable {cp:RC->ai} {t:Nat->Option cF} {fuel:Nat} {H:Heap}
end Go.Ev
end
section
namespace Go.Ev
open Go.Proofs
variable {cp:RC->ai} {t:Nat->Option cF} {fuel:Nat} {H:Heap}
end Go.Ev
end
section
namespace Go.Ev
open Go.Proofs
variable {cp:RC->ai} {t:Nat->Option cF} {fuel:Nat} {H:Heap}
end Go.Ev
end
section
namespace Go.Ev
open Go.Proofs
variable {cp:RC->ai} {t:Nat->Option cF} {fuel:Nat} {H:Heap}
end Go.Ev
end
section
namespace Go.Ev
open Go.Proofs
section
variable {t:Nat->Option cF} {fuel:Nat} {H:Heap} {cp:RC->ai}
end
end Go.Ev
end
section
namespace Go.Ev
open Go.Proofs
section
variable {t:Nat->Option cF} {fuel:Nat} {H:Heap} {cp:RC->ai}
end
end Go.Ev
end
section
namespace Go.Ev
open Go.Proofs
theorem VP.dm {H G:Heap} {dp vp a n:Nat} {A:AD} {O Q Q':Nat->Prop} {m:MT} {vl vs vi:V} (S:VP H dp vp a n A O m vl vs vi) (s:Step H Q G Q') (hq:∀ b,bM O vp b->¬ Q b) (hm:gj G (bM O vp) m vl vs vi):VP G dp vp a n A O m vl vs vi:=
 ⟨(S.jh.dm s λb hb=>hq b (YG hb)).1,S.off,S.can,S.lo,S.hi,(s.same vp S.vn (hq vp (YD rfl))).1.trans S.get,YE S.vn s.n,S.vo,hm,S.ok⟩
section
variable {H G G':Heap} {dp vp a n dq vq b k:Nat} {A B:AD} {O Q:Nat->Prop} {m w:MT} {vl vs vi wl ws wi:V}
theorem Uc {O:Nat->Prop} {sz:Nat}:Row G O .aB sz 0 []:=⟨by simp,λx hx=>(by cases hx),YG ⟨YG rfl,rfl⟩⟩
end
end Go.Ev
end
section
namespace Go.Ev
open Go.Proofs
section
variable {H G G':Heap} {dp vp a n dq vq b k:Nat} {A B:AD} {O Q:Nat->Prop} {m w:MT} {vl vs vi wl ws wi:V} {cp:RC->ai} {t:Nat->Option cF} {fuel:Nat}
end
end Go.Ev
end
section
namespace Go.Ev
open Go.Proofs
noncomputable def D0 (args:List V) (H:Heap) (k:K):R:=match args with
 | []=>k (.bool true) H
 | _=>no 0
section
variable {H G G':Heap} {dp vp a n dq vq b k:Nat} {A B:AD} {O Q:Nat->Prop} {m w:MT} {vl vs vi wl ws wi:V} {cp:RC->ai} {t:Nat->Option cF} {fuel:Nat}
theorem Ca (hwk:t 7=some (.nat D0)) (d:Nat) (k:K) (G:Heap):aj (aQ cp t fuel (d+1)) (.func 14 []) [] G k=k (.bool true) G:=by
 rw [lO hwk rfl rfl]
 rfl
end
end Go.Ev
end
section
namespace Go.Ev
open Go.Proofs
section
variable {t:Nat->Option cF} {fuel:Nat} {H:Heap} {pk:List UInt8->List (List UInt8)} {unpk:List (List UInt8)->Option (List UInt8)}
end
end Go.Ev
end
section
namespace Go.Ev
open Go.Deep Go.ChangeShapes Go.WideShapes Go.RowKit
theorem Iw {n:Int}:(n%(2 ^ IntKind.u8.bits:Nat)).toNat<256:=by
 have h1:(0:Int)<=n%(2 ^ IntKind.u8.bits:Nat):=Int.emod_nonneg _ (by simp [IntKind.bits])
 have h2:n%(2 ^ IntKind.u8.bits:Nat)<(2 ^ IntKind.u8.bits:Nat):=Int.emod_lt_of_pos _ (by omega)
 simp only [IntKind.bits]at h1 h2 ⊢
 omega
theorem Pj {w:World} {b o len c:Nat} {row:List V} {v:V} {α:Type} {f:α->V} {p:Nat->α} (hl0:0<len) (hv:v = .slice b o len c 0) (hb:isRow ((dQ w).get b) row) (hbn:b<(dQ w).n) (h1:∀ i,i<len->(f (p i)).one=true) (hp:∀ i,i<len->row[o+i]? = some (f (p i))):
 Row (dQ w) (λ_=>False) v 1 len (((WT len).map p).map f):=by
 have hlast:=(YX.1 (hp (len-1) (by omega))).1
 refine ⟨by simp,λx hx=>?_,YD ⟨b,o,c,0,row,hv,hb,hbn,λh=>h,by omega,List.ext_getElem? λk=>?_⟩⟩
 .obtain ⟨y,hy,rfl⟩:=Yc.1 hx
  obtain ⟨i,hi,rfl⟩:=Yc.1 hy
  exact h1 i (QI.1 hi)
 .rw [List.getElem?_take,WO]
  by_cases hk:k<len
  .rw [if_pos hk,List.getElem?_drop,hp k hk,Yj,Yj,List.getElem?_range hk]
   rfl
  .rw [if_neg hk,List.getElem?_eq_none (by simp;omega)]
section
variable {H:Type} {enc:TypeId × Value->H} {P:Program} {w:World}
theorem Us {t e:TypeId} {fuel:Nat} {v:Value} {x:DataW H × List MemPlace} (ht:P.underlying t=some (.slice e)) (hz:P.cellsOf e=1) (he:P.underlying e=some (.int .u8)) (h:DataW.trod enc P w 0 (λ_=>true) true fuel t [v]=some x) (hnf:w.noneFrozen x.2):
 ∃ l:List Nat,l.length<9223372036854775808/\(∀ q ∈ l,q<256)/\Row (dQ w) (λ_=>False) (qt w.heap.size v) 1 l.length (l.map (V.int 4)):=by
 obtain ⟨h1,h2⟩:=qX ht hz (by omega) h hnf (λ_ _ _ _ _ hb=>(show False from hb).elim)
 rcases h2 with h2|⟨b,o,len,c,row,hl0,hl,hv,hb,hbn,hx⟩
 .exact ⟨[],by simp,λx hx=>(by cases hx),⟨rfl,λx hx=>(by cases hx),YG ⟨h2,rfl⟩⟩⟩
 have each:∀ i,i<len->∃ p:Nat,row[o+i]? = some (.int 4 p)/\p<256:=λi hi=>by
  obtain ⟨cs,n,y,hlen,hcs,htr,_⟩:=hx i hi
  match cs,hlen with
  | [v0],_=>
   obtain ⟨a,e0,_,x0⟩:=DataW.trod_int he htr
   cases e0
   have:=hcs 0 _ rfl
   rw [WO,WD,BY x0]at this
   exact ⟨_,this,Iw⟩
 obtain ⟨p,hp⟩:=choose_lt each
 refine ⟨(WT len).map p,by rw [WB,Wx];omega,λq hq=>?_,?_⟩
 .obtain ⟨i,hi,rfl⟩:=Yc.1 hq
  exact (hp i (QI.1 hi)).2
 .rw [WB,Wx]
  exact Pj (f:=V.int 4) hl0 hv (YD hb) hbn (λ_ _=>rfl) λi hi=>(hp i hi).1
theorem Ud {t e g:TypeId} {fuel:Nat} {v:Value} {x:DataW H × List MemPlace} (ht:P.underlying t=some (.slice e)) (hz:P.cellsOf e=1) (he:P.underlying e=some (.slice g)) (hg:P.cellsOf g=1) (hu:P.underlying g=some (.int .u8)) (h:DataW.trod enc P w 0 (λ_=>true) true fuel t [v]=some x) (hnf:w.noneFrozen x.2):
 (qt w.heap.size v).one=true/\∃ rs,FB (dQ w) (qt w.heap.size v) rs:=by
 obtain ⟨h1,h2⟩:=qX ht hz (by omega) h hnf (λ_ _ _ _ _ hb=>(show False from hb).elim)
 refine ⟨h1,?_⟩
 rcases h2 with h2|⟨b,o,len,c,row,hl0,hl,hv,hb,hbn,hx⟩
 .exact ⟨[],by simp,[],⟨rfl,λx hx=>(by cases hx),YG ⟨h2,rfl⟩⟩,λi r hr=>by simp at hr⟩
 have each:∀ i,i<len->∃ p:V × List Nat,row[o+i]? = some p.1/\p.2.length<9223372036854775808/\(∀ q ∈ p.2,q<256)/\Row (dQ w) (λ_=>False) p.1 1 p.2.length (p.2.map (V.int 4)):=λi hi=>by
  obtain ⟨cs,n,y,hlen,hcs,htr,hnf'⟩:=hx i hi
  match cs,hlen with
  | [v0],_=>
   obtain ⟨l,g1,g2,g3⟩:=Us he hg hu htr hnf'
   have:=hcs 0 _ rfl
   rw [WO,WD]at this
   exact ⟨(_,l),this,g1,g2,g3⟩
 have:Inhabited V:=⟨.aB⟩
 obtain ⟨p,hp⟩:=choose_lt each
 refine ⟨(WT len).map λi=>(p i).2,by rw [WB,Wx];omega,((WT len).map p).map (·.1),?_,λi r hr=>?_⟩
 .rw [WB,Wx]
  exact Pj (f:=λq:V × List Nat=>q.1) hl0 hv (YD hb) hbn (λi hi=>(hp i hi).2.2.2.one) λi hi=>(hp i hi).1
 .rw [Yj]at hr
  obtain ⟨j,h3,rfl⟩:=Option.map_eq_some_iff.1 hr
  obtain ⟨h4,h5⟩:=YX.1 h3
  rw [List.getElem_range]at h5
  subst h5
  rw [Wx]at h4
  obtain ⟨g0,g1,g2,g3⟩:=hp i h4
  exact ⟨g1,g2,(p i).1,by rw [Yj,Yj,h3];rfl,g3⟩
end
end Go.Ev
end

