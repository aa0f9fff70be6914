/- VL: a part of the evaluator,of its logic,or of the laws' walk in it. -/
import Derived.Test.YtalmhjlkdhlbiaaGreatDoorVC
import Derived.Test.YtalmhjlkdhlbiaaGreatDoorLC
import Derived.OpenShut
open Nat renaming le_refl → YA,lt_of_lt_of_le → YC,zero_le → Yk,le_trans → Ym,zero_add → WG,add_zero → WI,mul_one → WN,zero_mul → Wm,lt_irrefl → Qb,add_sub_cancel → YA3,lt_succ_self → YC2,zero_lt_succ → YN1
open List renaming getElem?_eq_getElem → YB,length_append → YD,mem_cons_of_mem → YH,mem_cons_self → YI,getD_eq_getElem?_getD → YJ,nil_append → YN,mem_singleton → YO,cons_append → YP,mem_cons → YT,getElem?_eq_some_iff → Ya,getElem_mem → Yb,mem_map → Ye,getElem?_map → Yh,length_map → Yl,mem_append → Yt,range → WT,length_drop → Wn,length_range → QJ,mem_range → QR
open Or renaming inr → YE,inl → YG
open Bool renaming false_eq_true → YU,not_true → Wq,true_eq_false → QQ
open Eq renaming trans → YV
open Option renaming getD_some → Yn
set_option linter.unusedVariables false
set_option linter.unusedSimpArgs false
set_option linter.unusedSectionVars false
set_option maxHeartbeats 8000000
open Nat renaming reduceAdd→ZA,reduceSub→ZB,reduceMul→ZC,reduceEqDiff→ZD,reduceLT→ZE,reduceDiv→ZF,reduceMod→ZG,reduceLeDiff→ZH
section
namespace Go.Ev
variable {cp:RC->aq} {t:Nat->Option cW} {fuel:Nat} {H:Heap} {pk:List UInt8->List (List UInt8)} {unpk:List (List UInt8)->Option (List UInt8)}
theorem wS (T:aJ t) {c:Nat} (hw:H.wf) (hc:c<256) (hfu:1000<fuel):
 ∃ H',(∀ (d:Nat) (k:K),aj (aQ cp t fuel (d+1)) (.func 42 []) [.int 4 c] H k=k (.str 32 (enc (ia c 32))) H')/\ae H H':=by
 obtain ⟨G1,hG1,f1,p1,n1⟩:=Heap.aP hw (.bytes 32 0)
 have n32:nn 32:=by unfold nn;omega
 obtain ⟨_,G',⟨f',g',n'⟩,z⟩:=bV (c:=It) (fuel:=fuel) (ph:=λd=>aQ cp t fuel d) (σ:=Unit) (n:=32)
  (I:=λi _ G=>ae H G/\G.get H.n = .bytes 32 (enc (ia c i))/\H.n<G.n)
  (S:=λi _ e=>aa s000 e = .int 4 c/\aa s003 e = .slice H.n 0 32 33 0/\aa s004 e = .int 3 i) (λi _ G hil ⟨f,g,hn⟩=>by
   have hx:=KF (c:=c) (i:=i) (by omega)
   have w0:=f.wf
   obtain ⟨G2,hG2,f2,p2,n2,w2,k2⟩:=Heap.aU (b:=H.n) f (YA _) hn (.bytes 32 (enc (ia c (i+1))))
   have a1:nn i:=by unfold nn;omega
   have a2:i<9223372036854775808:=by omega
   have a3:(i+1)%18446744073709551616=i+1:=by omega
   have a4:i+1<=32:=by omega
   refine ⟨(),G2,⟨f2,p2,by omega⟩,λd kx r e x ⟨q0,q3,q4⟩ hk=>?_⟩
   rw [ax]
   simp only [go_sem,ZE,It,q0,q3,q4,hil,n32,a1,a2,a3,a4,g,hx,w0,hn,hG2]
   exact hk _ (by simp only [go_sem,q0,q3,and_self])) 32 0 () G1 (by omega) ⟨f1,p1,by omega⟩
 refine ⟨G',λd k=>?_,f'⟩
 have e6:¬ (32:Nat)<32:=by omega
 have e8:enc (ia c 32)%256 ^ 32=enc (ia c 32):=Nat.mod_eq_of_lt (UT c)
 have e9:(32:Nat)<=32:=by omega
 rw [aR T.k21 rfl rfl]
 simp only [go_sem,c21,hw,hG1]
 refine z d _ fuel _ _ (by omega) ⟨?_,?_,?_⟩ λr e' ⟨q0,q3,q4⟩=>?_
 .rfl
 .rfl
 .rfl
 rw [ax]
 simp only [go_sem,ZE,It,q3,q4,n32,e6,g',Nat.shiftRight_zero,e8,e9]
theorem uf (T:aJ t) {a b:Nat} (hw:H.wf):
 ∃ H',(∀ (d:Nat) (k:K),aj (aQ cp t fuel (d+1)) (.func 26 []) [.int 7 a,.int 7 b] H k=k (.agg [.int 7 a,.int 7 b]) H')/\ae H H':=by
 obtain ⟨G1,hG1,f1,p1,n1⟩:=Heap.aP hw (.cells [.int 7 0,.int 7 0])
 have w1:=f1.wf
 have b1:H.n<G1.n:=by omega
 obtain ⟨G2,hG2,f2,p2,n2,w2,k2⟩:=Heap.aU (b:=H.n) f1 (YA _) b1 (.cells [.int 7 a,.int 7 b])
 refine ⟨G2,λd k=>?_,f2⟩
 rw [aR T.k13 rfl rfl]
 simp only [go_sem,c13,hw,hG1,p1,w1,b1,hG2,↓ev,p2]
end Go.Ev
end
section
namespace Go.Ev
open Go.Proofs
def okV (x:Tx):Prop:=x.1=32/\ur x
def VT (A:AD) (m:MT):Prop:=∀ l ∈ dY m,∀ q ∈ l,okV (dI A q)
structure VJ (pk:List UInt8->List (List UInt8)) (A:AD) (a n:Nat) (us:List Wr) (m:MT) (nb:Nat):Prop where
 jd:JD pk A a n us
 lo:193<=A.len
 hi:A.len<=1024
 room:A.len<=A.room
 lb:m.live.length=nb
 ok:iL m nb A.len
 Jc:nE m
 tab:Lr A (pk (nums (mZ m)))
 vt:VT A m
 tk:m.tok=xG
structure Im (A:AD) (m:MT) (o:B3) (nb:Nat):Prop where
 ok:iL o.m1 nb A.len
 Jc:nE o.m1
 lb:o.m1.live.length=nb
 bw:∀ w ∈ o.bw,193<=w.1/\w.1<A.len/\w.2.1=32/\ur w.2/\∀ l ∈ dY m,w.1 ∉ l
 nd:(o.bw.map (·.1)).Nodup
 len:o.bw.length<=12
 vt:∀ A':AD,(∀ w ∈ o.bw,A'.read w.1=w.2)->(∀ l ∈ dY m,∀ q ∈ l,dI A' q=dI A q)->VT A' o.m1
 tk:o.m1.tok=xG
section
variable {pk:List UInt8->List (List UInt8)} {unpk:List (List UInt8)->Option (List UInt8)} {A:AD} {a n nb:Nat} {us:List Wr} {m:MT}
theorem Im.done (F:cT pk unpk) {o:B3} (I:VJ pk A a n us m nb) (hf:A.bh=0) (G:Im A m o nb):
 (uM pk A a o.m1 o.bw).2=0/\(uM pk A a o.m1 o.bw).1.bh=0/\(uM pk A a o.m1 o.bw).1.len=A.len/\(uM pk A a o.m1 o.bw).1.room=A.room/\∃ a' n' us',VJ pk (uM pk A a o.m1 o.bw).1 a' n' us' o.m1 nb:=by
 obtain ⟨h1,h2,h3,h4,h5⟩:=JH F I.lo I.hi G.ok G.lb (λw hw=>let ⟨a1,a2,a3,a4,_⟩:=G.bw w hw; ⟨a1,a2,a3,a4⟩) G.nd G.len
 have hR:uM pk A a o.m1 o.bw=A.eH pk a (Q9 pk A o.m1 o.bw):=by unfold uM;rw [if_pos h1]
 rw [hR]
 have hcode:=I.jd.code F hf I.room h4
 have hdid:=I.jd.eH F hf h4
 have h0:(A.eH pk a (Q9 pk A o.m1 o.bw)).2=0:=by
  rw [hcode];unfold Ev.code
  split
  .rfl
  .rw [if_neg (by omega),if_neg (by rw [h3];simp)]
 obtain ⟨a',n',us',J'⟩:=hdid.jd
 have hC:=h5.congr (λk hk=>(hdid.yes h0).1 k hk) λw hw=>(G.bw w hw).1
 refine ⟨h0,hdid.bh,hdid.len,hdid.room,a',n',us',J',by rw [hdid.len];exact I.lo,by rw [hdid.len];exact I.hi,by rw [hdid.len,hdid.room];exact I.room,G.lb,by rw [hdid.len];exact G.ok,G.Jc,⟨λi hi=>hC.tab i hi⟩,G.vt _ (λw hw=>hC.wr w hw) (λl hlm q hq=>?_),G.tk⟩
 unfold dI
 rcases I.ok.pl l hlm q hq with rfl|⟨h1,h2⟩
 .rw [if_pos rfl,if_pos rfl]
 .rw [if_neg (by omega),if_neg (by omega)]
  exact hC.other q h1 λhk=>by
   obtain ⟨w,hw,rfl⟩:=Ye.1 hk
   exact (G.bw w hw).2.2.2.2 l hlm hq
theorem ES (I:VJ pk A a n us m nb) {b:Nat} {d:Tx} (hb:b<nb) (hd:d.1=32) (hk:ur d) (hr:¬ lG m A.len b d):Im A m ⟨0,Ll m A.len b d,Lp m A.len b d⟩ nb:=by
 have P:eo m A.len [(b,d)]:=⟨hr,λc hc=>by rw [YO.1 hc];exact ⟨hd,hk⟩⟩
 have ch:=qm.one hb hd hk
 have hi:=vB I.ok.live (YG (YI ..)) P ch
 have ok1:iL (Ll m A.len b d) nb A.len:=⟨hi,I.ok.num,I.ok.ah,I.ok.tok⟩
 refine ⟨ok1,ok1.nE I.hi (λs hs=>jG I.Jc s hs) I.Jc.tok.1 I.Jc.tok.2.1,hi.len,λw hw=>P.w hw,P.nodup,Ym eo.len (by show 1<=12;omega),λA' hA hf l hl q hq=>?_,I.tk⟩
 rcases YT.1 hl with rfl|hl
 .have hm:=rI (l:=m.live) P (⟨λc hc=>⟨YC (ch.lt c hc).1 I.ok.live.hi,(ch.lt c hc).2⟩,ch.up⟩:qm [(b,d)] 8) hA (YA _)
  have hv:dI A' q ∈ (ic m.live [(b,d)] (pA m A.len [(b,d)]) [(b,d)].length).map (dI A'):=Ye.2 ⟨q,hq,rfl⟩
  rw [hm]at hv
  rcases List.mem_or_eq_of_mem_set (show dI A' q ∈ (m.live.map (dI A')).set b d from hv) with hv|hv
  .obtain ⟨q',hq',e⟩:=Ye.1 hv
   rw [<- e,hf _ (YI ..) q' hq']
   exact I.vt _ (YI ..) q' hq'
  .rw [hv]
   exact ⟨hd,hk⟩
 .rw [hf l (YH _ hl) q hq]
  exact I.vt l (YH _ hl) q hq
theorem HG (I:VJ pk A a n us m nb) {g:Gd} (hg:mg g) (ha:bS g (cg m).g=true) (h20:m.ah.length<20):Im A m ⟨0,Rc m g,[]⟩ nb:=by
 have ok1:iL (Rc m g) nb A.len:=⟨I.ok.live,by show (m.ah ++ [_]).length<=20;rw [YD];show m.ah.length+1<=20;omega,I.ok.ah.snoc (by rw [<- vC];exact pC.2 ha) I.ok.live,ED _ _ _⟩
 refine ⟨ok1,ok1.nE I.hi (λs hs=>(Yt.1 hs).elim (jG I.Jc s) λh=>by rw [YO.1 h];exact hg) qR.1 qR.2.1,I.lb,λw hw=>(by cases hw),List.nodup_nil,Yk _,λA' _ hf l hl q hq=>?_,rfl⟩
 rcases YT.1 hl with rfl|hl
 .rw [hf _ (YI ..) q hq]
  exact I.vt _ (YI ..) q hq
 rcases YT.1 hl with rfl|hl
 .cases hq
 .obtain ⟨s,hs,rfl⟩:=Ye.1 hl
  rcases Yt.1 (show s ∈ m.ah ++ [⟨g,m.live,false⟩] from hs) with hs|hs
  .have hm:s.cz ∈ dY m:=YH _ (YH _ (Ye.2 ⟨s,hs,rfl⟩))
   rw [hf _ hm q hq]
   exact I.vt _ hm q hq
  .rw [YO.1 hs]at hq
   rw [hf _ (YI ..) q hq]
   exact I.vt _ (YI ..) q hq
end
section
variable {t:Nat->Option cW} {fuel:Nat} {H:Heap} {pk:List UInt8->List (List UInt8)} {unpk:List (List UInt8)->Option (List UInt8)}
variable {dp vp a n nb:Nat} {A:AD} {O:Nat->Prop} {m:MT} {vl vs vi:V} {us:List Wr}
theorem TZ (T:aJ t) (hc:aY t) (F:cT pk unpk) (hp:t 123=some (.nat (fN pk))) (S:VP H dp vp a n A O m vl vs vi) (I:VJ pk A a n us m nb) (hf:A.bh=0) {b l:Nat} (hb:b<1000000) (hfu:1000000<fuel):
 ∃ H' O' E,(∀ (d:Nat) (k:K),aj (aQ (aZ Tryz.prog) t fuel (d+9)) (.func 40 []) [.ptr vp 0,.int 3 b,.str 32 (enc (ia l 32))] H k=k (.int 3 E) H')/\Step H (bH O vp) H' (bH O' vp)/\(E=0->∃ A' m' vl' vs' vi' a' n' us',VP H' dp vp a' n' A' O' m' vl' vs' vi'/\VJ pk A' a' n' us' m' nb/\A'.bh=0/\∀ X:Nat->Prop,(∀ b,X b->b<H.n)->jk H (λb=>X b\/bH O vp b) m vl vs vi->jk H' (λb=>X b\/bH O' vp b) m' vl' vs' vi'):=by
 obtain ⟨H',O',z,hd⟩:=EP (fuel:=fuel) (block:=b) (data:=ia l 32) T hc F hp S (by omega) (by rw [fC];omega) (λl hl a ha h0=>(I.ok.pl l hl a ha).resolve_left h0) (SD S.ok) (λ_=>XL S.ok S.hi) hfu
 have hmay:rP m b (ia l 32)=decide (b<nb):=by unfold rP;rw [fC,I.lb];simp
 rw [hmay,aaG]at z hd
 simp only [tv,fC]at z
 refine ⟨H',O',_,z,hd.1,λhE=>?_⟩
 by_cases h1:b<nb
 .by_cases h2:lG m A.len b (dT l)
  .simp [h1,h2]at hE
  .obtain ⟨g1,g2,g3,g4,a',n',us',I'⟩:=(ES I h1 rfl (UT l) h2).done F I hf
   obtain ⟨-,D,ho,hn,vl',vs',vi',hg,hM,hX⟩:=hd
   simp only [h1,h2,decide_true,QQ,false_or,if_false,Ln,US,g1]at D hg hM hX
   exact ⟨_,_,vl',vs',vi',a',n',us',⟨D,I'.jd.off,I'.jd.Eb.can,I'.lo,I'.hi,by simpa using hg,hn,ho,hM,I'.Jc⟩,I',g2,hX⟩
 .simp [h1]at hE
theorem X8 (T:aJ t) (hc:aY t) (F:cT pk unpk) (hp:t 123=some (.nat (fN pk))) (S:VP H dp vp a n A O m vl vs vi) (I:VJ pk A a n us m nb) (hf:A.bh=0) {g:Gd} (hg:mg g) (hfu:1000000<fuel):
 ∃ H' O' E,(∀ (d:Nat) (k:K),aj (aQ (aZ Tryz.prog) t fuel (d+9)) (.func 44 []) [.ptr vp 0,.agg (bu g)] H k=k (.int 3 E) H')/\Step H (bH O vp) H' (bH O' vp)/\(E=0->∃ A' m' vl' vs' vi' a' n' us',VP H' dp vp a' n' A' O' m' vl' vs' vi'/\VJ pk A' a' n' us' m' nb/\A'.bh=0/\∀ X:Nat->Prop,(∀ b,X b->b<H.n)->jk H (λb=>X b\/bH O vp b) m vl vs vi->jk H' (λb=>X b\/bH O' vp b) m' vl' vs' vi'):=by
 have hl:m.ah.length<900:=by have:=I.ok.num;omega
 obtain ⟨H',O',z,hd⟩:=TM T hc F hp S hg hl hfu
 refine ⟨H',O',_,z,hd.1,λhE=>?_⟩
 unfold B3.E snO at hE
 rcases h1:bS g (cg m).g with _|_
 .simp [h1]at hE
 .by_cases h2:20<=m.ah.length
  .simp [h1,h2]at hE
  .obtain ⟨g1,g2,g3,g4,a',n',us',I'⟩:=(HG I hg h1 (by omega)).done F I hf
   obtain ⟨-,D,ho,hn,vl',vs',vi',hgt,hM,hX⟩:=hd
   simp only [B3.A1,B3.M,B3.L,snO,h1,h2,Ln,US,g1,QQ,if_false,ne_eq,not_true_eq_false]at D hgt hM hX
   exact ⟨_,_,vl',vs',vi',a',n',us',⟨D,I'.jd.off,I'.jd.Eb.can,I'.lo,I'.hi,by simpa using hgt,hn,ho,hM,I'.Jc⟩,I',g2,hX⟩
theorem abE (A:AD):VT A (mz 3):=λl hl q hq=>by
 have hq0:q=0:=by
  rcases YT.1 hl with rfl|hl
  .exact (List.mem_replicate.1 hq).2
  rcases YT.1 hl with rfl|hl
  .cases hq
  .cases hl
 subst hq0
 exact ⟨rfl,by show 0<256 ^ 32;omega⟩
theorem yj (T:aJ t) (hc:aY t) (F:cT pk unpk) (hp:t 123=some (.nat (fN pk))) (hu:t 89=some (.nat (fD unpk))) (hw:H.wf) (hfu:1000000<fuel):
 ∃ H' A a k us dp vp O' vl vs vi,(∀ (d:Nat) (k:K),aj (aQ (aZ Tryz.prog) t fuel (d+10)) (.func 28 []) [] H k=k (.cE [.ptr vp 0,.ptr dp 0]) H')/\ae H H'/\VP H' dp vp a k A O' (mz 3) vl vs vi/\VJ pk A a k us (mz 3) 3/\A.bh=0/\(∀ b,bH O' vp b->H.n<=b)/\jk H' (λb=>b<H.n\/bH O' vp b) (mz 3) vl vs vi:=by
 obtain ⟨G1,dp,O1,z1o,D1,f1,o1⟩:=SR (cp:=aZ Tryz.prog) (fuel:=fuel) (n:=300) (r:=300) (T.iP hc) hw (by omega) (by omega) (by unfold nn;omega)
 obtain ⟨G2,A1,O2,z2o,f2,D2,own2,⟨a,k,us,J⟩,q1,q2,q3,hT⟩:=BP (cp:=aZ Tryz.prog) (fuel:=fuel) (b:=3) T hc F hp (by omega) (by omega) (YA 300) (by omega) (by omega) f1 D1 o1 hfu
 obtain ⟨r1,r2,r3,r4,r5,r6⟩:=J.recovered q1
 have hT':Lr (A1.recover k us).1 (pk (nums (mZ (mz 3)))):=⟨λi h=>by rw [AD.read,r6];exact hT.at_ i h⟩
 have ok3:iL (mz 3) 3 (A1.recover k us).1.len:=U6 (by omega) (by omega)
 obtain ⟨H',O',vp,vl,vs,vi,z3o,s,D,g,hn,ho,hv,hM,hX⟩:=Ic (cp:=aZ Tryz.prog) (fuel:=fuel) (m:=mz 3) T hc F hu D2 J.Eb r1 r2.off (by rw [r4];omega) (by rw [r4];omega) (by rw [tm];exact ok3) (Bc (by omega)) hT' hfu
 obtain ⟨f3,own3⟩:=f2.own s own2
 have z1:=λ{d:Nat} {k:K}=>z1o d k
 have z2:=λ{d:Nat} {k:K}=>z2o d k
 have z3:=λ{d:Nat} {k:K}=>z3o d k
 refine ⟨H',(A1.recover k us).1,a,k,us,dp,vp,O',vl,vs,vi,λd k=>?_,f3,⟨D,r2.off,r2.Eb.can,by rw [r4];omega,by rw [r4];omega,g,hn,ho,hM,Bc (by omega)⟩,⟨r2,by rw [r4];omega,by rw [r4];omega,by rw [r4,r5];omega,tm 3,ok3,Bc (by omega),hT',abE _,rfl⟩,r3,λb hb=>hb.elim (own3 b) λe=>by rw [e];exact Ym f2.n hv,hX _ λb hb=>YC hb f2.n⟩
 rw [aR T.k14 rfl rfl]
 simp only [go_sem,c14,Uc,Ud,↓z1,↓z2]
 simp only [go_sem,Ue,Uf,Ug,Uh,↓z3]
end
end Go.Ev
end
section
namespace Go.Ev
open Go.Proofs
def sE (H:Heap) (v:V) (rs:List (List Nat)):Prop:=rs.length<9223372036854775808/\∃ xs:List V,Row H (λ_=>False) v 1 rs.length xs/\∀ (i:Nat) (r:List Nat),rs[i]? = some r->r.length<9223372036854775808/\(∀ q ∈ r,q<256)/\∃ x,xs[i]? = some x/\Row H (λ_=>False) x 1 r.length (r.map (V.int 4))
theorem uX {id half a b:Nat} {f:Nat->R} (ha:a<half) (hb:b<half) (h0:b≠0):iA id (.rem half) a b f=f (a%b):=by
 show aE (Nat.blt a half) (aE (Nat.blt b half) (aE (Nat.beq b 0) (no 0) (av (Nat.mod a b) f)) (no 0)) (no 0)=_
 rw [bF,if_pos (by rw [Nat.blt_eq];exact ha),bF,if_pos (by rw [Nat.blt_eq];exact hb),bF,if_neg (by rw [oz];exact h0),ay]
 rfl
theorem sE.fresh {H G:Heap} {v:V} {rs:List (List Nat)} (h:sE H v rs) (f:ae H G):sE G v rs:=by
 obtain ⟨h0,xs,h1,h2⟩:=h
 exact ⟨h0,xs,h1.fresh f,λi r hr=>let ⟨a,b,x,c,d⟩:=h2 i r hr; ⟨a,b,x,c,d.fresh f⟩⟩
def SJ (pk:List UInt8->List (List UInt8)) (H G:Heap) (vp:Nat):Prop:=∃ dp A O m vl vs vi a k us,VP G dp vp a k A O m vl vs vi/\VJ pk A a k us m 3/\A.bh=0/\ae H G/\(∀ b,bH O vp b->H.n<=b)/\jk G (λb=>b<H.n\/bH O vp b) m vl vs vi
section
variable {t:Nat->Option cW} {fuel:Nat} {H:Heap} {pk:List UInt8->List (List UInt8)} {unpk:List (List UInt8)->Option (List UInt8)}
theorem Gy (T:aJ t) (hc:aY t) (F:cT pk unpk) (hp:t 123=some (.nat (fN pk))) {G0:Heap} {lv:V} {rs:List (List Nat)} {vp i:Nat} {r:List Nat} (hl:sE H lv rs) (hr:rs[i]? = some r) (h0:SJ pk H G0 vp) (hfu:1000000<fuel):
 ∃ G' ok,ae H G'/\(ok=true->SJ pk H G' vp)/\∀ (d:Nat) (kx:Nat->KE) (e:Env) (x:R),aa s000 e=lv->aa s003 e = .ptr vp 0->aa s005 e = .int 3 i->aa s006 e = .int 3 0->
  (ok=true->∀ e',aa s000 e'=lv->aa s003 e' = .ptr vp 0->aa s005 e' = .int 3 i->kx 3 e' G'=x)->(ok=false->∀ e',aa s002 e' = .iS->kx 0 e' G'=x)->lr Cq fuel (aQ (aZ Tryz.prog) t fuel (d+9)) kx fuel e G0=x:=by
 obtain ⟨hn,xs,bM,hrs⟩:=hl
 obtain ⟨hrn,hq,y,hy,hyr⟩:=hrs i r hr
 have hil:=(Ya.1 hr).1
 have ci:i<9223372036854775808:=by omega
 have ni:nn i:=by unfold nn;omega
 have run:=pz (c:=Cq) (fuel:=fuel) (ph:=λd=>aQ (aZ Tryz.prog) t fuel (d+9)) (σ:=Unit) (τ:=Unit) (n:=min r.length 4)
  (I:=λk _ G=>SJ pk H G vp)
  (S:=λk _ e=>aa s000 e=lv/\aa s003 e = .ptr vp 0/\aa s005 e = .int 3 i/\aa s006 e = .int 3 k)
  (J:=λ_ G=>ae H G) (Q:=λ_ e=>aa s002 e = .iS) (j:=λ_=>0) (λk _ G hkn ⟨dp,A,O,m,vl,vs,vi,a,kk,us,S,I,hf,fr,own,hM⟩=>by
   have hk4:k<4:=by omega
   have hkl:k<r.length:=by omega
   have hw:=fr.wf
   have hrow1:=bM.fresh fr
   have hyr1:=hyr.fresh fr
   obtain ⟨bL,oL,cL,zL,hvL,hbL,-,hrL⟩:=hrow1.open hil
   have hrL:=λ{id:Nat} {k:V->R}=>(hrL (G:=G) rfl).2 (by rw [WN];exact hy) (id:=id) (k:=k)
   obtain ⟨bY,oY,cY,zY,hvY,hbY,-,hrY⟩:=hyr1.open hkl
   have hrk:r[k]? = some r[k]:=YB hkl
   have hrY:=λ{id:Nat} {k':V->R}=>(hrY (G:=G) rfl).2 (x:=.int 4 r[k]) (by rw [WN,Yh,hrk];rfl) (id:=id) (k:=k')
   have hqk:=hq _ (Yb hkl)
   generalize r[k]=z at hrY hqk
   rw [WN]at hrL hrY
   have wm:G.mark.wf:=by rw [Heap.cO];exact hw
   obtain ⟨Gm',z1',f1'⟩:=wS (cp:=aZ Tryz.prog) (fuel:=fuel) (H:=G.mark) (c:=z/3) T wm (by omega) (by omega)
   obtain ⟨Gm,G1,z1o,hu1,hl1,f1⟩:=pT (cp:=aZ Tryz.prog) (fuel:=fuel) ⟨Gm',z1',f1'⟩
   have z1:=λ{d:Nat} {k:K}=>z1o (d+8) k
   clear z1o
   obtain ⟨G2,O2,E,z2o,s2,hE⟩:=TZ (b:=z%3) (l:=z/3) T hc F hp (S.fresh f1) I hf (by omega) hfu
   have z2:=λ{d:Nat} {k:K}=>z2o d k
   clear z2o
   obtain ⟨fr2,own2⟩:=(fr.trans f1).own s2 own
   have ck:k<9223372036854775808:=by omega
   have nk:nn k:=by unfold nn;omega
   have e1:(k+1)%18446744073709551616=k+1:=by omega
   have e2:z%18446744073709551616=z:=by omega
   have rm:∀ {id:Nat} {f:Nat->R},iA id (.rem 9223372036854775808) z 3 f=f (z%3):=λ{id f}=>uX (by omega) (by omega) (by omega)
   have rq:∀ {id:Nat} {f:Nat->R},iA id (.quo 256) z 3 f=f (z/3):=λ{id f}=>Ae (by omega) (by omega) (by omega)
   have hsn:=λ{id:Nat} {f:Nat->R}=>hyr1.sn (id:=id) (f:=f)
   subst hvL hvY
   by_cases h0:E=0
   .obtain ⟨A',m',vl',vs',vi',a',n',us',S',I',hf',hX⟩:=hE h0
    subst h0
    refine YG ⟨(),G2,⟨dp,A',O2,m',vl',vs',vi',a',n',us',S',I',hf',fr2,own2,hX _ (λb hb=>YC hb (fr.trans f1).n) (hM.fresh f1)⟩,λd kx rr e x ⟨q0,q3,q5,q6⟩ hk=>?_⟩
    rw [ax]
    simp only [go_sem,ZE,Cq,q0,q3,q5,q6,hil,hkl,hk4,ci,ck,nk,e1,e2,hrn,↓hrL,↓hrY,↓hsn,↓rm,↓rq,↓z1,hu1,hl1,↓z2]
    exact hk _ (by simp only [go_sem,q0,q3,q5,and_self])
   .refine YE ⟨(),G2,fr2,λd kx rr e x ⟨q0,q3,q5,q6⟩ hk=>?_⟩
    rw [ax]
    simp only [go_sem,ZE,Cq,q0,q3,q5,q6,hil,hkl,hk4,ci,ck,nk,e2,hrn,↓hrL,↓hrY,↓hsn,↓rm,↓rq,↓z1,hu1,hl1,↓z2,h0]
    exact hk _ rfl) (min r.length 4) 0 () G0 (by omega) h0
 rcases run with ⟨_,G',hS,z⟩|⟨_,G',fr,z⟩
 .have hS':=hS
  obtain ⟨dp,A,O,m,vl,vs,vi,a,kk,us,S,I,hf,fr,own,hM⟩:=hS'
  refine ⟨G',true,fr,λ_=>hS,λd kx e x q0 q3 q5 q6 h1 _=>?_⟩
  refine z d kx fuel e x (by omega) ⟨q0,q3,q5,q6⟩ λrr e' ⟨q0,q3,q5,q6⟩=>?_
  have hrow1:=bM.fresh fr
  have hyr1:=hyr.fresh fr
  obtain ⟨bL,oL,cL,zL,hvL,hbL,-,hrL⟩:=hrow1.open hil
  have hrL:=λ{id:Nat} {k:V->R}=>(hrL (G:=G') rfl).2 (by rw [WN];exact hy) (id:=id) (k:=k)
  rw [WN]at hrL
  have hsn:=λ{id:Nat} {f:Nat->R}=>hyr1.sn (id:=id) (f:=f)
  have b1:nn (min r.length 4):=by unfold nn;omega
  subst hvL
  rw [ax]
  by_cases h30:r.length<4
  .have e1:min r.length 4=r.length:=by omega
   have e2:¬ r.length<r.length:=Qb _
   rw [e1]at q6 b1
   simp only [go_sem,Cq,q0,q5,q6,hil,ci,↓hrL,↓hsn,hrn,b1,e2]
   exact h1 rfl _ q0 q3 q5
  .have e1:min r.length 4=4:=by omega
   rw [e1]at q6 b1
   by_cases h31:r.length=4
   .have e2:¬ 4<r.length:=by omega
    simp only [go_sem,Cq,q0,q5,q6,hil,ci,↓hrL,↓hsn,hrn,b1,e2]
    exact h1 rfl _ q0 q3 q5
   .have e2:4<r.length:=by omega
    simp only [go_sem,Cq,q0,q5,q6,hil,ci,↓hrL,↓hsn,hrn,b1,e2,Qb]
    exact h1 rfl _ q0 q3 q5
 .refine ⟨G',false,fr,λh=>(by cases h),λd kx e x q0 q3 q5 q6 _ h2=>?_⟩
  exact z d kx fuel e x (by omega) ⟨q0,q3,q5,q6⟩ λe' q2=>h2 rfl e' q2
theorem Gz (T:aJ t) (hc:aY t) (F:cT pk unpk) (hp:t 123=some (.nat (fN pk))) {G0:Heap} {lv:V} {rs:List (List Nat)} {vp:Nat} (hl:sE H lv rs) (h0:SJ pk H G0 vp) (hfu:1000000<fuel):
 ∃ G' ok,ae H G'/\(ok=true->SJ pk H G' vp)/\∀ (d:Nat) (kx:Nat->KE) (e:Env) (x:R),aa s000 e=lv->aa s003 e = .ptr vp 0->aa s005 e = .int 3 0->
  (ok=true->∀ e',aa s003 e' = .ptr vp 0->kx 1 e' G'=x)->(ok=false->∀ e',aa s002 e' = .iS->kx 0 e' G'=x)->lr Ao fuel (aQ (aZ Tryz.prog) t fuel (d+9)) kx fuel e G0=x:=by
 have hn:=hl.1
 have run:=pz (c:=Ao) (fuel:=fuel) (ph:=λd=>aQ (aZ Tryz.prog) t fuel (d+9)) (σ:=Unit) (τ:=Unit) (n:=min rs.length 10)
  (I:=λi _ G=>SJ pk H G vp)
  (S:=λi _ e=>aa s000 e=lv/\aa s003 e = .ptr vp 0/\aa s005 e = .int 3 i)
  (J:=λ_ G=>ae H G) (Q:=λ_ e=>aa s002 e = .iS) (j:=λ_=>0) (λi _ G hin hS=>by
   have hil:i<rs.length:=by omega
   have hi10:i<10:=by omega
   have hri:rs[i]? = some rs[i]:=YB hil
   have ci:i<9223372036854775808:=by omega
   have ni:nn i:=by unfold nn;omega
   have e1:(i+1)%18446744073709551616=i+1:=by omega
   have e2:i%18446744073709551616=i:=by omega
   have e3:(1+i/3)%18446744073709551616=1+i/3:=by omega
   have e4:(1+i%3)%18446744073709551616=1+i%3:=by omega
   have hsn:=λ{id:Nat} {f:Nat->R}=>(let ⟨_,xs,h,_⟩:=hl;h.sn (id:=id) (f:=f):bz id lv (λ_ _ len _ _=>f len) (f 0)=f rs.length)
   have rm:∀ {id:Nat} {f:Nat->R},iA id (.rem 18446744073709551616) i 3 f=f (i%3):=λ{id f}=>uX (by omega) (by omega) (by omega)
   have rq:∀ {id:Nat} {f:Nat->R},iA id (.quo 18446744073709551616) i 3 f=f (i/3):=λ{id f}=>Ae (by omega) (by omega) (by omega)
   obtain ⟨G1,ok,fr1,hok,z1⟩:=Gy (fuel:=fuel) T hc F hp hl hri hS hfu
   rcases ok with _|_
   .refine YE ⟨(),G1,fr1,λd kx rr e x ⟨q0,q3,q5⟩ hk=>?_⟩
    rw [ax]
    simp only [go_sem,ZE,Ao,q0,q3,q5,↓hsn,hn,hil,hi10,ni]
    refine z1 d _ _ x ?_ ?_ ?_ ?_ (λh=>by cases h) λ_ e' q2=>?_
    all_goals first|(simp only [go_sem,q0,q3,q5];done)|skip
    simp only [go_sem]
    exact hk _ q2
   .obtain ⟨dp,A,O,m,vl,vs,vi,a,kk,us,S,I,hf,fr,own,hM⟩:=hok rfl
    obtain ⟨G2,z2o,f2⟩:=uf (cp:=aZ Tryz.prog) (fuel:=fuel) (a:=1+i/3) (b:=1+i%3) T fr.wf
    have z2:=λ{d:Nat} {k:K}=>z2o (d+8) k
    clear z2o
    obtain ⟨G3,O3,E,z3o,s3,hE⟩:=X8 (g:=(1+i/3,1+i%3)) T hc F hp (S.fresh f2) I hf ⟨by show 1+i/3<18446744073709551616;omega,by show 1+i%3<18446744073709551616;omega⟩ hfu
    have z3:=λ{d:Nat} {k:K}=>z3o d k
    clear z3o
    simp only [bu]at z3
    obtain ⟨fr3,own3⟩:=(fr.trans f2).own s3 own
    by_cases h0:E=0
    .obtain ⟨A',m',vl',vs',vi',a',n',us',S',I',hf',hX⟩:=hE h0
     subst h0
     refine YG ⟨(),G3,⟨dp,A',O3,m',vl',vs',vi',a',n',us',S',I',hf',fr3,own3,hX _ (λb hb=>YC hb (fr.trans f2).n) (hM.fresh f2)⟩,λd kx rr e x ⟨q0,q3,q5⟩ hk=>?_⟩
     rw [ax]
     simp only [go_sem,ZE,Ao,q0,q3,q5,↓hsn,hn,hil,hi10,ni]
     refine z1 d _ _ x ?_ ?_ ?_ ?_ (λ_ e' q0 q3 q5=>?_) λh=>by cases h
     all_goals first|(simp only [go_sem,q0,q3,q5];done)|skip
     simp only [go_sem,q3,q5,e1,e2,e3,e4,↓rm,↓rq,↓z2,↓z3]
     exact hk _ (by simp only [go_sem,q0,q3,and_self])
    .refine YE ⟨(),G3,fr3,λd kx rr e x ⟨q0,q3,q5⟩ hk=>?_⟩
     rw [ax]
     simp only [go_sem,ZE,Ao,q0,q3,q5,↓hsn,hn,hil,hi10,ni]
     refine z1 d _ _ x ?_ ?_ ?_ ?_ (λ_ e' q0 q3 q5=>?_) λh=>by cases h
     all_goals first|(simp only [go_sem,q0,q3,q5];done)|skip
     simp only [go_sem,q3,q5,e2,e3,e4,↓rm,↓rq,↓z2,↓z3,h0]
     exact hk _ rfl) (min rs.length 10) 0 () G0 (by omega) h0
 rcases run with ⟨_,G',hS,z⟩|⟨_,G',fr,z⟩
 .have hS':=hS
  obtain ⟨dp,A,O,m,vl,vs,vi,a,kk,us,S,I,hf,fr,own,hM⟩:=hS'
  refine ⟨G',true,fr,λ_=>hS,λd kx e x q0 q3 q5 h1 _=>?_⟩
  refine z d kx fuel e x (by omega) ⟨q0,q3,q5⟩ λrr e' ⟨q0,q3,q5⟩=>?_
  have hsn:=λ{id:Nat} {f:Nat->R}=>(let ⟨_,xs,h,_⟩:=hl;h.sn (id:=id) (f:=f):bz id lv (λ_ _ len _ _=>f len) (f 0)=f rs.length)
  have b1:nn (min rs.length 10):=by unfold nn;omega
  rw [ax]
  by_cases h30:rs.length<10
  .have e1:min rs.length 10=rs.length:=by omega
   have e2:¬ rs.length<rs.length:=Qb _
   rw [e1]at q5 b1
   simp only [go_sem,Ao,q0,q5,↓hsn,hn,b1,e2]
   exact h1 rfl _ q3
  .have e1:min rs.length 10=10:=by omega
   rw [e1]at q5 b1
   by_cases h31:rs.length=10
   .have e2:¬ 10<rs.length:=by omega
    simp only [go_sem,Ao,q0,q5,↓hsn,hn,b1,e2]
    exact h1 rfl _ q3
   .have e2:10<rs.length:=by omega
    simp only [go_sem,Ao,q0,q5,↓hsn,hn,b1,e2,Qb]
    exact h1 rfl _ q3
 .refine ⟨G',false,fr,λh=>(by cases h),λd kx e x q0 q3 q5 _ h2=>?_⟩
  exact z d kx fuel e x (by omega) ⟨q0,q3,q5⟩ λe' q2=>h2 rfl e' q2
theorem uk (T:aJ t) (hc:aY t) (F:cT pk unpk) (hp:t 123=some (.nat (fN pk))) (hu:t 89=some (.nat (fD unpk))) (hw:H.wf) {lv:V} {rs:List (List Nat)} (hl:sE H lv rs) (hfu:1000000<fuel):
 ∃ H' v,(∀ (d:Nat) (k:K),aj (aQ (aZ Tryz.prog) t fuel (d+12)) (.func 12 []) [lv] H k=k v H')/\ae H H'/\(v = .iS\/∃ vp,v = .ptr vp 0/\SJ pk H H' vp):=by
 obtain ⟨G1,A,a,kk,us,dp,vp,O,vl,vs,vi,z1o,f1,S,I,hf,own,hM⟩:=yj (fuel:=fuel) T hc F hp hu hw hfu
 have z1:=λ{d:Nat} {k:K}=>z1o d k
 clear z1o
 obtain ⟨G2,ok,fr,hok,z2⟩:=Gz (fuel:=fuel) T hc F hp hl ⟨dp,A,O,mz 3,vl,vs,vi,a,kk,us,S,I,hf,f1,own,hM⟩ hfu
 have j0:=λ{id:Nat} {k:R}=>aG (let ⟨_,xs,h,_⟩:=hl;h.one) (id:=id) (k:=k)
 refine ⟨G2,if ok then .ptr vp 0 else .iS,λd k=>?_,fr,?_⟩
 .rw [aR T.k6 rfl rfl]
  have z1':=λ{k:K}=>z1 (d:=d+1) (k:=k)
  simp only [go_sem,c6,aay,aaz,↓z1']
  refine z2 (d+2) _ _ _ ?_ ?_ ?_ (λh e' q3=>?_) λh e' q2=>?_
  all_goals first|(simp only [go_sem];done)|skip
  .subst h
   simp only [go_sem,aaA,aaB,q3]
  .subst h
   simp only [go_sem,q2,YU]
 .rcases ok with _|_
  .exact YG rfl
  .exact YE ⟨vp,rfl,hok rfl⟩
end
end Go.Ev
end
section
namespace Go.Ev
open Go.Proofs
variable {cp:RC->aq} {t:Nat->Option cW} {fuel:Nat} {H:Heap}
theorem CJ (T:aJ t) {O:Nat->Prop} {n:Nat} {v:V} {row:List V} (hw:H.wf) (h:Row H O v 2 n row) (hn:n<1000000):
 ∃ H' v',(∀ (d:Nat) (k:K),aj (aQ cp t fuel (d+1)) (.func 116 []) [v] H k=k v' H')/\ae H H'/\Own H H' v' 2 n row:=sQ T.k58 hw h hn
theorem DT (T:aJ t) {O:Nat->Prop} {n ep bf:Nat} {ls:Bool} {v:V} {row:List V} (hw:H.wf) (h:Row H O v 2 n row) (hO:∀ b,O b->b<H.n) (hn:n<1000000):
 ∃ H' v',(∀ (d:Nat) (k:K),aj (aQ cp t fuel (d+2)) (.func 46 []) [.agg [.int 7 ep,.int 3 bf,.bool ls,v]] H k=k (.agg [.int 7 ep,.int 3 bf,.bool ls,v']) H')/\ae H H'/\Own H H' v' 2 n row:=by
 obtain ⟨G1,hG1,f1,p1,n1⟩:=Heap.aP hw (.cells [.int 7 ep,.int 3 bf,.bool ls,v])
 have w1:=f1.wf
 obtain ⟨G2,hG2,f2,p2,n2⟩:=Heap.aP w1 (.cells [.int 7 0,.int 3 0,.bool false,.aw])
 have w2:=f2.wf
 have q1:G2.get H.n = .cells [.int 7 ep,.int 3 bf,.bool ls,v]:=(f2.same _ (by omega)).trans p1
 obtain ⟨G3,v',z3o,f3,o3⟩:=CJ (cp:=cp) (fuel:=fuel) T w2 ((h.fresh f1).fresh f2) hn
 have z3:=λ{d:Nat} {k:K}=>z3o d k
 have m3:=f3.n
 have q3:G3.get H.n = .cells [.int 7 ep,.int 3 bf,.bool ls,v]:=(f3.same _ (by omega)).trans q1
 have w3:=f3.wf
 have b3:H.n<G3.n:=by omega
 obtain ⟨G4,hG4,f4,p4,n4,w4,k4⟩:=Heap.aU (b:=H.n) (f1.trans (f2.trans f3)) (YA _) b3 (.cells [.int 7 ep,.int 3 bf,.bool ls,v'])
 have q4:G4.get G1.n = .cells [.int 7 0,.int 3 0,.bool false,.aw]:=(k4 _ (by omega)).trans ((f3.same _ (by omega)).trans p2)
 have b4:G1.n<G4.n:=by omega
 obtain ⟨G5,hG5,f5,p5,n5,w5,k5⟩:=Heap.aU (b:=G1.n) f4 (by omega) b4 (.cells [.int 7 ep,.int 3 bf,.bool ls,v'])
 have jv:=λ{id:Nat} {k:R}=>aG h.one (id:=id) (k:=k)
 have jv':=λ{id:Nat} {k:R}=>aG o3.one (id:=id) (k:=k)
 have o2:=o3.sub (H:=H) (by omega)
 have oF:Own H G5 v' 2 n row:=by
  have a:Own G2 G5 v' 2 n row:=(o3.eL (v:=.slice H.n 0 0 0 0) (by omega) (λj hj ho=>k4 j (ho _ _ _ _ _ rfl)) λb o n c s e b' o' n' c' s' e'=>by cases e';have:=(o3.cQ e).1;omega).eL (v:=.slice G1.n 0 0 0 0) (by omega) (λj hj ho=>k5 j (ho _ _ _ _ _ rfl)) λb o n c s e b' o' n' c' s' e'=>by cases e';have:=(o3.cQ e).1;omega
  exact a.sub (by omega)
 refine ⟨G5,v',λd k=>?_,f5,oF⟩
 rw [aR T.k23 rfl rfl]
 simp only [go_sem,c23,↓jv,hw,hG1,w1,hG2,q1,↓z3,↓jv',q3,w3,b3,hG4,p4,q4,w4,b4,hG5,↓ev,p5]
end Go.Ev
end
section
namespace Go.Ev
open Go.Proofs
variable {cp:RC->aq} {t:Nat->Option cW} {fuel:Nat} {H:Heap}
theorem zA {k:K} {e:Env} {H:Heap} {s s1 s2 s3:Slot} {n n':Nat}:jy [.tmp s,.eV s1 n,.eV s2 n',.tmp s3] k e H=dQ 0 (aa s1 e) λb o=>dU 0 H b o n λl=>dQ 0 (aa s2 e) λb' o'=>dU 0 H b' o' n' λl'=>k (.cE [aa s e,.agg l,.agg l',aa s3 e]) H:=by
 show gV s e (λv=>gV s1 e λv1=>dQ 0 v1 λb o=>dU 0 H b o n λl=>gV s2 e λv2=>dQ 0 v2 λb' o'=>dU 0 H b' o' n' λl'=>gV s3 e λv3=>k (.cE [v,.agg l,.agg l',v3]) H)=_
 simp only [dX]
theorem Jz (T:aJ t) {dp vp a n:Nat} {A:AD} {O:Nat->Prop} {m:MT} {vl vs vi:V} (S:VP H dp vp a n A O m vl vs vi) (hfu:1000<fuel):
 ∃ H',(∀ (d:Nat) (k:K),aj (aQ cp t fuel (d+3)) (.func 64 []) [.ptr vp 0] H k=k (.cE [.int 3 m.ah.length,.agg (bu (cg m).g),.agg (bu m.tok.t),.int 3 m.tok.next]) H')/\ae H H':=by
 have hn0:=S.ok.num
 have w0:=S.eX.wf
 obtain ⟨G1,hG1,f1,p1,n1⟩:=Heap.aP w0 (.cells [.int 7 0,.int 7 0])
 have w1:=f1.wf
 obtain ⟨G2,hG2,f2,p2,n2⟩:=Heap.aP w1 (.cells [.int 7 0,.int 7 0])
 have f12:=f1.trans f2
 have S2:=S.fresh f12
 obtain ⟨G3,vL,z3o,f3,o3⟩:=kE (cp:=cp) (fuel:=fuel) T S2 hfu
 have z3:=λ{d:Nat} {k:K}=>z3o (d+1) k
 clear z3o
 obtain ⟨G4,x,z4o,f4,o4⟩:=uF (cp:=cp) (fuel:=fuel) T (S2.fresh f3)
 have z4:=λ{d:Nat} {k:K}=>z4o d k
 clear z4o
 have w4:=f4.wf
 obtain ⟨G5,hG5,f5,p5,n5⟩:=Heap.aP w4 (.cells [.int 7 0,.int 7 0,.int 7 0,.int 7 0,.int 3 0,.int 3 0,.aw])
 have w5:=f5.wf
 have b5:G4.n<G5.n:=by omega
 obtain ⟨G6,hG6,f6,p6,n6,w6,k6⟩:=Heap.aU (b:=G4.n) f5 (YA _) b5 (.cells (bP m.tok x))
 have m3:=f3.n
 have m4:=f4.n
 have q1:G6.get H.n = .cells [.int 7 0,.int 7 0]:=(f6.same _ (by omega)).trans ((f4.same _ (by omega)).trans ((f3.same _ (by omega)).trans ((f2.same _ (by omega)).trans p1)))
 have q2:G6.get G1.n = .cells [.int 7 0,.int 7 0]:=(f6.same _ (by omega)).trans ((f4.same _ (by omega)).trans ((f3.same _ (by omega)).trans p2))
 have f06:ae H G6:=f12.trans (f3.trans (f4.trans f6))
 have jL:=λ{id:Nat} {k:R}=>aG o3.one (id:=id) (k:=k)
 have jx:=λ{id:Nat} {k:R}=>aG o4.one (id:=id) (k:=k)
 have sL:=λ{id:Nat} {f:Nat->R}=>o3.sn (id:=id) (f:=f)
 have c9:m.ah.length<9223372036854775808:=by omega
 have b6:H.n<G6.n:=by omega
 have oL:=(o3.fresh (f4.trans f6)).toRow (O:=λ_=>False) λb h=>h.elim
 obtain ⟨G7,f7,p7,n7,w7,k7,pre⟩:∃ G7,ae H G7/\G7.get H.n = .cells (bu (cg m).g)/\G7.n=G6.n/\G7.wf/\(∀ j,j≠H.n->G7.get j=G6.get j)/\((m.ah.length=0/\G7=G6)\/∃ bL oL cL zL,vL = .slice bL oL m.ah.length cL zL/\0<m.ah.length/\G6.put H.n (.cells (bu (cg m).g))=G7/\∀ {id:Nat} {k:List V->R},yf id (G6.get bL) (oL+(m.ah.length-1)*2) 2 k=k (bu (cg m).g)):=by
  rcases hl:m.ah.length with _|q
  .refine ⟨G6,f06,?_,rfl,w6,λ_ _=>rfl,YG ⟨rfl,rfl⟩⟩
   rw [q1,pE hl]
   rfl
  .have hqs:m.ah[q]? = some m.ah[q]:=YB (by omega)
   have hgi:(m.ah.map (·.g))[q]? = some m.ah[q].g:=by rw [Yh,hqs];rfl
   obtain ⟨G7,hG7,f7,p7,n7,w7,k7⟩:=Heap.aU (b:=H.n) f06 (YA _) b6 (.cells (bu (cg m).g))
   obtain ⟨bL,oL',cL,zL,hvL,hbL,-,hrL⟩:=oL.open (i:=q) (by omega)
   rw [nW hgi]at hrL
   refine ⟨G7,f7,p7,n7,w7,k7,YE ⟨bL,oL',cL,zL,by rw [<- hl];exact hvL,by omega,hG7,λ{id k}=>?_⟩⟩
   rw [pD hqs hl]
   exact (hrL (G:=G6) rfl).1
 have q7:G7.get G4.n = .cells (bP m.tok x):=(k7 _ (by omega)).trans p6
 have r7:G7.get G1.n = .cells [.int 7 0,.int 7 0]:=(k7 _ (by omega)).trans q2
 have b7:H.n<G7.n:=by omega
 obtain ⟨G8,hG8,f8,p8,n8,w8,k8⟩:=Heap.aU (b:=H.n) f7 (YA _) b7 (.cells (bu (cg m).g))
 have b8:G1.n<G8.n:=by omega
 have r8:G8.get G1.n = .cells [.int 7 0,.int 7 0]:=(k8 _ (by omega)).trans r7
 obtain ⟨G9,hG9,f9,p9,n9,w9,k9⟩:=Heap.aU (b:=G1.n) f8 (by omega) b8 (.cells (bu m.tok.t))
 have p9':G9.get H.n = .cells (bu (cg m).g):=(k9 _ (by omega)).trans p8
 have wm7:G7.mark.wf:=by rw [Heap.cO];exact w7
 generalize hlg:(cg m).g=lg at *
 simp only [bu,bP]at p6 hG6 p7 q7 hG8 p8 hG9 p9 p9' pre z4
 refine ⟨G9,λd k=>?_,f9⟩
 rcases pre with ⟨h0,rfl⟩|⟨bL,oL',cL,zL,rfl,h0,hG7,hrd⟩
 .have e0:¬ 0<m.ah.length:=by omega
  rw [aR T.k32 rfl rfl]
  simp only [go_sem,ZE,c32,w0,hG1,w1,hG2,↓z3,↓z4,w4,hG5,p5,b5,w5,↓jx,hG6,↓sL,h0,jS,cJ,wB,p7]
  refine (gG (b:=G4.n) (o:=2) (v:=.agg [.int 7 m.tok.t.1,.int 7 m.tok.t.2]) rfl (by omega) (λk=>by simp only [go_sem,q7]) (λk=>cG)).trans ?_
  simp only [go_sem,cJ]
  refine (gG (b:=G4.n) (o:=4) (v:=.int 3 m.tok.next) rfl (by omega) (λk=>by simp only [go_sem,q7]) (λk=>cG)).trans ?_
  simp only [go_sem,cJ]
  refine (lU (b:=H.n) (o:=0) (v:=.cE []) (H':=G8) rfl (λk=>by simp only [go_sem,p7,w7,b7,hG8]) (λk=>by rw [dF,if_neg (by decide),if_neg (by omega),dF,if_neg (by decide),if_neg (by omega),cG])).trans ?_
  refine (lU (b:=G1.n) (o:=0) (v:=.cE []) (H':=G9) rfl (λk=>by simp only [go_sem,r8,w8,b8,hG9]) (λk=>by rw [dF,if_neg (by decide),if_neg (by omega),dF,if_pos (by decide),cG])).trans ?_
  simp only [go_sem,cJ,fV,↓zA,p9',p9,bu]
 .have a1:(m.ah.length+18446744073709551615)%18446744073709551616=m.ah.length-1:=by omega
  have a2:m.ah.length-1<9223372036854775808:=by omega
  have a3:m.ah.length-1<m.ah.length:=by omega
  have a4:nn (m.ah.length-1):=by unfold nn;omega
  rw [aR T.k32 rfl rfl]
  simp only [go_sem,ZE,c32,w0,hG1,w1,hG2,↓z3,↓z4,w4,hG5,p5,b5,w5,↓jx,hG6,↓sL,c9,h0,a1,a2,a3,↓hrd,q1,w6,b6,hG7,jS,cJ,wB,p7]
  refine (gG (b:=G4.n) (o:=2) (v:=.agg [.int 7 m.tok.t.1,.int 7 m.tok.t.2]) rfl (by omega) (λk=>by simp only [go_sem,q7]) (λk=>cG)).trans ?_
  simp only [go_sem,cJ]
  refine (gG (b:=G4.n) (o:=4) (v:=.int 3 m.tok.next) rfl (by omega) (λk=>by simp only [go_sem,q7]) (λk=>cG)).trans ?_
  simp only [go_sem,cJ]
  refine (lU (b:=H.n) (o:=0) (v:=.cE []) (H':=G8) rfl (λk=>by simp only [go_sem,p7,w7,b7,hG8]) (λk=>by rw [dF,if_neg (by decide),if_neg (by omega),dF,if_neg (by decide),if_neg (by omega),cG])).trans ?_
  refine (lU (b:=G1.n) (o:=0) (v:=.cE []) (H':=G9) rfl (λk=>by simp only [go_sem,r8,w8,b8,hG9]) (λk=>by rw [dF,if_neg (by decide),if_neg (by omega),dF,if_pos (by decide),cG])).trans ?_
  simp only [go_sem,cJ,fV,↓zA,p9',p9,bu]
end Go.Ev
end
section
namespace Go.Ev
open Go.Proofs
def iD (kind ep bf:Nat) (ls:Bool) (v:V) (len:Nat) (last target:Gd) (next:Nat):List V:=[.int 3 kind,.int 7 0,.int 3 0,.int 7 0,.aw,.int 3 0,.bool false,.int 3 0,.int 3 0,.int 7 ep,.int 3 bf,.bool ls,v,.int 3 len,.int 7 last.1,.int 7 last.2,.int 7 target.1,.int 7 target.2,.int 3 next,.int 7 0,.int 7 0,.int 7 0,.int 7 0,.int 3 0,.int 3 0,.aw]
variable {cp:RC->aq} {t:Nat->Option cW} {fuel:Nat} {H:Heap}
theorem tE (T:aJ t) {dp vp a n ep bf nl:Nat} {A:AD} {O:Nat->Prop} {m:MT} {vl vs vi v:V} {ls:Bool} {row:List V} (S:VP H dp vp a n A O m vl vs vi) (h:Row H (bH O vp) v 2 nl row) (hn:nl<1000000) (hfu:1000<fuel):
 ∃ H' v',(∀ (d:Nat) (k:K),aj (aQ cp t fuel (d+4)) (.func 20 []) [.ptr vp 0,.agg [.int 7 ep,.int 3 bf,.bool ls,v]] H k=k (.agg (iD 5 ep bf ls v' m.ah.length (cg m).g m.tok.t m.tok.next)) H')/\ae H H'/\Own H H' v' 2 nl row:=by
 have w0:=S.eX.wf
 obtain ⟨G1,hG1,f1,p1,n1⟩:=Heap.aP w0 (.cells [.int 7 ep,.int 3 bf,.bool ls,v])
 have w1:=f1.wf
 obtain ⟨G2,hG2,f2,p2,n2⟩:=Heap.aP w1 (.cells (iD 0 0 0 false .aw 0 (0,0) (0,0) 0))
 have w2:=f2.wf
 have q1:G2.get H.n = .cells [.int 7 ep,.int 3 bf,.bool ls,v]:=(f2.same _ (by omega)).trans p1
 have f12:=f1.trans f2
 have S2:=S.fresh f12
 obtain ⟨G3,v',z3o,f3,o3⟩:=DT (cp:=cp) (fuel:=fuel) (ep:=ep) (bf:=bf) (ls:=ls) T w2 (h.fresh f12) S2.lt hn
 have z3:=λ{d:Nat} {k:K}=>z3o (d+1) k
 clear z3o
 have w3:=f3.wf
 obtain ⟨G4,hG4,f4,p4,n4⟩:=Heap.aP w3 (.cells (iD 0 0 0 false .aw 0 (0,0) (0,0) 0))
 have w4:=f4.wf
 have m3:=f3.n
 have b4:G3.n<G4.n:=by omega
 obtain ⟨G5,hG5,f5,p5,n5,w5,k5⟩:=Heap.aU (b:=G3.n) f4 (YA _) b4 (.cells (iD 5 ep bf ls v' 0 (0,0) (0,0) 0))
 have f25:=f3.trans f5
 obtain ⟨G6,z6o,f6⟩:=Jz (cp:=cp) (fuel:=fuel) T (S2.fresh f25) hfu
 have z6:=λ{d:Nat} {k:K}=>z6o d k
 clear z6o
 have m6:=f6.n
 have w6:=f6.wf
 have b6:G3.n<G6.n:=by omega
 have p6:G6.get G3.n = .cells (iD 5 ep bf ls v' 0 (0,0) (0,0) 0):=(f6.same _ (by omega)).trans p5
 have fB:=f12.trans (f25.trans f6)
 generalize (cg m).g=lg at z6 ⊢
 obtain ⟨G7,hG7,f7,p7,n7,w7,k7⟩:=Heap.aU (b:=G3.n) fB (by omega) b6 (.cells (iD 5 ep bf ls v' m.ah.length (0,0) (0,0) 0))
 have b7:G3.n<G7.n:=by omega
 obtain ⟨G8,hG8,f8,p8,n8,w8,k8⟩:=Heap.aU (b:=G3.n) f7 (by omega) b7 (.cells (iD 5 ep bf ls v' m.ah.length lg (0,0) 0))
 have b8:G3.n<G8.n:=by omega
 obtain ⟨G9,hG9,f9,p9,n9,w9,k9⟩:=Heap.aU (b:=G3.n) f8 (by omega) b8 (.cells (iD 5 ep bf ls v' m.ah.length lg m.tok.t 0))
 have b9:G3.n<G9.n:=by omega
 obtain ⟨Ga,hGa,fa,pa,na,wa,ka⟩:=Heap.aU (b:=G3.n) f9 (by omega) b9 (.cells (iD 5 ep bf ls v' m.ah.length lg m.tok.t m.tok.next))
 have qa:Ga.get G1.n = .cells (iD 0 0 0 false .aw 0 (0,0) (0,0) 0):=(ka _ (by omega)).trans ((k9 _ (by omega)).trans ((k8 _ (by omega)).trans ((k7 _ (by omega)).trans ((f6.same _ (by omega)).trans ((k5 _ (by omega)).trans ((f4.same _ (by omega)).trans ((f3.same _ (by omega)).trans p2)))))))
 have ba:G1.n<Ga.n:=by omega
 obtain ⟨Gb,hGb,fb,pb,nb,wb,kb⟩:=Heap.aU (b:=G1.n) fa (by omega) ba (.cells (iD 5 ep bf ls v' m.ah.length lg m.tok.t m.tok.next))
 have jv:=λ{id:Nat} {k:R}=>aG h.one (id:=id) (k:=k)
 have jv':=λ{id:Nat} {k:R}=>aG o3.one (id:=id) (k:=k)
 have cD:∀ {X Y:Heap} {j:Nat},Own H X v' 2 nl row->X.n<=Y.n->(j<H.n\/X.n<=j\/(∀ b o n c s,v' = .slice b o n c s->b≠j))->(∀ q,q≠j->Y.get q=X.get q)->Own H Y v' 2 nl row:=λ{X Y j} o hxy hj hq=>o.eL (v:=.slice j 0 0 0 0) hxy (λq _ ho=>hq q (ho _ _ _ _ _ rfl)) λb o' n' c s e b' o'' n'' c' s' e'=>by
  cases e'
  have:=o.cQ e
  rcases hj with hj|hj|hj
  .omega
  .omega
  .exact hj _ _ _ _ _ e
 have blk3:∀ b o n c s,v' = .slice b o n c s->G2.n<=b/\b<G3.n:=λb o n c s e=>o3.cQ e
 have ne3:∀ b o n c s,v' = .slice b o n c s->b≠G3.n:=λb o n c s e=>by have:=blk3 _ _ _ _ _ e;omega
 have ne1:∀ b o n c s,v' = .slice b o n c s->b≠G1.n:=λb o n c s e=>by have:=blk3 _ _ _ _ _ e;omega
 have o6:Own H G6 v' 2 nl row:=(cD ((o3.sub (H:=H) (by omega)).fresh f4) (by omega) (YE (YE ne3)) k5).fresh f6
 have oa:=cD (cD (cD (cD o6 (by omega) (YE (YE ne3)) k7) (by omega) (YE (YE ne3)) k8) (by omega) (YE (YE ne3)) k9) (by omega) (YE (YE ne3)) ka
 refine ⟨Gb,v',λd k=>?_,fb,cD oa (by omega) (YE (YE ne1)) kb⟩
 simp only [iD,bu]at hG2 hG4 p4 hG5 p6 z6 hG7 p7 hG8 p8 hG9 p9 hGa pa qa hGb pb
 simp only [iD]
 rw [aR T.k10 rfl rfl]
 simp only [go_sem,c10,w0,↓jv,hG1,w1,hG2,q1,↓z3,↓jv',w3,hG4,p4,w4,b4,hG5,↓z6,p6,w6,b6,hG7,p7,w7,b7,hG8,p8,w8,b8,hG9,p9,w9,b9,hGa,pa,qa,wa,ba,hGb,↓ev,pb]
end Go.Ev
end
section
namespace Go.Ev
open Go.Proofs
def hasB (gs:List Gd) (len:Nat) (last:Gd):Bool:=if len<1\/gs.length<len then decide (len=0) && decide (last=(0,0)) else decide (gs.getD (len-1) (0,0)=last)
variable {cp:RC->aq} {t:Nat->Option cW} {fuel:Nat} {H:Heap}
theorem N9 (T:aJ t) {O:Nat->Prop} {kind ep bf len next:Nat} {ls:Bool} {v w:V} {last target:Gd} {gs:List Gd} (hw:H.wf) (hv:v.one=true) (h:Row H O w 2 gs.length (fI gs)) (hn:gs.length<1000000) (hl:nn len) (hfu:1000<fuel):
 ∃ H',(∀ (d:Nat) (k:K),aj (aQ cp t fuel (d+1)) (.func 66 []) [w,.agg (iD kind ep bf ls v len last target next)] H k=k (.bool (hasB gs len last)) H')/\ae H H':=by
 obtain ⟨G1,hG1,f1,p1,n1⟩:=Heap.aP hw (.cells (iD kind ep bf ls v len last target next))
 have w1:=f1.wf
 have jv:=λ{id:Nat} {k:R}=>aG hv (id:=id) (k:=k)
 have jw:=λ{id:Nat} {k:R}=>aG h.one (id:=id) (k:=k)
 have sn:=λ{id:Nat} {f:Nat->R}=>h.sn (id:=id) (f:=f)
 have c9:gs.length<9223372036854775808:=by omega
 refine ⟨G1,λd k=>?_,f1⟩
 simp only [iD]at hG1 p1
 simp only [iD]
 rw [aR T.k33 rfl rfl]
 unfold hasB
 have eqz:=λ{id:Nat} {f:Bool->R}=>eqG (id:=id) (g:=last) (h:=(0,0)) (f:=f)
 have hl0:len<18446744073709551616:=by unfold nn at hl;omega
 by_cases h0:len=0
 .subst h0
  rw [if_pos (YG (by omega))]
  have e1:(0:Nat)<1:=by omega
  have e2:nn 0:=by unfold nn;omega
  simp only [go_sem,ZE,c33,hw,↓jv,hG1,p1,e1,e2,cB,↓eqz,decide_true,Bool.true_and]
  cases decide (last=(0,0))<;>rfl
 .by_cases h2:gs.length<len
  .rw [if_pos (YE h2)]
   have e1:¬ len<1:=by omega
   simp only [go_sem,ZE,c33,hw,↓jv,hG1,p1,e1,h0,h2,hl,↓sn,c9,YU,decide_false,Bool.false_and]
  .rw [if_neg (by omega)]
   have e1:¬ len<1:=by omega
   have hi:len-1<gs.length:=by omega
   have hgi:gs[len-1]? = some gs[len-1]:=YB hi
   obtain ⟨bL,oL,cL,zL,rfl,hbL,-,hrL⟩:=h.open hi
   rw [nW hgi]at hrL
   have hrL:=λ{id:Nat} {k:List V->R}=>(hrL (G:=G1) (f1.same _ hbL)).1 (id:=id) (k:=k)
   have hgd:gs.getD (len-1) (0,0)=gs[len-1]:=by rw [YJ,hgi,Yn]
   rw [hgd]
   generalize gs[len-1]=g at hrL
   have eqg:=λ{id:Nat} {f:Bool->R}=>eqG (id:=id) (g:=g) (h:=last) (f:=f)
   simp only [bu]at hrL
   have a1:(len+18446744073709551615)%18446744073709551616=len-1:=by omega
   have a2:len-1<9223372036854775808:=by omega
   simp only [go_sem,ZE,c33,hw,↓jv,hG1,p1,e1,h2,hl,↓sn,c9,a1,a2,hi,↓hrL,cB,↓eqg,YU]
   cases decide (g=last)<;>rfl
end Go.Ev
end
section
namespace Go.Ev
open Go.Proofs
theorem UX {x:Nat}:dN (.gt 9223372036854775808 18446744073709551616) x 0 = !dN (.le 9223372036854775808 18446744073709551616) x 0:=by
 have h1:(dN (.gt 9223372036854775808 18446744073709551616) x 0=true) = ¬ (dN (.le 9223372036854775808 18446744073709551616) x 0=true):=by
  simp [dN]
 rcases hx:dN (.le 9223372036854775808 18446744073709551616) x 0 with _|_
 .rw [hx]at h1;simpa using h1
 .rw [hx]at h1;simpa using h1
variable {cp:RC->aq} {t:Nat->Option cW} {fuel:Nat} {H:Heap}
theorem El (T:aJ t) {a b:Gd} (hw:H.wf) (ha:mg a) (hb:mg b) (hfu:1000<fuel):
 ∃ H',(∀ (d:Nat) (k:K),aj (aQ cp t fuel (d+3)) (.func 226 []) [.agg (bu a),.agg (bu b)] H k=k (.bool (bS a b)) H')/\ae H H':=by
 obtain ⟨G1,hG1,f1,p1,n1⟩:=Heap.aP hw (.cells (bu a))
 have w1:=f1.wf
 obtain ⟨G2,hG2,f2,p2,n2⟩:=Heap.aP w1 (.cells (bu b))
 have w2:=f2.wf
 have q1:G2.get H.n = .cells (bu a):=(f2.same _ (by omega)).trans p1
 have wm2:G2.mark.wf:=by rw [Heap.cO];exact w2
 obtain ⟨G4x,G4,z4o,hu4,hl4,f4⟩:=pT (cp:=cp) (fuel:=fuel) (G:=G2) (t:=t) (c:=2) (f:=.func 242 []) (args:=[.int 7 a.1,.int 7 b.1]) ⟨G2.mark,λd k=>ry (cp:=cp) (fuel:=fuel) (H:=G2.mark) T ha.1 hb.1 d k,ae.refl wm2⟩
 have z4:=λ{d:Nat} {k:K}=>z4o d k
 clear z4o
 have p4:G4.get G1.n = .cells (bu b):=(f4.same _ (by omega)).trans p2
 have q4:G4.get H.n = .cells (bu a):=(f4.same _ (by omega)).trans q1
 have w4:=f4.wf
 have z5:=λ{d:Nat} {k:K}=>ry (cp:=cp) (fuel:=fuel) (H:=G4) T ha.2 hb.2 d k
 obtain ⟨G5,hG5,f5,p5,n5⟩:=Heap.aP w4 (.cells [.int 3 (ny a.1 b.1),.int 3 (ny a.2 b.2)])
 have z6:=λ{d:Nat} {k:K}=>Jd (cp:=cp) (fuel:=fuel) (H:=G5) (c:=3) (s:=0) T p5 (by omega) d k
 have e3:=Bj a b
 unfold Tt at e3
 rw [pC]at e3
 simp only [bu]at hG1 hG2 p2 q1 p4 q4
 refine ⟨G5,λd k=>?_,f1.trans (f2.trans (f4.trans f5))⟩
 rw [aR T.aa2 rfl rfl]
 rcases hab:bS a b with _|_
 .rw [hab]at e3
  have e4:dN (.gt 9223372036854775808 18446744073709551616) (if ny a.1 b.1=0 then ny a.2 b.2 else ny a.1 b.1) 0=false:=by
   have h':=cast e3.symm (λh=>Bool.noConfusion h)
   rw [UX,h'];rfl
  simp only [go_sem,VW,bu,hw,hG1,w1,hG2,q1,p2,↓z4,hu4,hl4,p4,q4,↓z5,w4,hG5,↓z6,e4]
 .rw [hab]at e3
  have e4:dN (.gt 9223372036854775808 18446744073709551616) (if ny a.1 b.1=0 then ny a.2 b.2 else ny a.1 b.1) 0=true:=by
   have h':=Bool.eq_false_iff.2 λh=>(cast e3 h) rfl
   rw [UX,h'];rfl
  simp only [go_sem,VW,bu,hw,hG1,w1,hG2,q1,p2,↓z4,hu4,hl4,p4,q4,↓z5,w4,hG5,↓z6,e4]
theorem KZ (T:aJ t) {O:Nat->Prop} {vx:V} {cs:List Wr} {nb:Nat} (hw:H.wf) (hX:Row H O vx 2 cs.length (bZ cs)) (hn:cs.length<1000) (hch:qm cs nb) (h8:nb<=8) (hfu:1000<fuel):
 ∃ H',(∀ (d:Nat) (k:K),aj (aQ cp t fuel (d+1)) (.func 228 []) [vx] H k=k (.bool true) H')/\ae H H':=by
 have nl:nn cs.length:=by unfold nn;omega
 have sn:=λ{id:Nat} {f:Nat->R}=>hX.sn (id:=id) (f:=f)
 have jx:=λ{id:Nat} {k:R}=>aG hX.one (id:=id) (k:=k)
 have c9:cs.length<9223372036854775808:=by omega
 obtain ⟨_,G',f',z⟩:=bV (c:=Ai) (fuel:=fuel) (ph:=λd=>aQ cp t fuel d) (σ:=Unit) (n:=cs.length)
  (I:=λi _ G=>ae H G)
  (S:=λi _ e=>aa s003 e = .int 3 (xi cs i)/\aa s006 e=vx/\aa s007 e = .int 3 cs.length/\aa s010 e = .int 3 i) (λi _ G hil f=>by
   have hsi:cs[i]? = some cs[i]:=YB hil
   obtain ⟨c1,c2,c3⟩:=hch.lt _ (Yb hil)
   have hup:(dN (.le 9223372036854775808 18446744073709551616) cs[i].1 (xi cs i)=true)=False:=by
    rw [IG]
    cases i with
    | zero=>simp only [xi,eq_iff_iff,iff_false];omega
    | succ j=>
     have:=hch.up j hil
     simp only [YJ,hsi,Yn]at this
     simp only [xi,YJ,eq_iff_iff,iff_false]
     omega
   have hpr:xi cs (i+1)=cs[i].1:=by simp only [xi,YJ,hsi,Yn]
   have hge:(dN (.ge 9223372036854775808 18446744073709551616) cs[i].1 8=true)=False:=by
    rw [CA]
    simp only [eq_iff_iff,iff_false]
    omega
   obtain ⟨b,o,cc,z,rfl,hbn,-,hrd⟩:=hX.open hil
   have hrd1:=λ{id:Nat} {k:List V->R}=>(hrd (f.same _ hbn)).1 (id:=id) (k:=k)
   rw [vj hsi]at hrd1
   generalize hcx:cs[i]=x at c1 c2 c3 hup hpr hrd1 hge
   obtain ⟨q,u,w⟩:=x
   simp only [sv]at c1 c2 hup hpr hrd1 hge
   subst c2
   obtain ⟨G1,hG1,f1,p1,n1⟩:=Heap.aP f.wf (.cells [.int 3 0,.str 0 0])
   have b1:G.n<G1.n:=by omega
   obtain ⟨G2,hG2,f2,p2,n2,w2,k2⟩:=Heap.aU (b:=G.n) f1 (YA _) b1 (.cells [.int 3 q,.str 32 w])
   have a1:nn i:=by unfold nn;omega
   have a2:i<9223372036854775808:=by omega
   have a3:(i+1)%18446744073709551616=i+1:=by omega
   have wf:=f.wf
   have w1:=f1.wf
   refine ⟨(),G2,f.trans f2,λd kx r e x ⟨q3,q6,q7,q10⟩ hk=>?_⟩
   rw [ax]
   simp only [go_sem,ZE,Ai,q3,q6,q7,q10,hil,a1,a2,a3,nl,wf,hG1,p1,b1,w1,↓hrd1,hG2,p2,hup,hge]
   exact hk _ (by simp only [go_sem,q6,q7,hpr,and_self])) cs.length 0 () H (by omega) (ae.refl hw)
 refine ⟨G',λd k=>?_,f'⟩
 rw [aR T.aa3 rfl rfl]
 simp only [go_sem,Z8,↓sn,c9]
 refine z d _ fuel _ _ (by omega) ⟨?_,?_,?_,?_⟩ λr e' ⟨q3,q6,q7,q10⟩=>?_
 .simp only [go_sem,xi]
 .rfl
 .rfl
 .rfl
 rw [ax]
 simp only [go_sem,Ai,q7,q10,nl,Qb]
end Go.Ev
end
section
namespace Go.Ev
open Go.Proofs
def bj (base target:Gd) (from' all:Nat) (v:V):List V:=[.int 7 base.1,.int 7 base.2,.int 7 target.1,.int 7 target.2,.int 3 from',.int 3 all,v]
def uO (ab:Bool) (n from':Nat):Nat:=if ab=false\/n-1<from' then 2 else 0
variable {cp:RC->aq} {t:Nat->Option cW} {fuel:Nat} {H:Heap}
theorem aeA {n:Nat} (hn:n<1000):sm true 9223372036854775808 18446744073709551616 0 ((n+18446744073709551615)%18446744073709551616)=n-1:=by
 rcases n with _|n
 .rfl
 .have e:(n+1+18446744073709551615)%18446744073709551616=n:=by omega
  rw [e,Ou (by unfold nn;omega) (by unfold nn;omega)]
  omega
theorem MW (T:aJ t) {H0:Heap} {vx:V} {cs:List Wr} {nb from':Nat} {base target:Gd} (hw:H.wf) (hX:Own H0 H vx 2 cs.length (bZ cs)) (hn:cs.length<1000) (hch:qm cs nb) (h8:nb<=8) (hb:mg base) (ht:mg target) (hf:nn from') (hfu:1000<fuel):
 ∃ H' v',(∀ (d:Nat) (k:K),aj (aQ cp t fuel (d+4)) (.func 160 []) [.agg (bu base),.agg (bu target),vx,.int 3 from'] H k=k (.cE [.agg (if uO (bS target base) cs.length from'=0 then bj base target from' cs.length v' else bj (0,0) (0,0) 0 0 .aw),.int 3 (uO (bS target base) cs.length from')]) H')/\ae H H'/\(uO (bS target base) cs.length from'=0->Own H H' v' 2 (min cs.length (from'+2)-from') (((bZ cs).drop (from'*2)).take ((min cs.length (from'+2)-from')*2))):=by
 obtain ⟨G1,hG1,f1,p1,n1⟩:=Heap.aP hw (.cells (bu base))
 have w1:=f1.wf
 obtain ⟨G2,hG2,f2,p2,n2⟩:=Heap.aP w1 (.cells (bu target))
 have w2:=f2.wf
 obtain ⟨G3,hG3,f3,p3,n3⟩:=Heap.aP w2 (.cells (bj (0,0) (0,0) 0 0 .aw))
 have w3:=f3.wf
 have f03:=f1.trans (f2.trans f3)
 have q1:G3.get H.n = .cells (bu base):=(f3.same _ (by omega)).trans ((f2.same _ (by omega)).trans p1)
 have q2:G3.get G1.n = .cells (bu target):=(f3.same _ (by omega)).trans p2
 obtain ⟨G4,z4o,f4⟩:=El (cp:=cp) (fuel:=fuel) T w3 ht hb hfu
 have z4:=λ{d:Nat} {k:K}=>z4o d k
 clear z4o
 have hXr:=hX.toRow (O:=λ_=>False) λb h=>h.elim
 obtain ⟨G5,z5o,f5⟩:=KZ (cp:=cp) (fuel:=fuel) T f4.wf (hXr.fresh (f03.trans f4)) hn hch h8 hfu
 have z5:=λ{d:Nat} {k:K}=>z5o (d+2) k
 clear z5o
 have f35:=f4.trans f5
 have m4:=f4.n
 have m5:=f5.n
 have sn:=λ{id:Nat} {f:Nat->R}=>hX.sn (id:=id) (f:=f)
 have jx:=λ{id:Nat} {k:R}=>aG hX.one (id:=id) (k:=k)
 have c9:cs.length<9223372036854775808:=by omega
 have hmx:=aeA hn
 have e0:∀ {x:Nat},(dN (.lt 9223372036854775808 18446744073709551616) from' 0=true)=False:=λ{x}=>by rw [IH];simp only [eq_iff_iff,iff_false];unfold nn at hf;omega
 have e0:=e0 (x:=0)
 have nz:¬ from'<0:=by omega
 have nm:nn (cs.length-1):=by unfold nn;omega
 have n0:nn 0:=by unfold nn;omega
 have q4:∀ {j:Nat} {x:ee},j<G3.n->G3.get j=x->G4.get j=x:=λhj h=>(f4.same _ hj).trans h
 have q5:∀ {j:Nat} {x:ee},j<G3.n->G3.get j=x->G5.get j=x:=λhj h=>(f35.same _ hj).trans h
 simp only [bu]at hG1 hG2 q1 q2 z4
 simp only [bj]at hG3 p3
 rcases hab:bS target base with _|_
 .rw [hab]at z4
  have w4:=f4.wf
  have b4:G2.n<G4.n:=by omega
  have p4:=q4 (by omega) p3
  obtain ⟨G6,hG6,f6,p6,n6,w6,k6⟩:=Heap.aU (b:=G2.n) (f03.trans f4) (by omega) b4 (.cells (bj (0,0) (0,0) 0 0 .aw))
  have hc:uO false cs.length from'=2:=by unfold uO;simp
  simp only [bj]at hG6 p6
  refine ⟨G6,.aw,λd k=>?_,f6,λh=>by rw [hc]at h;cases h⟩
  rw [hc,if_neg (by omega)]
  simp only [bj,bu]
  rw [aR T.XC rfl rfl]
  simp only [go_sem,V4,vX,hw,hG1,w1,hG2,w2,hG3,↓sn,c9]
  simp only [go_sem,vY,q1,q2,↓z4,p4,w4,b4,hG6,↓fT,p6]
 .rw [hab]at z4
  by_cases hfr:cs.length-1<from'
  .have w5:=f5.wf
   have b5:G2.n<G5.n:=by omega
   have p5:=q5 (by omega) p3
   obtain ⟨G6,hG6,f6,p6,n6,w6,k6⟩:=Heap.aU (b:=G2.n) (f03.trans f35) (by omega) b5 (.cells (bj (0,0) (0,0) 0 0 .aw))
   have hc:uO true cs.length from'=2:=by unfold uO;rw [if_pos (YE hfr)]
   simp only [bj]at hG6 p6
   refine ⟨G6,.aw,λd k=>?_,f6,λh=>by rw [hc]at h;cases h⟩
   rw [hc,if_neg (by omega)]
   simp only [bj,bu]
   rw [aR T.XC rfl rfl]
   simp only [go_sem,V4,vX,hw,hG1,w1,hG2,w2,hG3,↓sn,c9]
   simp only [go_sem,vY,q1,q2,↓z4,↓z5,hf,nz,n0,nm,hmx,hfr,p5,w5,b5,hG6,↓fT,p6]
  .have hce:uO true cs.length from'=0:=by unfold uO;rw [if_neg (by simp;omega)]
   have w5:=f5.wf
   have r1:=q5 (by omega) q1
   have r2:=q5 (by omega) q2
   have r3:=q5 (by omega) p3
   have f05:=f03.trans f35
   obtain ⟨G6,hG6,f6,p6,n6⟩:=Heap.aP w5 (.cells (bj (0,0) (0,0) 0 0 .aw))
   have w6:=f6.wf
   have b6:G5.n<G6.n:=by omega
   obtain ⟨G7,hG7,f7,p7,n7,w7,k7⟩:=Heap.aU (b:=G5.n) f6 (YA _) b6 (.cells (bj base target from' cs.length .aw))
   have f07:=f05.trans f7
   have a1:(from'+2)%18446744073709551616=from'+2:=by omega
   have rH:sm false 9223372036854775808 18446744073709551616 cs.length (from'+2)=min cs.length (from'+2):=Ox (by unfold nn;omega) (by unfold nn;omega)
   have hle:from'<=min cs.length (from'+2):=by omega
   have hff:from'<9223372036854775808:=by unfold nn at hf;omega
   have hmm:min cs.length (from'+2)<9223372036854775808:=by omega
   have hrl:(((bZ cs).drop (from'*2)).take ((min cs.length (from'+2)-from')*2)).length=(min cs.length (from'+2)-from')*2:=by rw [List.length_take,Wn,hX.1];omega
   have hro:∀ y ∈ ((bZ cs).drop (from'*2)).take ((min cs.length (from'+2)-from')*2),y.one=true:=λy hy=>hX.2.1 y (List.mem_of_mem_drop (List.mem_of_mem_take hy))
   have p3':G7.get G2.n = .cells (bj (0,0) (0,0) 0 0 .aw):=(k7 _ (by omega)).trans ((f6.same _ (by omega)).trans r3)
   have tail:∀ sub:V,Row G7 (λ_=>False) sub 2 (min cs.length (from'+2)-from') (((bZ cs).drop (from'*2)).take ((min cs.length (from'+2)-from')*2))->∃ v' G8 G9 Ga,(∀ {id:Nat} {ph:dg} {e:Env} {k:K} {a y:Arg},aA a e = .aw->aA y e=sub->aN (.app false 2 a y) id ph e G7 k=k v' G8)/\G8.wf/\G5.n<G8.n/\G8.get G5.n = .cells (bj base target from' cs.length .aw)/\G8.put G5.n (.cells (bj base target from' cs.length v'))=G9/\G9.wf/\G9.get G5.n = .cells (bj base target from' cs.length v')/\G9.get G2.n = .cells (bj (0,0) (0,0) 0 0 .aw)/\G2.n<G9.n/\G9.put G2.n (.cells (bj base target from' cs.length v'))=Ga/\Ga.get G2.n = .cells (bj base target from' cs.length v')/\ae H Ga/\v'.one=true/\Own H Ga v' 2 (min cs.length (from'+2)-from') (((bZ cs).drop (from'*2)).take ((min cs.length (from'+2)-from')*2)):=λsub hs=>by
    obtain ⟨v',G8,hap,o8,f8,k8,n8,of8⟩:=Own.app (H:=G7) (G:=G7) (w:=.aw) (x:=sub) (sz:=2) (m:=min cs.length (from'+2)-from') (ae.refl w7) Own.nil (λ{id f}=>hs.nc λ_ _ _=>rfl) hrl hro (by omega)
    rw [WG,YN]at o8
    have p8:G8.get G5.n = .cells (bj base target from' cs.length .aw):=(f8.same _ (by omega)).trans p7
    have f08:=f07.trans f8
    have b8:G5.n<G8.n:=by omega
    obtain ⟨G9,hG9,f9,p9,n9,w9,k9⟩:=Heap.aU (b:=G5.n) f08 (by have:=f05.n;omega) b8 (.cells (bj base target from' cs.length v'))
    have p9':G9.get G2.n = .cells (bj (0,0) (0,0) 0 0 .aw):=(k9 _ (by omega)).trans ((f8.same _ (by omega)).trans p3')
    have b9:G2.n<G9.n:=by omega
    obtain ⟨Ga,hGa,fa,pa,na,wa,ka⟩:=Heap.aU (b:=G2.n) f9 (by omega) b9 (.cells (bj base target from' cs.length v'))
    have oa:Own G7 Ga v' 2 (min cs.length (from'+2)-from') (((bZ cs).drop (from'*2)).take ((min cs.length (from'+2)-from')*2)):=(o8.eL (v:=.slice G5.n 0 0 0 0) (by omega) (λq _ ho=>k9 q (ho _ _ _ _ _ rfl)) (λb o n c s e b' o' n' c' s' e'=>by cases e';have:=(o8.cQ e).1;omega)).eL (v:=.slice G2.n 0 0 0 0) (by omega) (λq _ ho=>ka q (ho _ _ _ _ _ rfl)) λb o n c s e b' o' n' c' s' e'=>by cases e';have:=(o8.cQ e).1;omega
    exact ⟨v',G8,G9,Ga,hap,f8.wf,b8,p8,hG9,w9,p9,p9',b9,hGa,pa,fa,o8.one,oa.sub f07.n⟩
   simp only [bj]at hG6 p6 hG7 p7
   obtain ⟨hl,hone,⟨rfl,hn0⟩|⟨b,c,z,rest,rfl,hg,hc3,hbH,hbn⟩⟩:=hX
   .have hf0:from'=0:=by omega
    subst hf0
    have hm0:min cs.length (0+2)=0:=by omega
    have hm3:min cs.length 2=0:=by omega
    rw [hm0]at tail rH hle hmm
    obtain ⟨v',G8,G9,Ga,hap,w8,b8,p8,hG9,w9,p9,p9',b9,hGa,pa,fa,ov,oF⟩:=tail .aw ⟨by rw [hm0]at hrl;exact hrl,by rw [hm0]at hro;exact hro,YG ⟨YG rfl,rfl⟩⟩
    refine ⟨Ga,v',λd k=>?_,fa,λ_=>by rw [hm0];exact oF⟩
    rw [hce,if_pos rfl]
    simp only [bj]at p8 hG9 p9 p9' hGa pa
    simp only [bj,bu]
    have jv':=λ{id:Nat} {k:R}=>aG ov (id:=id) (k:=k)
    have wm7:G7.mark.wf:=by rw [Heap.cO];exact w7
    rw [aR T.XC rfl rfl]
    simp only [go_sem,V4,vX,hw,hG1,w1,hG2,w2,hG3,↓sn,c9]
    simp only [go_sem,vY,q1,q2,↓z4,↓z5,hf,nz,nm,hmx,hfr]
    simp only [go_sem,Cr,r1,r2,w5,hG6,p6,b6,w6,hG7]
    simp only [go_sem,Cs,p7,a1,rH,hff,↓hap,p8,w8,b8,↓jv',hG9]
    simp only [go_sem,Ct,Cu,p9,p9',w9,b9,↓jv',hGa,↓fT,pa]
   .have hsub:∀ c' z',Row G7 (λ_=>False) (.slice b (from'*2) (min cs.length (from'+2)-from') c' z') 2 (min cs.length (from'+2)-from') (((bZ cs).drop (from'*2)).take ((min cs.length (from'+2)-from')*2)):=λc' z'=>⟨hrl,hro,YE ⟨b,from'*2,c',z',bZ cs ++ rest,rfl,by rw [f07.same _ hbn];exact YG hg,YC hbn f07.n,λh=>h,by rw [YD,hl];omega,by rw [List.drop_append_of_le_length (by rw [hl];omega),List.take_append_of_le_length (by rw [Wn,hl];omega)]⟩⟩
    have hh:min cs.length (from'+2)<=cs.length:=by omega
    rcases hc3 with rfl|⟨rfl,rfl,rfl⟩
    .by_cases hcl:cs.length=from'
     .have hf0:from'=0:=by omega
      subst hf0
      have hcl':cs.length=0:=hcl
      have hm0:min cs.length (0+2)=0:=by omega
      have hm3:min cs.length 2=0:=by omega
      have hct:(cs.length=0)=True:=eq_true hcl'
      have hs:=hsub 1 0
      rw [Wm]at hs
      rw [hm0]at tail rH hle hmm hs
      rw [Wm]at tail
      obtain ⟨v',G8,G9,Ga,hap,w8,b8,p8,hG9,w9,p9,p9',b9,hGa,pa,fa,ov,oF⟩:=tail _ hs
      refine ⟨Ga,v',λd k=>?_,fa,λ_=>by rw [hm0];rw [Wm];exact oF⟩
      rw [hce,if_pos rfl]
      simp only [bj]at p8 hG9 p9 p9' hGa pa
      simp only [bj,bu]
      have jv':=λ{id:Nat} {k:R}=>aG ov (id:=id) (k:=k)
      have wm7:G7.mark.wf:=by rw [Heap.cO];exact w7
      rw [aR T.XC rfl rfl]
      simp only [go_sem,V4,vX,hw,hG1,w1,hG2,w2,hG3,↓sn,c9]
      simp only [go_sem,vY,q1,q2,↓z4,↓z5,hf,nz,nm,hmx,hfr]
      simp only [go_sem,Cr,r1,r2,w5,hG6,p6,b6,w6,hG7]
      simp only [go_sem,Cs,p7,a1,rH,hle,hff,hct,Yk,YA3,WG,↓hap,p8,w8,b8,↓jv',hG9]
      simp only [go_sem,Ct,Cu,p9,p9',w9,b9,↓jv',hGa,↓fT,pa]
     .obtain ⟨v',G8,G9,Ga,hap,w8,b8,p8,hG9,w9,p9,p9',b9,hGa,pa,fa,ov,oF⟩:=tail _ (hsub (cs.length-from'+1) 0)
      have hc1:¬ cs.length+1=0:=by omega
      have hc2:cs.length+1-1=cs.length:=by omega
      refine ⟨Ga,v',λd k=>?_,fa,λ_=>oF⟩
      rw [hce,if_pos rfl]
      simp only [bj]at p8 hG9 p9 p9' hGa pa
      simp only [bj,bu]
      have jv':=λ{id:Nat} {k:R}=>aG ov (id:=id) (k:=k)
      have wm7:G7.mark.wf:=by rw [Heap.cO];exact w7
      rw [aR T.XC rfl rfl]
      simp only [go_sem,V4,vX,hw,hG1,w1,hG2,w2,hG3,↓sn,c9]
      simp only [go_sem,vY,q1,q2,↓z4,↓z5,hf,nz,n0,nm,hmx,hfr]
      simp only [go_sem,Cr,r1,r2,w5,hG6,p6,b6,w6,hG7]
      simp only [go_sem,Cs,p7,a1,rH,hle,hff,hmm,hh,hcl,YA3,WG,↓hap,p8,w8,b8,↓jv',hG9]
      simp only [go_sem,Ct,Cu,p9,p9',w9,b9,↓jv',hGa,↓fT,pa]
    .obtain ⟨v',G8,G9,Ga,hap,w8,b8,p8,hG9,w9,p9,p9',b9,hGa,pa,fa,ov,oF⟩:=tail _ (hsub 0 2)
     refine ⟨Ga,v',λd k=>?_,fa,λ_=>oF⟩
     rw [hce,if_pos rfl]
     simp only [bj]at p8 hG9 p9 p9' hGa pa
     simp only [bj,bu]
     have jv':=λ{id:Nat} {k:R}=>aG ov (id:=id) (k:=k)
     have wm7:G7.mark.wf:=by rw [Heap.cO];exact w7
     rw [aR T.XC rfl rfl]
     simp only [go_sem,V4,vX,hw,hG1,w1,hG2,w2,hG3,↓sn,c9]
     simp only [go_sem,vY,q1,q2,↓z4,↓z5,hf,nz,n0,nm,hmx,hfr]
     simp only [go_sem,Cr,r1,r2,w5,hG6,p6,b6,w6,hG7]
     simp only [go_sem,Cs,p7,a1,rH,hle,hff,hmm,hh,WG,↓hap,p8,w8,b8,↓jv',hG9]
     simp only [go_sem,Ct,Cu,p9,p9',w9,b9,↓jv',hGa,↓fT,pa]
end Go.Ev
end
section
namespace Go.Ev
open Go.Proofs
def Zn (v:V) (n:Nat):Prop:=v.one=true/\∀ (id:Nat) (f:Nat->R),bz id v (λ_ _ len _ _=>f len) (f 0)=f n
theorem Own.slN {H G:Heap} {v:V} {sz n:Nat} {row:List V} (h:Own H G v sz n row):Zn v n:=⟨h.one,λ_ _=>h.sn⟩
theorem rY:Zn .aw 0:=⟨rfl,λ_ _=>rfl⟩
theorem sP {a b:List Tx}:∀ {i} {c:Wr},c ∈ lN a b i->c.1<i/\c.2=b.getD c.1 t0
 | 0,c,h=>by cases h
 | i+1,c,h=>by
  rcases Yt.1 h with h|h
  .obtain ⟨h1,h2⟩:=sP h
   exact ⟨by omega,h2⟩
  .split at h
   .cases h
   .rw [YO.1 h]
    exact ⟨YC2 i,rfl⟩
theorem CD {a b:List Tx}:∀ i,(lN a b i).Pairwise λx y=>x.1<y.1
 | 0=>List.Pairwise.nil
 | i+1=>by
  refine List.pairwise_append.2 ⟨CD i,?_,λx hx y hy=>?_⟩
  .split
   .exact List.Pairwise.nil
   .exact List.pairwise_singleton ..
  .split at hy
   .cases hy
   .rw [YO.1 hy]
    exact (sP hx).1
theorem V6 {a b:List Tx} (h:∀ x ∈ b,okV x):qm (Ra a b) b.length:=by
 refine ⟨λc hc=>?_,λi hi=>?_⟩
 .obtain ⟨h1,h2⟩:=sP hc
  have hb:c.2 ∈ b:=by
   rw [h2,YJ,YB h1]
   exact Yb h1
  exact ⟨h1,h _ hb⟩
 .have:=List.pairwise_iff_getElem.1 (CD (a:=a) (b:=b) b.length) i (i+1) (by unfold Ra at hi;omega) hi (YC2 i)
  rw [YJ,YJ,YB (by omega),YB hi]
  exact this
def xT (A:AD) (m:MT) (i:Nat):List Wr:=Ra ((nh m i).map (dI A)) ((m.ah.getD i ⟨(0,0),[],false⟩).cz.map (dI A))
def sk (n:Nat) (tg target:Gd) (next:Nat):Nat:=if ¬ target=tg\/next<1\/n<=next then 0 else next
section
variable {t:Nat->Option cW} {fuel:Nat} {H:Heap} {cp:RC->aq}
theorem Ky (T:aJ t) (hc:aY t) {dp vp a n:Nat} {A:AD} {O:Nat->Prop} {m:MT} {vl vs vi v:V} {kind ep bf len next nb:Nat} {ls:Bool} {last target tg:Gd} (S:VP H dp vp a n A O m vl vs vi) (hlp:∀ s ∈ m.ah,∀ p ∈ s.cz,p<A.len) (hil:∀ s ∈ m.ah,s.cz.length=m.live.length) (hch:qm (xT A m len) nb) (h8:nb<=8) (hv:v.one=true) (hlen:len<m.ah.length) (hlast:mg last) (htg:mg tg) (hnx:nn next) (hfu:1000<fuel):
 ∃ H' v',(∀ (d:Nat) (k:K),aj (aQ cp t fuel (d+6)) (.func 68 []) [.ptr vp 0,.agg (bu tg),.agg (iD kind ep bf ls v len last target next)] H k=k (.cE [.agg (if bS tg last=true then bj last tg (sk (xT A m len).length tg target next) (xT A m len).length v' else bj (0,0) (0,0) 0 0 .aw),.bool (bS tg last)]) H')/\Step H (bH O vp) H' (bH O vp)/\VP H' dp vp a n A O m vl vs vi/\Zn v' (if bS tg last=true then min (xT A m len).length (sk (xT A m len).length tg target next+2)-sk (xT A m len).length tg target next else 0):=by
 have hn0:=S.ok.num
 have w0:=S.eX.wf
 obtain ⟨G1,hG1,f1,p1,n1⟩:=Heap.aP w0 (.cells (bu tg))
 have w1:=f1.wf
 obtain ⟨G2,hG2,f2,p2,n2⟩:=Heap.aP w1 (.cells (iD kind ep bf ls v len last target next))
 have w2:=f2.wf
 obtain ⟨G3,hG3,f3,p3,n3⟩:=Heap.aP w2 (.cells (bj (0,0) (0,0) 0 0 .aw))
 have f03:=f1.trans (f2.trans f3)
 have q1:G3.get H.n = .cells (bu tg):=(f3.same _ (by omega)).trans ((f2.same _ (by omega)).trans p1)
 have q2:G3.get G1.n = .cells (iD kind ep bf ls v len last target next):=(f3.same _ (by omega)).trans p2
 have S3:=S.fresh f03
 have hnl:nn len:=by unfold nn;omega
 obtain ⟨G4,v4,z4o,s4,S4,-,o4⟩:=ym (cp:=cp) (fuel:=fuel) T hc S3 hnl hlp hil hfu
 have hsl:m.ah[len]? = some m.ah[len]:=YB hlen
 have o4:=o4 _ hsl
 have hcs:Ra ((nh m len).map (dI A)) (m.ah[len].cz.map (dI A))=xT A m len:=by unfold xT;rw [YJ,hsl];rfl
 rw [hcs]at o4
 rw [if_pos hlen]at z4o
 have hcl:(xT A m len).length<1000:=by
  have h1:=pq ((nh m len).map (dI A)) (m.ah[len].cz.map (dI A)) (m.ah[len].cz.map (dI A)).length
  have h2:=(S.ok.ah _ (Yb hlen)).2.1
  rw [<- hcs]
  unfold Ra
  rw [Yl]at h1 ⊢
  omega
 generalize hC:xT A m len=cs at hch o4 hcl hcs ⊢
 have z4:∀ {d:Nat} {k:K},aj (aQ cp t fuel (d+5)) (.func 159 [.ptr vp 0]) [.int 3 len] G3 k=k (.cE [v4,.int 3 0]) G4:=λ{d k}=>by
  rw [vZ (f:=159) (g:=158) rfl rfl rfl]
  exact z4o d k
 clear z4o
 have hfr:nn (sk cs.length tg target next):=by unfold sk;split<;>(unfold nn at *;omega)
 have hfle:¬ cs.length-1<sk cs.length tg target next:=by unfold sk;split<;>omega
 obtain ⟨G5,v5,z5o,f5,o5⟩:=MW (cp:=cp) (fuel:=fuel) (from':=sk cs.length tg target next) (base:=last) (target:=tg) T S4.eX.wf o4 hcl hch h8 hlast htg hfr hfu
 have z5:=λ{d:Nat} {k:K}=>z5o (d+1) k
 clear z5o
 have S5:=S4.fresh f5
 have hce:uO (bS tg last) cs.length (sk cs.length tg target next)=if bS tg last=true then 0 else 2:=by
  unfold uO
  rcases bS tg last with _|_
  .simp
  .rw [if_neg (by simp;omega)];rfl
 have m4:=s4.n
 have m5:=f5.n
 have lt0:∀ b,bH O vp b->b<H.n:=S.lt
 have r4:∀ j,H.n<=j->j<G3.n->G4.get j=G3.get j:=λj h1 h2=>(s4.same j h2 λh=>by have:=lt0 _ h;omega).1
 have r1:G4.get H.n = .cells (bu tg):=(r4 _ (YA _) (by omega)).trans q1
 have r2:G4.get G1.n = .cells (iD kind ep bf ls v len last target next):=(r4 _ (by omega) (by omega)).trans q2
 have r3:G4.get G2.n = .cells (bj (0,0) (0,0) 0 0 .aw):=(r4 _ (by omega) (by omega)).trans p3
 have w5:=f5.wf
 have p5:G5.get G2.n = .cells (bj (0,0) (0,0) 0 0 .aw):=(f5.same _ (by omega)).trans r3
 obtain ⟨P,hP⟩:∃ P,P=(if bS tg last=true then bj last tg (sk cs.length tg target next) cs.length v5 else bj (0,0) (0,0) 0 0 .aw):=⟨_,rfl⟩
 have hPl:∃ x1 x2 x3 x4 x5 x6 v6,P=[.int 7 x1,.int 7 x2,.int 7 x3,.int 7 x4,.int 3 x5,.int 3 x6,v6]/\v6.one=true:=by
  rw [hP]
  rcases hab:bS tg last with _|_
  .exact ⟨_,_,_,_,_,_,_,rfl,rfl⟩
  .exact ⟨_,_,_,_,_,_,_,rfl,(o5 (by rw [hce,hab];rfl)).one⟩
 have hPe:(if uO (bS tg last) cs.length (sk cs.length tg target next)=0 then bj last tg (sk cs.length tg target next) cs.length v5 else bj (0,0) (0,0) 0 0 .aw)=P:=by
  rw [hce,hP]
  rcases bS tg last with _|_<;>rfl
 rw [hPe]at z5
 obtain ⟨G6,hG6,f6,p6,n6⟩:=Heap.aP w5 (.cells (bj (0,0) (0,0) 0 0 .aw))
 have b6:G5.n<G6.n:=by omega
 obtain ⟨G7,hG7,f7,p7,n7,w7,k7⟩:=Heap.aU (b:=G5.n) f6 (YA _) b6 (.cells P)
 have p7':G7.get G2.n = .cells (bj (0,0) (0,0) 0 0 .aw):=((k7 _ (by omega)).trans (f6.same _ (by omega))).trans p5
 have b7:G2.n<G7.n:=by omega
 have sA:Step H (bH O vp) G7 (bH O vp):=f03.step.trans (s4.trans (f5.step.trans f7.step))
 obtain ⟨G8,hG8⟩:∃ G,G7.put G2.n (.cells P)=G:=⟨_,rfl⟩
 have sB:Step H (bH O vp) G8 (bH O vp):=by rw [<- hG8];exact sA.pJ (by omega) b7
 have s8:Step G7 (λb=>b=G2.n) G8 (λb=>b=G2.n):=by rw [<- hG8];exact Step.eJ w7 b7
 have S7:=S5.fresh f7
 have S8:VP G8 dp vp a n A O m vl vs vi:=⟨(S7.eX.cD s8 λb hb h=>by have:=lt0 b (YG hb);omega).1,S.off,S.can,S.lo,S.hi,(s8.same vp S7.vn λh=>by have:=S.vn;omega).1.trans S7.get,YC S.vn sB.n,S.vo,S.yX.cD sB,S.ok⟩
 have p8:G8.get G2.n = .cells P:=by rw [<- hG8,Heap.aF w7 b7,if_pos rfl]
 have sl5:Zn (if bS tg last=true then v5 else .aw) (if bS tg last=true then min cs.length (sk cs.length tg target next+2)-sk cs.length tg target next else 0):=by
  rcases hab:bS tg last with _|_
  .exact rY
  .exact (o5 (by rw [hce,hab];rfl)).slN
 refine ⟨G8,if bS tg last=true then v5 else .aw,λd k=>?_,sB,S8,sl5⟩
 have hP2:(if bS tg last=true then bj last tg (sk cs.length tg target next) cs.length (if bS tg last=true then v5 else .aw) else bj (0,0) (0,0) 0 0 .aw)=P:=by
  rw [hP]
  rcases bS tg last with _|_<;>rfl
 rw [hP2]
 obtain ⟨x1,x2,x3,x4,x5,x6,v6,rfl,hv6⟩:=hPl
 have jv:=λ{id:Nat} {k:R}=>aG hv (id:=id) (k:=k)
 have j4:=λ{id:Nat} {k:R}=>aG o4.one (id:=id) (k:=k)
 have j6:=λ{id:Nat} {k:R}=>aG hv6 (id:=id) (k:=k)
 have sn:=λ{id:Nat} {f:Nat->R}=>o4.sn (id:=id) (f:=f)
 have c9:cs.length<9223372036854775808:=by omega
 have nl:nn cs.length:=by unfold nn;omega
 have n1:nn 1:=by unfold nn;omega
 have w3:=f3.wf
 simp only [iD,bu]at hG1 hG2 q1 q2 r1 r2
 simp only [bu]at z5
 simp only [bj]at hG3 p3 r3 hG6 p6 p7'
 simp only [iD,bu]
 rw [aR T.k34 rfl rfl]
 simp only [go_sem,c34,Uq,Ur,w0,↓jv,hG1,w1,hG2,w2,hG3,q2,↓z4]
 simp only [go_sem,Us,Ut,r2]
 have tail:∀ e',aa s004 e' = .ptr H.n 0->aa s005 e' = .ptr G1.n 0->aa s006 e' = .ptr G2.n 0->aa s011 e'=v4->aa s013 e' = .int 3 (sk cs.length tg target next)->(fM Iu fuel (aQ cp t fuel (d+5)) e' G4 (jy [.eV s006 7,.tmp s007] k) λn e H=>if n=0 then jy [.eV s006 7,.tmp s007] k e H else no 6)=k (.cE [.agg [.int 7 x1,.int 7 x2,.int 7 x3,.int 7 x4,.int 3 x5,.int 3 x6,v6],.bool (bS tg last)]) G8:=λe' q4 q5 q6 q11 q13=>by
  rw [hce]at z5
  rcases hab:bS tg last with _|_
  .rw [hab]at z5
   simp only [YU,if_false]at z5
   simp only [go_sem,Iu,Mh,Mj,q4,q5,q6,q11,q13,r1,r2,↓z5,w5,hG6,p6,b6,↓j6,f6.wf,hG7,p7,p7',b7,w7,hG8,↓fT,p8]
  .rw [hab]at z5
   simp only [if_true]at z5
   simp only [go_sem,Iu,Mh,Mj,q4,q5,q6,q11,q13,r1,r2,↓z5,w5,hG6,p6,b6,↓j6,f6.wf,hG7,p7,p7',b7,w7,hG8,↓fT,p8]
 by_cases e1:target=tg
 .have eq1:=λ{id:Nat} {f:Bool->R}=>St (id:=id) (f:=f) e1
  by_cases e2:next<1
  .have hf0:sk cs.length tg target next=0:=by unfold sk;rw [if_pos (YE (YG e2))]
   rw [hf0]at tail
   simp only [go_sem,↓rJ,Cg,r1,r2,cB,↓eq1,Wq,hnx,n1,e2,↓sn,c9,nl]
   exact tail _ rfl rfl rfl rfl rfl
  .by_cases e3:cs.length<=next
   .have hf0:sk cs.length tg target next=0:=by unfold sk;rw [if_pos (YE (YE e3))]
    rw [hf0]at tail
    simp only [go_sem,↓rJ,Cg,r1,r2,cB,↓eq1,Wq,hnx,n1,e2,↓sn,c9,nl,e3]
    exact tail _ rfl rfl rfl rfl rfl
   .have hf0:sk cs.length tg target next=next:=by unfold sk;rw [if_neg (by simp only [e1,not_true_eq_false,false_or];omega)]
    rw [hf0]at tail
    simp only [go_sem,↓rJ,Cg,r1,r2,cB,↓eq1,Wq,hnx,n1,e2,↓sn,c9,nl,e3]
    exact tail _ rfl rfl rfl rfl rfl
 .have eq0:=λ{id:Nat} {f:Bool->R}=>aen (id:=id) (f:=f) e1
  have hf0:sk cs.length tg target next=0:=by unfold sk;rw [if_pos (YG e1)]
  rw [hf0]at tail
  simp only [go_sem,ZE,↓rJ,Cg,r1,r2,cB,↓eq0]
  exact tail _ rfl rfl rfl rfl rfl
end
end Go.Ev
end
section
namespace Go.Ev
open Go.Proofs
structure SvR where
 kind:Nat
 idx:Nat
 tg:Gd
 frm:Nat
 nch:Nat
def EZ (A:AD) (m:MT) (len next:Nat) (last target:Gd):SvR:=
 if hasB (m.ah.map (·.g)) len last=false then ⟨7,18446744073709551615,(0,0),0,0⟩
 else if len<m.ah.length/\bS ((m.ah.map (·.g)).getD len (0,0)) last=true then ⟨6,len,(m.ah.map (·.g)).getD len (0,0),sk (xT A m len).length ((m.ah.map (·.g)).getD len (0,0)) target next,min (xT A m len).length (sk (xT A m len).length ((m.ah.map (·.g)).getD len (0,0)) target next+2)-sk (xT A m len).length ((m.ah.map (·.g)).getD len (0,0)) target next⟩
 else ⟨7,len,(0,0),0,0⟩
def rT (kind ep bf:Nat) (ls:Bool) (v:V) (P:List V):List V:=[.int 3 kind,.int 7 0,.int 3 0,.int 7 0,.aw,.int 3 0,.bool false,.int 3 0,.int 3 0,.int 7 ep,.int 3 bf,.bool ls,v,.int 3 0,.int 7 0,.int 7 0,.int 7 0,.int 7 0,.int 3 0] ++ P
def ZL (l:List V) (r:SvR):Prop:=∃ ep bf ls v b al v5,l=rT r.kind ep bf ls v (bj b r.tg r.frm al v5)/\v.one=true/\Zn v5 r.nch
theorem Ji {G:Heap} {j:Nat} (hw:G.wf) (hb:j<G.n) (x:ee):∃ G',G.put j x=G'/\G'.get j=x/\G'.n=G.n/\G'.wf/\∀ q,q≠j->G'.get q=G.get q:=⟨_,rfl,by rw [Heap.aF hw hb,if_pos rfl],Heap.aT,by rw [Heap.bI];exact hw,λq h=>by rw [Heap.aF hw hb,if_neg h]⟩
section
variable {t:Nat->Option cW} {fuel:Nat} {H:Heap} {cp:RC->aq}
theorem mR (T:aJ t) (hc:aY t) {dp vp a n:Nat} {A:AD} {O:Nat->Prop} {m:MT} {vl vs vi v vq:V} {ep bf ep' bf' len next nl:Nat} {ls ls':Bool} {last target:Gd} {row:List V} (S:VP H dp vp a n A O m vl vs vi) (hlp:∀ s ∈ m.ah,∀ p ∈ s.cz,p<A.len) (hil:∀ s ∈ m.ah,s.cz.length=m.live.length) (hil8:∀ s ∈ m.ah,s.cz.length<=8) (hvt:VT A m) (hv:v.one=true) (hq:Row H (bH O vp) vq 2 nl row) (hnl:nl<1000000) (hlen:nn len) (hlast:mg last) (hnx:nn next) (hfu:1000<fuel):
 ∃ H' l,(∀ (d:Nat) (k:K),aj (aQ cp t fuel (d+7)) (.func 22 []) [.ptr vp 0,.agg [.int 7 ep',.int 3 bf',.bool ls',vq],.agg (iD 5 ep bf ls v len last target next)] H k=k (.cE [.agg l,.int 3 (EZ A m len next last target).idx]) H')/\Step H (bH O vp) H' (bH O vp)/\VP H' dp vp a n A O m vl vs vi/\ZL l (EZ A m len next last target):=by
 have hn0:=S.ok.num
 have w0:=S.eX.wf
 obtain ⟨G1,hG1,f1,p1,n1⟩:=Heap.aP w0 (.cells [.int 7 ep',.int 3 bf',.bool ls',vq])
 have w1:=f1.wf
 obtain ⟨G2,hG2,f2,p2,n2⟩:=Heap.aP w1 (.cells (iD 5 ep bf ls v len last target next))
 have w2:=f2.wf
 obtain ⟨G3,hG3,f3,p3,n3⟩:=Heap.aP w2 (.cells (rT 0 0 0 false .aw (bj (0,0) (0,0) 0 0 .aw)))
 have f03:=f1.trans (f2.trans f3)
 have S3:=S.fresh f03
 have q1:G3.get H.n = .cells [.int 7 ep',.int 3 bf',.bool ls',vq]:=(f3.same _ (by omega)).trans ((f2.same _ (by omega)).trans p1)
 have q2:G3.get G1.n = .cells (iD 5 ep bf ls v len last target next):=(f3.same _ (by omega)).trans p2
 obtain ⟨G4,vo,z4o,f4,o4⟩:=DT (cp:=cp) (fuel:=fuel) (ep:=ep') (bf:=bf') (ls:=ls') T f3.wf (hq.fresh f03) S3.lt hnl
 have z4:=λ{d:Nat} {k:K}=>z4o (d+4) k
 clear z4o
 have w4:=f4.wf
 have m4:=f4.n
 obtain ⟨G5,hG5,f5,p5,n5⟩:=Heap.aP w4 (.cells (rT 0 0 0 false .aw (bj (0,0) (0,0) 0 0 .aw)))
 have w5:=f5.wf
 have b5:G4.n<G5.n:=by omega
 obtain ⟨G6,hG6,f6,p6,n6,w6,k6⟩:=Heap.aU (b:=G4.n) f5 (YA _) b5 (.cells (rT 7 ep' bf' ls' vo (bj (0,0) (0,0) 0 0 .aw)))
 have f06:=f03.trans (f4.trans f6)
 have S6:=S.fresh f06
 obtain ⟨G7,vL,z7o,f7,o7⟩:=kE (cp:=cp) (fuel:=fuel) T S6 hfu
 have z7:=λ{d:Nat} {k:K}=>z7o (d+5) k
 clear z7o
 have w7:=f7.wf
 have m7:=f7.n
 have hLr:=o7.toRow (O:=λ_=>False) λb h=>h.elim
 have hgl:(m.ah.map (·.g)).length=m.ah.length:=Yl ..
 obtain ⟨G8,z8o,f8⟩:=N9 (cp:=cp) (fuel:=fuel) (kind:=5) (ep:=ep) (bf:=bf) (ls:=ls) (next:=next) (target:=target) (last:=last) (gs:=m.ah.map (·.g)) T w7 hv (by rw [hgl];exact hLr) (by rw [hgl];omega) hlen hfu
 have z8:=λ{d:Nat} {k:K}=>z8o (d+5) k
 clear z8o
 have w8:=f8.wf
 have m8:=f8.n
 have f48:=f4.trans (f6.trans (f7.trans f8))
 have f08:=f03.trans f48
 have S8:=S.fresh f08
 have jq:=λ{id:Nat} {k:R}=>aG hq.one (id:=id) (k:=k)
 have jv:=λ{id:Nat} {k:R}=>aG hv (id:=id) (k:=k)
 have jo:=λ{id:Nat} {k:R}=>aG o4.one (id:=id) (k:=k)
 have jL:=λ{id:Nat} {k:R}=>aG o7.one (id:=id) (k:=k)
 have sL:=λ{id:Nat} {f:Nat->R}=>o7.sn (id:=id) (f:=f)
 have c9:m.ah.length<9223372036854775808:=by omega
 have nL:nn m.ah.length:=by unfold nn;omega
 have t2:G7.get G1.n = .cells (iD 5 ep bf ls v len last target next):=(f7.same _ (by omega)).trans ((k6 _ (by omega)).trans ((f5.same _ (by omega)).trans ((f4.same _ (by omega)).trans q2)))
 have u2:G8.get G1.n = .cells (iD 5 ep bf ls v len last target next):=(f8.same _ (by omega)).trans t2
 have u4:G8.get G4.n = .cells (rT 7 ep' bf' ls' vo (bj (0,0) (0,0) 0 0 .aw)):=(f8.same _ (by omega)).trans ((f7.same _ (by omega)).trans p6)
 have u3:G8.get G2.n = .cells (rT 0 0 0 false .aw (bj (0,0) (0,0) 0 0 .aw)):=(f8.same _ (by omega)).trans ((f7.same _ (by omega)).trans ((k6 _ (by omega)).trans ((f5.same _ (by omega)).trans ((f4.same _ (by omega)).trans p3))))
 have lt0:∀ b,bH O vp b->b<H.n:=S.lt
 have fin:∀ {G:Heap} {l:List V} {j:Nat},Step H (bH O vp) G (bH O vp)->VP G dp vp a n A O m vl vs vi->H.n<=j->j<G.n->Step H (bH O vp) (G.put j (.cells l)) (bH O vp)/\VP (G.put j (.cells l)) dp vp a n A O m vl vs vi:=λ{G l j} s SG hj hb=>by
  have s':Step G (λb=>b=j) (G.put j (.cells l)) (λb=>b=j):=Step.eJ SG.eX.wf hb
  have sB:Step H (bH O vp) (G.put j (.cells l)) (bH O vp):=s.pJ hj hb
  exact ⟨sB,(SG.eX.cD s' λb hb h=>by have:=lt0 b (YG hb);omega).1,S.off,S.can,S.lo,S.hi,(s'.same vp SG.vn λh=>by have:=S.vn;omega).1.trans SG.get,YC S.vn sB.n,S.vo,S.yX.cD sB,S.ok⟩
 have b8:G2.n<G8.n:=by omega
 obtain ⟨KK,hKK⟩:∃ KK:K->Nat->Env->Heap->R,KK=λk n e H=>if n=0 then jy [.eV s006 26,.tmp s007] k e H else no 6:=⟨_,rfl⟩
 have tail:∀ {G:Heap} {e:Env} {kd:Nat} {v5:V} {b tg:Gd} {fr al:Nat} (d:Nat) (k:K),G.wf->G2.n<G.n->G.get G1.n = .cells (iD 5 ep bf ls v len last target next)->G.get G4.n = .cells (rT kd ep' bf' ls' vo (bj b tg fr al v5))->G.get G2.n = .cells (rT 0 0 0 false .aw (bj (0,0) (0,0) 0 0 .aw))->v5.one=true->aa s005 e = .ptr G1.n 0->aa s006 e = .ptr G2.n 0->aa s010 e = .ptr G4.n 0->
  fM Me fuel (aQ cp t fuel (d+6)) e G (jy [.eV s006 26,.tmp s007] k) (KK k)=k (.cE [.agg (rT kd ep' bf' ls' vo (bj b tg fr al v5)),.int 3 len]) (G.put G2.n (.cells (rT kd ep' bf' ls' vo (bj b tg fr al v5)))):=λ{G e kd v5 b tg fr al} d k hw hb g1 g4 g2 h5 q5 q6 q10=>by
  have j5:=λ{id:Nat} {k:R}=>aG h5 (id:=id) (k:=k)
  have hm:G.mark.wf:=by rw [Heap.cO];exact hw
  simp only [iD]at g1
  simp only [rT,bj,YP,YN]at g4 g2 ⊢
  obtain ⟨G',hG'⟩:∃ G',G.put G2.n (.cells [.int 3 kd,.int 7 0,.int 3 0,.int 7 0,.aw,.int 3 0,.bool false,.int 3 0,.int 3 0,.int 7 ep',.int 3 bf',.bool ls',vo,.int 3 0,.int 7 0,.int 7 0,.int 7 0,.int 7 0,.int 3 0,.int 7 b.1,.int 7 b.2,.int 7 tg.1,.int 7 tg.2,.int 3 fr,.int 3 al,v5])=G':=⟨_,rfl⟩
  have g':G'.get G2.n = .cells [.int 3 kd,.int 7 0,.int 3 0,.int 7 0,.aw,.int 3 0,.bool false,.int 3 0,.int 3 0,.int 7 ep',.int 3 bf',.bool ls',vo,.int 3 0,.int 7 0,.int 7 0,.int 7 0,.int 7 0,.int 3 0,.int 7 b.1,.int 7 b.2,.int 7 tg.1,.int 7 tg.2,.int 3 fr,.int 3 al,v5]:=by rw [<- hG',Heap.aF hw hb,if_pos rfl]
  simp only [go_sem,Me,T9,jS,cJ,wB,q10,g4,q5]
  refine (gG (b:=G1.n) (o:=13) (v:=.int 3 len) rfl (by omega) (λk=>by simp only [go_sem,g1]) (λk=>cG)).trans ?_
  refine (lU (b:=G2.n) (o:=0) (v:=.cE []) (H':=G') (by simp only [go_sem,q6]) (λk=>by simp only [go_sem,q6,g2,hw,hb,↓jo,↓j5,hG']) (λk=>by rw [dF,if_neg (by decide),if_neg (by omega),cG])).trans ?_
  simp only [go_sem,cJ,fV,hKK,↓fT,q6,g',hG']
 rcases hh:hasB (m.ah.map (·.g)) len last with _|_
 .have hr:EZ A m len next last target=⟨7,18446744073709551615,(0,0),0,0⟩:=by unfold EZ;rw [if_pos hh]
  rw [hr]
  rw [hh]at z8
  obtain ⟨sB,SB⟩:=fin (l:=rT 7 ep' bf' ls' vo (bj (0,0) (0,0) 0 0 .aw)) f08.step S8 (show H.n<=G2.n by omega) (by omega)
  refine ⟨_,_,λd k=>?_,sB,SB,⟨ep',bf',ls',vo,(0,0),0,.aw,rfl,o4.one,rY⟩⟩
  simp only [iD]at hG2 q2 t2 u2 z8
  simp only [rT,bj,YP,YN]at hG3 p3 hG5 p5 hG6 p6 u3 u4
  simp only [iD,rT,bj,YP,YN]
  rw [aR T.k11 rfl rfl]
  simp only [go_sem,Z6,Cb,w0,↓jq,↓jv,hG1,w1,hG2,w2,hG3,q2]
  simp only [go_sem,Cc,Cd,q1,↓z4,w4,↓jo,hG5,p5,b5,w5,hG6,↓z7]
  simp only [go_sem,Ce,t2,↓z8,u3,u4,b8,w8,↓jo,↓fT]
 .rw [hh]at z8
  have hh':¬ hasB (m.ah.map (·.g)) len last=false:=by rw [hh];simp
  by_cases hln:len<m.ah.length
  .have hsl:m.ah[len]? = some m.ah[len]:=YB hln
   have hgd:(m.ah.map (·.g)).getD len (0,0)=m.ah[len].g:=by rw [YJ,Yh,hsl];rfl
   have hgi:(m.ah.map (·.g))[len]? = some m.ah[len].g:=by rw [Yh,hsl];rfl
   have hch:qm (xT A m len) m.ah[len].cz.length:=by
    unfold xT
    rw [YJ,hsl,Yn]
    have:=V6 (a:=(nh m len).map (dI A)) (b:=m.ah[len].cz.map (dI A)) λx hx=>by
     obtain ⟨q,hq,rfl⟩:=Ye.1 hx
     exact hvt _ (YH _ (YH _ (Ye.2 ⟨_,Yb hln,rfl⟩))) q hq
    rw [Yl]at this
    exact this
   have hg:=(S.ok.ah _ (Yb hln)).1
   have hi8:=hil8 _ (Yb hln)
   unfold EZ
   rw [if_neg hh',hgd]
   obtain ⟨bL,oL,cL,zL,hvL,hbL,-,hrL⟩:=hLr.open (i:=len) hln
   rw [nW hgi]at hrL
   have hrL:=λ{id:Nat} {k:List V->R}=>(hrL (G:=G8) (f8.same _ hbL)).1 (id:=id) (k:=k)
   generalize m.ah[len].g=tg at hg hrL
   obtain ⟨G9,v9,z9o,s9,S9,sl9⟩:=Ky (cp:=cp) (fuel:=fuel) (kind:=5) (ep:=ep) (bf:=bf) (ls:=ls) (v:=v) (next:=next) (target:=target) T hc S8 hlp hil hch hi8 hv hln hlast hg hnx hfu
   have z9:=λ{d:Nat} {k:K}=>z9o d k
   clear z9o
   have m9:=s9.n
   have r9:∀ j,H.n<=j->j<G8.n->G9.get j=G8.get j:=λj h1 h2=>(s9.same j h2 λh=>by have:=lt0 _ h;omega).1
   have w9:=S9.eX.wf
   have g91:=(r9 G1.n (by omega) (by omega)).trans u2
   have g94:=(r9 G4.n (by omega) (by omega)).trans u4
   have g92:=(r9 G2.n (by omega) (by omega)).trans u3
   obtain ⟨Ga,hGa,fa,pa,na⟩:=Heap.aP w9 (.cells (bj (0,0) (0,0) 0 0 .aw))
   have wa:=fa.wf
   have ba:G9.n<Ga.n:=by omega
   have sa:Step H (bH O vp) Ga (bH O vp):=f08.step.trans (s9.trans fa.step)
   have Sa:=S9.fresh fa
   rcases hab:bS tg last with _|_
   .rw [hab]at z9
    simp only [YU,if_false]at z9
    rw [if_neg (by simp)]
    obtain ⟨sb,Sb⟩:=fin (l:=bj (0,0) (0,0) 0 0 .aw) sa Sa (show H.n<=G9.n by omega) ba
    obtain ⟨Gb,hGb,fb,pb,nb,wb,kb⟩:=Heap.aU (b:=G9.n) fa (YA _) ba (.cells (bj (0,0) (0,0) 0 0 .aw))
    rw [hGb]at sb Sb
    have gk:∀ {j:Nat} {x:ee},j<G9.n->G9.get j=x->Gb.get j=x:=λh e=>(kb _ (by omega)).trans ((fa.same _ h).trans e)
    obtain ⟨sB,SB⟩:=fin (l:=rT 7 ep' bf' ls' vo (bj (0,0) (0,0) 0 0 .aw)) sb Sb (show H.n<=G2.n by omega) (by omega)
    refine ⟨_,_,λd k=>?_,sB,SB,⟨ep',bf',ls',vo,(0,0),0,.aw,rfl,o4.one,rY⟩⟩
    have tl:=λ{e:Env}=>tail (e:=e) d k wb (by omega) (gk (by omega) g91) (gk (by omega) g94) (gk (by omega) g92) rfl
    simp only [hKK]at tl
    simp only [iD,bu]at hG2 q2 t2 u2 z8 z9
    simp only [rT,bj,YP,YN]at hG3 p3 hG5 p5 hG6 p6 u3 u4 z9 hGa pa hGb
    simp only [iD]
    simp only [bu]at hrL
    have hl9:len<9223372036854775808:=hlen
    subst hvL
    rw [aR T.k11 rfl rfl]
    simp only [go_sem,Z6,Cb,w0,↓jq,↓jv,hG1,w1,hG2,w2,hG3,q2]
    simp only [go_sem,Cc,Cd,q1,↓z4,w4,↓jo,hG5,p5,b5,w5,hG6,↓z7]
    simp only [go_sem,Ce,Is,t2,↓z8,u2,c9,nL,hlen,hl9,hln,↓hrL,↓z9,w9,wa,hGa,pa,ba,hGb]
    exact tl rfl rfl rfl
   .rw [hab]at z9 sl9
    simp only [if_true]at z9 sl9
    rw [if_pos ⟨hln,rfl⟩]
    generalize hfr:sk (xT A m len).length tg target next=fr at z9 sl9 ⊢
    generalize (xT A m len).length=nc at z9 sl9 ⊢
    obtain ⟨sb,Sb⟩:=fin (l:=bj last tg fr nc v9) sa Sa (show H.n<=G9.n by omega) ba
    obtain ⟨Gb,hGb,fb,pb,nb,wb,kb⟩:=Heap.aU (b:=G9.n) fa (YA _) ba (.cells (bj last tg fr nc v9))
    rw [hGb]at sb Sb
    have gk:∀ {j:Nat} {x:ee},j<G9.n->G9.get j=x->Gb.get j=x:=λh e=>(kb _ (by omega)).trans ((fa.same _ h).trans e)
    have bb:G4.n<Gb.n:=by omega
    obtain ⟨sc,Sc⟩:=fin (l:=rT 6 ep' bf' ls' vo (bj (0,0) (0,0) 0 0 .aw)) sb Sb (show H.n<=G4.n by omega) bb
    obtain ⟨Gc,hGc,pc,nc',wc,kc⟩:=Ji wb bb (.cells (rT 6 ep' bf' ls' vo (bj (0,0) (0,0) 0 0 .aw)))
    rw [hGc]at sc Sc
    have bc:G4.n<Gc.n:=by omega
    obtain ⟨sd,Sd⟩:=fin (l:=rT 6 ep' bf' ls' vo (bj last tg fr nc v9)) sc Sc (show H.n<=G4.n by omega) bc
    obtain ⟨Gd,hGd,pd,nd,wd,kd⟩:=Ji wc bc (.cells (rT 6 ep' bf' ls' vo (bj last tg fr nc v9)))
    rw [hGd]at sd Sd
    have hk:∀ {j:Nat} {x:ee},j<G9.n->j≠G4.n->G9.get j=x->Gd.get j=x:=λh h' e=>(kd _ h').trans ((kc _ h').trans (gk h e))
    have gb4:=gk (j:=G4.n) (by omega) g94
    obtain ⟨sB,SB⟩:=fin (l:=rT 6 ep' bf' ls' vo (bj last tg fr nc v9)) sd Sd (show H.n<=G2.n by omega) (by omega)
    refine ⟨_,_,λd k=>?_,sB,SB,⟨ep',bf',ls',vo,last,nc,v9,rfl,o4.one,sl9⟩⟩
    have tl:=λ{e:Env}=>tail (e:=e) d k wd (by omega) (hk (by omega) (by omega) g91) pd (hk (by omega) (by omega) g92) sl9.1
    have j9:=λ{id:Nat} {k:R}=>aG sl9.1 (id:=id) (k:=k)
    simp only [hKK]at tl
    simp only [iD,bu]at hG2 q2 t2 u2 z8 z9
    simp only [rT,bj,YP,YN]at hG3 p3 hG5 p5 hG6 p6 u3 u4 z9 hGa pa hGb pb gb4 hGc pc hGd
    simp only [iD]
    simp only [bu]at hrL
    have hl9:len<9223372036854775808:=hlen
    subst hvL
    rw [aR T.k11 rfl rfl]
    simp only [go_sem,Z6,Cb,w0,↓jq,↓jv,hG1,w1,hG2,w2,hG3,q2]
    simp only [go_sem,Cc,Cd,q1,↓z4,w4,↓jo,hG5,p5,b5,w5,hG6,↓z7]
    simp only [go_sem,Ce,Is,t2,↓z8,u2,c9,nL,hlen,hl9,hln,↓hrL,↓z9,w9,wa,hGa,pa,ba,↓j9,hGb,jS]
    refine YV (gG (b:=G9.n) (o:=0) (v:=.agg [.int 7 last.1,.int 7 last.2,.int 7 tg.1,.int 7 tg.2,.int 3 fr,.int 3 nc,v9]) rfl (by omega) (λk=>by simp only [go_sem,pb]) (λk=>cG)) ?_
    simp only [go_sem,cJ]
    refine YV (lU (b:=G4.n) (o:=0) (v:=.cE []) (H':=Gc) rfl (λk=>by simp only [go_sem,gb4,wb,bb,hGc]) (λk=>by rw [dF,if_neg (by decide),if_neg (by omega),cG])) ?_
    simp only [go_sem,cJ,fV,pc,wc,bc,↓j9,hGd]
    exact tl rfl rfl rfl
  .have hr:EZ A m len next last target=⟨7,len,(0,0),0,0⟩:=by unfold EZ;rw [if_neg hh',if_neg (λh=>hln h.1)]
   rw [hr]
   obtain ⟨sB,SB⟩:=fin (l:=rT 7 ep' bf' ls' vo (bj (0,0) (0,0) 0 0 .aw)) f08.step S8 (show H.n<=G2.n by omega) (by omega)
   refine ⟨_,_,λd k=>?_,sB,SB,⟨ep',bf',ls',vo,(0,0),0,.aw,rfl,o4.one,rY⟩⟩
   have tl:=λ{e:Env}=>tail (e:=e) d k w8 b8 u2 u4 u3 rfl
   simp only [hKK]at tl
   simp only [iD]at hG2 q2 t2 u2 z8
   simp only [rT,bj,YP,YN]at hG3 p3 hG5 p5 hG6 p6 u3 u4
   simp only [iD]
   rw [aR T.k11 rfl rfl]
   simp only [go_sem,Z6,Cb,w0,↓jq,↓jv,hG1,w1,hG2,w2,hG3,q2]
   simp only [go_sem,Cc,Cd,q1,↓z4,w4,↓jo,hG5,p5,b5,w5,hG6,↓z7]
   simp only [go_sem,Ce,Is,t2,↓z8,u2,↓sL,c9,nL,hlen,hln]
   exact tl rfl rfl rfl
end
end Go.Ev
end
section
namespace Go.Ev
open Go.Proofs
theorem VP.cD {H G:Heap} {dp vp a n:Nat} {A:AD} {O Q Q':Nat->Prop} {m:MT} {vl vs vi:V} (S:VP H dp vp a n A O m vl vs vi) (s:Step H Q G Q') (hq:∀ b,bH O vp b->¬ Q b) (hm:jk G (bH O vp) m vl vs vi):VP G dp vp a n A O m vl vs vi:=
 ⟨(S.eX.cD s λb hb=>hq b (YG hb)).1,S.off,S.can,S.lo,S.hi,(s.same vp S.vn (hq vp (YE rfl))).1.trans S.get,YC S.vn s.n,S.vo,hm,S.ok⟩
structure Rd (A:AD) (m:MT):Prop where
 lp:∀ s ∈ m.ah,∀ p ∈ s.cz,p<A.len
 il:∀ s ∈ m.ah,s.cz.length=m.live.length
 i8:∀ s ∈ m.ah,s.cz.length<=8
 vt:VT A m
 tk:m.tok=xG
 g:mg (cg m).g
theorem VJ.rd {pk:List UInt8->List (List UInt8)} {A:AD} {a n nb:Nat} {us:List Wr} {m:MT} (I:VJ pk A a n us m nb):Rd A m:=by
 have h:∀ s ∈ m.ah,iK s.cz nb A.len:=λs hs=>I.ok.ah.mem hs
 refine ⟨λs hs p hp=>?_,λs hs=>(h s hs).len.trans I.lb.symm,λs hs=>by rw [(h s hs).len];exact (h s hs).hi,I.vt,I.tk,?_⟩
 .have:=I.lo
  rcases (h s hs).pl p hp with h|h<;>omega
 .rcases hn:m.ah.length with _|q
  .rw [pE hn]
   exact ⟨by show 0<_;omega,by show 0<_;omega⟩
  .have hs:m.ah[q]? = some m.ah[q]:=YB (by omega)
   rw [pD hs hn]
   exact jG I.Jc _ (Yb _)
theorem Step.aei {H H':Heap} {P P' Q Q':Nat->Prop} (s:Step H P H' P') (h:∀ b,P b↔Q b) (h':∀ b,P' b↔Q' b):Step H Q H' Q':=by
 obtain rfl:P=Q:=funext λb=>propext (h b)
 obtain rfl:P'=Q':=funext λb=>propext (h' b)
 exact s
structure BZ (H G:Heap) (dp vp a n:Nat) (A:AD) (O:Nat->Prop) (m:MT) (vl vs vi:V) (dq vq b k:Nat) (B:AD) (Q:Nat->Prop) (w:MT) (wl ws wi:V):Prop where
 u:VP G dp vp a n A O m vl vs vi
 v:VP G dq vq b k B Q w wl ws wi
 mu:jk G (λx=>bH Q vq x\/bH O vp x) m vl vs vi
 mv:jk G (λx=>bH O vp x\/bH Q vq x) w wl ws wi
 dis:∀ x,bH O vp x->¬ bH Q vq x
 fr:ae H G
 ou:∀ x,bH O vp x->H.n<=x
 ov:∀ x,bH Q vq x->H.n<=x
section
variable {H G G':Heap} {dp vp a n dq vq b k:Nat} {A B:AD} {O Q:Nat->Prop} {m w:MT} {vl vs vi wl ws wi:V}
theorem BZ.swap (T:BZ H G dp vp a n A O m vl vs vi dq vq b k B Q w wl ws wi):BZ H G dq vq b k B Q w wl ws wi dp vp a n A O m vl vs vi:=
 ⟨T.v,T.u,T.mv,T.mu,λx h h'=>T.dis x h' h,T.fr,T.ov,T.ou⟩
theorem BZ.fresh (T:BZ H G dp vp a n A O m vl vs vi dq vq b k B Q w wl ws wi) (f:ae G G'):BZ H G' dp vp a n A O m vl vs vi dq vq b k B Q w wl ws wi:=
 ⟨T.u.fresh f,T.v.fresh f,T.mu.fresh f,T.mv.fresh f,T.dis,T.fr.trans f,T.ou,T.ov⟩
theorem BZ.step (T:BZ H G dp vp a n A O m vl vs vi dq vq b k B Q w wl ws wi) (s:Step G (bH O vp) G' (bH O vp)) (S:VP G' dp vp a n A O m vl vs vi):BZ H G' dp vp a n A O m vl vs vi dq vq b k B Q w wl ws wi:=by
 have mv':jk G' (λx=>bH O vp x\/bH Q vq x) w wl ws wi:=T.mv.cD ((s.or (O:=bH Q vq)).aei (λx=>Or.comm) λx=>Or.comm)
 exact ⟨S,T.v.cD s (λx h h'=>T.dis x h' h) (mv'.si λx _ h=>YE h),T.mu.cD s.or,mv',T.dis,(T.fr.own s T.ou).1,T.ou,T.ov⟩
theorem mO {O:Nat->Prop} {sz:Nat}:Row G O .aw sz 0 []:=⟨by simp,λx hx=>(by cases hx),YG ⟨YG rfl,rfl⟩⟩
def Kept (G G':Heap) (P:Nat->Prop):Prop:=G.n<=G'.n/\∀ j,j<G.n->¬ P j->G'.get j=G.get j
theorem Kept.refl {P:Nat->Prop}:Kept G G P:=⟨YA _,λ_ _ _=>rfl⟩
theorem Kept.fresh {X:Heap} {P:Nat->Prop} (h:Kept G G' P) (f:ae G' X):Kept G X P:=⟨Ym h.1 f.n,λj hj hp=>(f.same j (YC hj h.1)).trans (h.2 j hj hp)⟩
theorem Kept.step {X:Heap} {P R:Nat->Prop} (h:Kept G G' P) (s:Step G' R X R) (hr:∀ b,R b->P b):Kept G X P:=⟨Ym h.1 s.n,λj hj hp=>((s.same j (YC hj h.1) λhR=>hp (hr j hR)).1).trans (h.2 j hj hp)⟩
def nH (O:Nat->Prop) (vp:Nat) (Q:Nat->Prop) (vq:Nat):Nat->Prop:=λx=>bH O vp x\/bH Q vq x
def Kg:List V:=[.int 7 9,.int 3 0,.bool false,.aw]
theorem KC {cp:RC->aq} {t:Nat->Option cW} {fuel:Nat} (T:aJ t) (hc:aY t) {H0 G0:Heap} (W:BZ H0 G0 dp vp a n A O m vl vs vi dq vq b k B Q w wl ws wi) (hu:Rd A m) (hv:Rd B w) {lv:V} {l:List Nat} (hl:Row H0 (λ_=>False) lv 1 l.length (l.map (V.int 4))) (hln:l.length<9223372036854775808) (hlt:∀ x ∈ l,x<256) {LA LB:Nat} (gA:G0.get LA = .cells Kg) (gB:G0.get LB = .cells Kg) (bA:LA<G0.n) (bB:LB<G0.n) (nA:¬ nH O vp Q vq LA) (nB:¬ nH O vp Q vq LB) (hfu:1000<fuel) {v15 v16 v17 v20:V}:
 ∃ G',BZ H0 G' dp vp a n A O m vl vs vi dq vq b k B Q w wl ws wi/\Kept G0 G' (nH O vp Q vq)/\∀ (d:Nat) (kx:Nat->KE) (e:Env) (x:R),aa s010 e=lv->aa s011 e = .ptr vp 0->aa s012 e = .ptr vq 0->aa s013 e = .ptr LA 0->aa s014 e = .ptr LB 0->aa s015 e=v15->aa s016 e=v16->aa s017 e=v17->aa s020 e=v20->aa s021 e = .int 3 0->
  (∀ e',aa s011 e' = .ptr vp 0->aa s012 e' = .ptr vq 0->aa s013 e' = .ptr LA 0->aa s014 e' = .ptr LB 0->aa s015 e'=v15->aa s016 e'=v16->aa s017 e'=v17->aa s020 e'=v20->kx 1 e' G'=x)->lr FA fuel (aQ cp t fuel (d+7)) kx fuel e G0=x:=by
 obtain ⟨_,G',⟨W',KP'⟩,z⟩:=bV (c:=FA) (fuel:=fuel) (ph:=λd=>aQ cp t fuel (d+7)) (n:=min l.length 10) (σ:=Unit)
  (I:=λi _ G=>BZ H0 G dp vp a n A O m vl vs vi dq vq b k B Q w wl ws wi/\Kept G0 G (nH O vp Q vq))
  (S:=λi _ e=>aa s010 e=lv/\aa s011 e = .ptr vp 0/\aa s012 e = .ptr vq 0/\aa s013 e = .ptr LA 0/\aa s014 e = .ptr LB 0/\aa s015 e=v15/\aa s016 e=v16/\aa s017 e=v17/\aa s020 e=v20/\aa s021 e = .int 3 i) (λi _ G hin ⟨W,KP⟩=>by
   have hil:i<l.length:=by omega
   have hi10:i<10:=by omega
   have hli:=YB hil
   have hy:=hlt _ (Yb hil)
   have bM:=hl.fresh W.fr
   have hsn:=λ{id:Nat} {f:Nat->R}=>bM.sn (id:=id) (f:=f)
   obtain ⟨bL,oL,cL,zL,hvL,hbL,-,hrL⟩:=bM.open hil
   have gA1:=(KP.2 LA bA nA).trans gA
   have gB1:=(KP.2 LB bB nB).trans gB
   obtain ⟨G1,v1,z1o,f1,o1⟩:=tE (cp:=cp) (fuel:=fuel) (ep:=9) (bf:=0) (ls:=false) (nl:=0) T W.u mO (by omega) hfu
   have z1:=λ{d:Nat} {k:K}=>z1o (d+3) k
   rw [hu.tk]at z1
   have w0:=W.u.eX.wf
   have w1:=f1.wf
   obtain ⟨G2,hG2,f2,p2,n2⟩:=Heap.aP w1 (.cells (iD 0 0 0 false .aw 0 (0,0) (0,0) 0))
   have b2:G1.n<G2.n:=by omega
   have w2:=f2.wf
   obtain ⟨G3,hG3,f3,p3,n3,w3,k3⟩:=Heap.aU (b:=G1.n) f2 (YA _) b2 (.cells (iD 5 9 0 false v1 m.ah.length (cg m).g (0,0) 0))
   have b3:G1.n<G3.n:=by omega
   have hrL:=λ{id:Nat} {k:V->R}=>(hrL (G:=G3) ((f1.trans f3).same _ hbL)).2 (x:=.int 4 l[i]) (by rw [WN,Yh,hli];rfl) (id:=id) (k:=k)
   generalize l[i]=y at hy hrL
   obtain ⟨G4,hG4,f4,p4,n4,w4,k4⟩:=Heap.aU (b:=G1.n) f3 (YA _) b3 (.cells (iD 5 9 0 false v1 (y%12) (cg m).g (0,0) 0))
   have f04:=f1.trans f4
   have W4:=W.fresh f04
   have K4:=KP.fresh f04
   have lu:=W.u.lt
   have lv:=W.v.lt
   have m1:=f1.n
   have nM:¬ nH O vp Q vq G1.n:=λh=>h.elim (λh=>by have:=lu _ h;omega) λh=>by have:=lv _ h;omega
   obtain ⟨G5,l5,z5o,s5,S5,-⟩:=mR (cp:=cp) (fuel:=fuel) (v:=v1) (ep:=9) (bf:=0) (ls:=false) (ep':=9) (bf':=0) (ls':=false) (len:=y%12) (next:=0) (last:=(cg m).g) (target:=(0,0)) (nl:=0) T hc W4.v hv.lp hv.il hv.i8 hv.vt o1.one mO (by omega) (by unfold nn;omega) hu.g (by unfold nn;omega) hfu
   have z5:=λ{d:Nat} {k:K}=>z5o d k
   have W5:=(W4.swap.step s5 S5).swap
   have K5:=K4.step s5 λb h=>YE h
   have p5:G5.get G1.n = .cells (iD 5 9 0 false v1 (y%12) (cg m).g (0,0) 0):=(s5.same _ (by omega) λh=>nM (YE h)).1.trans p4
   have gB5:=(K5.2 LB bB nB).trans gB
   obtain ⟨G6,l6,z6o,s6,S6,-⟩:=mR (cp:=cp) (fuel:=fuel) (v:=v1) (ep:=9) (bf:=0) (ls:=false) (ep':=9) (bf':=0) (ls':=false) (len:=y%12) (next:=0) (last:=(cg m).g) (target:=(0,0)) (nl:=0) T hc W5.u hu.lp hu.il hu.i8 hu.vt o1.one mO (by omega) (by unfold nn;omega) hu.g (by unfold nn;omega) hfu
   have z6:=λ{d:Nat} {k:K}=>z6o d k
   have gB4:=(K4.2 LB bB nB).trans gB
   have jv:=λ{id:Nat} {k:R}=>aG o1.one (id:=id) (k:=k)
   have b1':i<9223372036854775808:=by omega
   have b2':(i+1)%18446744073709551616=i+1:=by omega
   have b3':nn i:=by unfold nn;omega
   have b4':y%12%18446744073709551616=y%12:=by omega
   have rm:∀ {id:Nat} {f:Nat->R},iA id (.rem 256) y 12 f=f (y%12):=λ{id f}=>uX (by omega) (by omega) (by omega)
   rw [WN]at hrL
   generalize (cg m).g=lg at z1 hG3 p3 hG4 p4 z5 p5 z6
   simp only [iD,Kg,xG]at z1 hG2 p2 hG3 p3 hG4 p4 z5 p5 z6 gA1 gB4 gB5
   refine ⟨(),G6,⟨W5.step s6 S6,K5.step s6 λb h=>YG h⟩,λd kx r e x ⟨q10,q11,q12,q13,q14,q15,q16,q17,q20,q21⟩ hk=>?_⟩
   rw [hvL]at q10 hsn
   rw [ax]
   simp only [go_sem,ZE,FA,q10,q11,q12,q13,q14,q21,↓hsn,hln,hil,hi10,b1',b2',b3',gA1,↓z1,w1,hG2,p2,b2,↓jv,w2,hG3,↓hrL,↓rm,b4',p3,b3,w3,hG4,gB4,p4,↓z5,gB5,p5,↓z6]
   exact hk _ (by simp only [go_sem,hvL,q10,q11,q12,q13,q14,q15,q16,q17,q20,and_self])) (min l.length 10) 0 () G0 (by omega) ⟨W,Kept.refl⟩
 refine ⟨G',W',KP',λd kx e x q10 q11 q12 q13 q14 q15 q16 q17 q20 q21 hk=>?_⟩
 refine z d kx fuel e x (by omega) ⟨q10,q11,q12,q13,q14,q15,q16,q17,q20,q21⟩ λr e' ⟨q10,q11,q12,q13,q14,q15,q16,q17,q20,q21⟩=>?_
 have hsn:=λ{id:Nat} {f:Nat->R}=>hl.sn (id:=id) (f:=f)
 have b1:nn (min l.length 10):=by unfold nn;omega
 rw [ax]
 have fin:∀ {e'},aa s011 e' = .ptr vp 0->aa s012 e' = .ptr vq 0->aa s013 e' = .ptr LA 0->aa s014 e' = .ptr LB 0->aa s015 e'=v15->aa s016 e'=v16->aa s017 e'=v17->aa s020 e'=v20->kx 1 e' G'=x:=hk _
 by_cases h30:l.length<10
 .have e1:min l.length 10=l.length:=by omega
  rw [e1]at q21 b1
  simp only [go_sem,FA,q10,q21,↓hsn,hln,b1,Qb]
  exact fin q11 q12 q13 q14 q15 q16 q17 q20
 .have e1:min l.length 10=10:=by omega
  rw [e1]at q21 b1
  by_cases h31:l.length=10
  .have e2:¬ 10<l.length:=by omega
   simp only [go_sem,FA,q10,q21,↓hsn,hln,b1,e2]
   exact fin q11 q12 q13 q14 q15 q16 q17 q20
  .have e2:10<l.length:=by omega
   simp only [go_sem,FA,q10,q21,↓hsn,hln,b1,e2,Qb]
   exact fin q11 q12 q13 q14 q15 q16 q17 q20
end
end Go.Ev
end
section
namespace Go.Ev
open Go.Proofs
section
variable {H G G':Heap} {dp vp a n dq vq b k:Nat} {A B:AD} {O Q:Nat->Prop} {m w:MT} {vl vs vi wl ws wi:V} {cp:RC->aq} {t:Nat->Option cW} {fuel:Nat}
theorem O9 {G0 G:Heap} {M ln ak:Nat} {lg:Gd} {vm v10 v11 v12 v13 v14 v15:V} (fr:ae G0 G) (hM:G0.n<=M) (hMn:M<G.n) (gM:G.get M = .cells (iD 5 9 0 false vm ln lg (0,0) 0)) (hvm:vm.one=true) (hln:nn ln) (hak:ak<256):
 ∃ G' ln',ae G0 G'/\G'.n=G.n/\G'.get M = .cells (iD 5 9 0 false vm ln' lg (0,0) 0)/\(∀ j,j≠M->G'.get j=G.get j)/\nn ln'/\∀ (ph:dg) (kx:Nat->KE) (kn:KE) (e:Env) (x:R),aa s007 e = .int 4 ak->aa s010 e=v10->aa s011 e=v11->aa s012 e=v12->aa s013 e=v13->aa s014 e=v14->aa s015 e=v15->aa s016 e = .ptr M 0->
  (∀ e',aa s010 e'=v10->aa s011 e'=v11->aa s012 e'=v12->aa s013 e'=v13->aa s014 e'=v14->aa s015 e'=v15->aa s016 e' = .ptr M 0->fM V3 fuel ph e' G' kn kx=x)->fM RU fuel ph e G kn kx=x:=by
 have w:=fr.wf
 have rm:∀ {id:Nat} {f:Nat->R},iA id (.rem 256) ak 3 f=f (ak%3):=λ{id f}=>uX (by omega) (by omega) (by omega)
 have rq:∀ {id:Nat} {f:Nat->R},iA id (.quo 256) ak 3 f=f (ak/3):=λ{id f}=>Ae (by omega) (by omega) (by omega)
 have e1:ak/3%18446744073709551616=ak/3:=by omega
 by_cases h3:ak%3=0
 .obtain ⟨G',hG',f',p',n',w',k'⟩:=Heap.aU fr hM hMn (.cells (iD 5 9 0 false vm (ak/3) lg (0,0) 0))
  refine ⟨G',ak/3,f',n',p',k',by unfold nn;omega,λph kx kn e x q7 q10 q11 q12 q13 q14 q15 q16 hk=>?_⟩
  simp only [iD]at gM hG'
  simp only [go_sem,RU,q7,q16,↓rm,↓rq,h3,e1,gM,w,hMn,hG']
  exact hk _ q10 q11 q12 q13 q14 q15 q16
 .refine ⟨G,ln,fr,rfl,gM,λ_ _=>rfl,hln,λph kx kn e x q7 q10 q11 q12 q13 q14 q15 q16 hk=>?_⟩
  simp only [go_sem,RU,q7,↓rm,h3]
  exact hk _ q10 q11 q12 q13 q14 q15 q16
structure PH (G:Heap) (P:Nat->Prop) (LA LB M X ln:Nat) (lg:Gd) (vm:V) (lx:List V):Prop where
 a:G.get LA = .cells Kg
 b:G.get LB = .cells Kg
 m:G.get M = .cells (iD 5 9 0 false vm ln lg (0,0) 0)
 x:G.get X = .cells lx
 an:LA<G.n
 bn:LB<G.n
 mn:M<G.n
 xn:X<G.n
 ap:¬ P LA
 bp:¬ P LB
 mp:¬ P M
 xp:¬ P X
 vm:vm.one=true
 ln:nn ln
theorem PH.kept {P:Nat->Prop} {LA LB M X ln:Nat} {lg:Gd} {vm:V} {lx:List V} (h:PH G P LA LB M X ln lg vm lx) (q:Kept G G' P):PH G' P LA LB M X ln lg vm lx:=
 ⟨(q.2 _ h.an h.ap).trans h.a,(q.2 _ h.bn h.bp).trans h.b,(q.2 _ h.mn h.mp).trans h.m,(q.2 _ h.xn h.xp).trans h.x,YC h.an q.1,YC h.bn q.1,YC h.mn q.1,YC h.xn q.1,h.ap,h.bp,h.mp,h.xp,h.vm,h.ln⟩
theorem ZL.all {l:List V} {r:SvR} (h:ZL l r):∃ ep bf ls v b al v5,l=rT r.kind ep bf ls v (bj b r.tg r.frm al v5)/\v.one=true/\v5.one=true/\Zn v5 r.nch:=by
 obtain ⟨ep,bf,ls,v,b,al,v5,h1,h2,h3⟩:=h
 exact ⟨ep,bf,ls,v,b,al,v5,h1,h2,h3.1,h3⟩
theorem KB (T:aJ t) (hc:aY t) {H0 G0:Heap} (W:BZ H0 G0 dp vp a n A O m vl vs vi dq vq b k B Q w wl ws wi) (hu:Rd A m) (hv:Rd B w) {ak:Nat} (hak:ak<256) {v10:V} (hfu:1000<fuel):
 ∃ G' LA LB M X ln vm lx v15,BZ H0 G' dp vp a n A O m vl vs vi dq vq b k B Q w wl ws wi/\PH G' (nH O vp Q vq) LA LB M X ln (cg w).g vm lx/\ZL lx (EZ A m ln 0 (cg w).g (0,0))/\Row G' (nH O vp Q vq) v15 2 m.ah.length (fI (m.ah.map (·.g)))/\
  ∀ (d:Nat) (kx:Nat->KE) (kn:KE) (e:Env) (x:R),aa s007 e = .int 4 ak->aa s010 e=v10->aa s011 e = .ptr vp 0->aa s012 e = .ptr vq 0->
   (∀ e',aa s010 e'=v10->aa s011 e' = .ptr vp 0->aa s012 e' = .ptr vq 0->aa s013 e' = .ptr LA 0->aa s014 e' = .ptr LB 0->aa s015 e'=v15->aa s016 e' = .ptr M 0->aa s017 e' = .ptr X 0->aa s020 e' = .int 3 (EZ A m ln 0 (cg w).g (0,0)).idx->fM Mw fuel (aQ cp t fuel (d+7)) e' G' kn kx=x)->fM V2 fuel (aQ cp t fuel (d+7)) e G0 kn kx=x:=by
 have w0:=W.u.eX.wf
 have lu:=W.u.lt
 have lv:=W.v.lt
 have nb:∀ {j:Nat},G0.n<=j->¬ nH O vp Q vq j:=λhj h=>h.elim (λh=>by have:=lu _ h;omega) λh=>by have:=lv _ h;omega
 have hn0:=W.u.ok.num
 have hn1:=W.v.ok.num
 obtain ⟨G1,hG1,f1,p1,n1⟩:=Heap.aP w0 (.cells [.int 7 0,.int 3 0,.bool false,.aw])
 have w1:=f1.wf
 obtain ⟨G2,hG2,f2,p2,n2⟩:=Heap.aP w1 (.cells [.int 7 0,.int 3 0,.bool false,.aw])
 have w2:=f2.wf
 have p12:G2.get G0.n = .cells [.int 7 0,.int 3 0,.bool false,.aw]:=(f2.same _ (by omega)).trans p1
 have b2:G0.n<G2.n:=by omega
 obtain ⟨G3,hG3,f3,p3,n3,w3,k3⟩:=Heap.aU (b:=G0.n) (f1.trans f2) (YA _) b2 (.cells Kg)
 have b3:G1.n<G3.n:=by omega
 have p23:G3.get G1.n = .cells [.int 7 0,.int 3 0,.bool false,.aw]:=(k3 _ (by omega)).trans p2
 obtain ⟨G4,hG4,f4,p4,n4,w4,k4⟩:=Heap.aU (b:=G1.n) f3 (by omega) b3 (.cells Kg)
 have p34:G4.get G0.n = .cells Kg:=(k4 _ (by omega)).trans p3
 obtain ⟨G5,hG5,f5,p5,n5⟩:=Heap.aP w4 (.cells [])
 have f05:=f4.trans f5
 obtain ⟨G6,vL,z6o,f6,o6⟩:=kE (cp:=cp) (fuel:=fuel) T (W.u.fresh f05) hfu
 have z6:=λ{d:Nat} {k:K}=>z6o (d+6) k
 have e5:Own G4 G6 (.slice G4.n 0 0 1 0) 2 0 []:=⟨by simp,λx hx=>(by cases hx),YE ⟨G4.n,1,0,[],rfl,(f6.same _ (by omega)).trans p5,YG rfl,YA _,by have:=f6.n;omega⟩⟩
 have r6:Row G6 (λ_=>False) vL 2 m.ah.length (fI (m.ah.map (·.g))):=o6.toRow λb h=>h.elim
 have hgl:(fI (m.ah.map (·.g))).length=m.ah.length*2:=by rw [yA,Yl]
 obtain ⟨v15,G7,hap,o7,f7,-⟩:=Own.app (w:=.aw) (x:=vL) (sz:=2) (m:=m.ah.length) (f5.trans f6) e5 (λ{id f}=>r6.nc λ_ _ _=>rfl) hgl (λv hv=>r6.2.1 v hv) (by omega)
 rw [WG,YN]at o7
 have f07:=f4.trans f7
 have W7:=W.fresh f07
 obtain ⟨G8,vm,z8o,f8,o8⟩:=tE (cp:=cp) (fuel:=fuel) (ep:=9) (bf:=0) (ls:=false) (nl:=0) T W7.v mO (by omega) hfu
 have z8:=λ{d:Nat} {k:K}=>z8o (d+3) k
 rw [hv.tk]at z8
 have w8:=f8.wf
 obtain ⟨G9,hG9,f9,p9,n9⟩:=Heap.aP w8 (.cells (iD 0 0 0 false .aw 0 (0,0) (0,0) 0))
 have b9:G8.n<G9.n:=by omega
 obtain ⟨Ga,hGa,fa,pa,na,wa,ka⟩:=Heap.aU (b:=G8.n) f9 (YA _) b9 (.cells (iD 5 9 0 false vm w.ah.length (cg w).g (0,0) 0))
 have m4:G4.n<=G7.n:=f7.n
 have m8:=f8.n
 obtain ⟨Gb,ln,fb,nb',pb,kb,hln,zb⟩:=O9 (fuel:=fuel) (v10:=v10) (v11:=.ptr vp 0) (v12:=.ptr vq 0) (v13:=.ptr G0.n 0) (v14:=.ptr G1.n 0) (v15:=v15) (ak:=ak) fa (YA G8.n) (by omega) pa o8.one (by unfold nn;omega) hak
 have f0b:ae G0 Gb:=f07.trans (f8.trans fb)
 have Wb:=W.fresh f0b
 have wb:=fb.wf
 have gA:Gb.get G0.n = .cells Kg:=(fb.same _ (by omega)).trans ((f8.same _ (by omega)).trans ((f7.same _ (by omega)).trans p34))
 have gB:Gb.get G1.n = .cells Kg:=(fb.same _ (by omega)).trans ((f8.same _ (by omega)).trans ((f7.same _ (by omega)).trans p4))
 obtain ⟨Gc,lx,zco,sc,Sc,hx⟩:=mR (cp:=cp) (fuel:=fuel) (v:=vm) (ep:=9) (bf:=0) (ls:=false) (ep':=9) (bf':=0) (ls':=false) (len:=ln) (next:=0) (last:=(cg w).g) (target:=(0,0)) (nl:=0) T hc Wb.u hu.lp hu.il hu.i8 hu.vt o8.one mO (by omega) hln hv.g (by unfold nn;omega) hfu
 have zc:=λ{d:Nat} {k:K}=>zco d k
 have Wc:=Wb.step sc Sc
 have mc:=sc.n
 have nP:∀ {j:Nat},G0.n<=j->¬ bH O vp j:=λhj h=>nb hj (YG h)
 have gk:∀ {j:Nat} {y:ee},G0.n<=j->j<Gb.n->Gb.get j=y->Gc.get j=y:=λh1 h2 h3=>(sc.same _ h2 (nP h1)).1.trans h3
 have wc:=Sc.eX.wf
 obtain ⟨Gd,hGd,fd,pd,nd⟩:=Heap.aP wc (.cells (rT 0 0 0 false .aw (bj (0,0) (0,0) 0 0 .aw)))
 have bd:Gc.n<Gd.n:=by omega
 have wd:=fd.wf
 obtain ⟨Ge,hGe,fe,pe,ne,we,ke⟩:=Heap.aU (b:=Gc.n) fd (YA _) bd (.cells lx)
 have We:=Wc.fresh fe
 have g0b:=f0b.n
 have gk':∀ {j:Nat} {y:ee},G0.n<=j->j<Gb.n->Gb.get j=y->Ge.get j=y:=λh1 h2 h3=>(fe.same _ (by omega)).trans (gk h1 h2 h3)
 have r15:Row Ge (nH O vp Q vq) v15 2 m.ah.length (fI (m.ah.map (·.g))):=by
  have h1:Row Gb (λx=>nH O vp Q vq x) v15 2 m.ah.length (fI (m.ah.map (·.g))):=((o7.toRow (O:=nH O vp Q vq) λb h=>h.elim (λh=>by have:=lu _ h;have:=f4.n;omega) λh=>by have:=lv _ h;have:=f4.n;omega).fresh f8).fresh fb
  exact (h1.U4 sc λb hb ho=>⟨λh=>ho (YG h),ho⟩).fresh fe
 obtain ⟨ep5,bf5,ls5,v5a,b5',al5,v5,hlx,j5a,j5b,-⟩:=hx.all
 refine ⟨Ge,G0.n,G1.n,G8.n,Gc.n,ln,vm,lx,v15,We,⟨gk' (by omega) (by omega) gA,gk' (by omega) (by omega) gB,gk' (by omega) (by omega) pb,pe,by omega,by omega,by omega,by omega,nb (by omega),nb (by omega),nb (by omega),nb (by omega),o8.one,hln⟩,hx,r15,λd kx kn e x q7 q10 q11 q12 hk=>?_⟩
 have j8:=λ{id:Nat} {k:R}=>aG o8.one (id:=id) (k:=k)
 have ja:=λ{id:Nat} {k:R}=>aG j5a (id:=id) (k:=k)
 have jb:=λ{id:Nat} {k:R}=>aG j5b (id:=id) (k:=k)
 have gA8:G7.get G0.n = .cells Kg:=(f7.same _ (by omega)).trans p34
 generalize EZ A m ln 0 (cg w).g (0,0)=rr at zc hlx hk
 subst hlx
 generalize (cg w).g=lg at z8 hGa pa pb zc
 simp only [iD,xG]at z8 hG9 p9 hGa pa pb zc
 simp only [Kg]at hG3 hG4 gA gB gA8 p34
 simp only [rT,bj,YP,YN]at hGd pd hGe zc
 simp only [go_sem,V2,aav,q11,w0,hG1,w1,hG2,p12,b2,w2,hG3,p23,b3,w3,hG4,w4,hG5,↓z6,↓hap]
 simp only [go_sem,aaw,q12,gA8,↓z8,w8,hG9,p9,b9,↓j8,f9.wf,hGa]
 refine zb _ _ _ _ _ ?_ ?_ ?_ ?_ ?_ ?_ ?_ ?_ λe1 q10 q11 q12 q13 q14 q15 q16=>?_
 all_goals first|(simp only [go_sem,q7,q10,q11,q12];done)|skip
 simp only [go_sem,V3,q11,q13,q16,gA,pb,↓zc,wc,hGd,pd,bd,wd,↓ja,↓jb,hGe]
 exact hk _ q10 q11 q12 q13 q14 q15 q16 rfl rfl
end
end Go.Ev
end
section
namespace Go.Ev
open Go.Proofs
noncomputable def yZ (args:List V) (H:Heap) (k:K):R:=match args with
 | []=>k (.bool true) H
 | _=>no 0
noncomputable def abR (ph:dg) (o:tO) (e:Env) (H:Heap) (k:Env->Heap->R) (z:Env->Heap->R):R:=tO.rec (motive:=λ_=>R) (λid d g cls op=>sg g e
 (Nat.rec (motive:=λ_=>R)
  (aN op id ph e H λv H'=>bX d v e λe'=>k e' H')
  (λ_ _=>Heap.rec (motive:=λ_=>R) (λn bC t=>aN op id ph e (.mk n n t) λv H'=>Heap.rec (motive:=λ_=>R) (λn' wlo' t'=>aE (Nat.ble n wlo') (bX d v e λe'=>k e' (.mk n' bC t')) (no 0)) H') H) cls)
 (bX d (.cE []) e λe'=>z e' H)) o
theorem ua {ph:dg} {o:tO} {l:List tO} {e:Env} {H:Heap} {k:Env->Heap->R}:bJ ph (o :: l) e H k=abR ph o e H (λe H=>bJ ph l e H k) (λe H=>bJ ph l e H k):=YV rfl rfl
theorem wA {ph:dg} {l':List tO} {k:Env->Heap->R}:∀ {l:List tO} {e:Env} {H:Heap},bJ ph (l ++ l') e H k=bJ ph l e H λe H=>bJ ph l' e H k
 | [],e,H=>YV rfl rfl
 | o :: l,e,H=>by
  rw [YP,ua,ua]
  have h:(λe H=>bJ ph (l ++ l') e H k)=λe H=>bJ ph l e H λe H=>bJ ph l' e H k:=funext λe=>funext λH=>wA
  rw [h]
theorem nX (n:Nat) {ph:dg} {l:List tO} {e:Env} {H:Heap} {k:Env->Heap->R}:bJ ph l e H k=bJ ph (l.take n) e H λe H=>bJ ph (l.drop n) e H k:=by rw [<- wA,List.take_append_drop]
def sZ:aq->List tO
 | .seq (.seq (.rD l) _) _=>l
 | _=>[]
section
variable {H G G':Heap} {dp vp a n dq vq b k:Nat} {A B:AD} {O Q:Nat->Prop} {m w:MT} {vl vs vi wl ws wi:V} {cp:RC->aq} {t:Nat->Option cW} {fuel:Nat}
theorem sj (hwk:t 7=some (.nat yZ)) (d:Nat) (k:K) (G:Heap):aj (aQ cp t fuel (d+1)) (.func 14 []) [] G k=k (.bool true) G:=by
 rw [nT hwk rfl rfl]
 rfl
theorem Hk {P P':Nat->Prop} {gs:List Gd} {v15 v26 v12:V} (h15:Row G P v15 2 gs.length (fI gs)) (h26:Row G P' v26 2 gs.length (fI gs)) (hw:G.wf) (hn:gs.length<1000) (hfu:1000<fuel) (ph:Nat->dg):
 ∀ (d:Nat) (kx:Nat->KE) (e:Env) (x:R),aa s012 e=v12->aa s015 e=v15->aa s026 e=v26->aa s027 e = .int 3 0->
  (∀ e',aa s012 e'=v12->kx 3 e' G=x)->lr Mv fuel (ph d) kx fuel e G=x:=by
 have s15:=λ{id:Nat} {f:Nat->R}=>h15.sn (id:=id) (f:=f)
 have s26:=λ{id:Nat} {f:Nat->R}=>h26.sn (id:=id) (f:=f)
 have c9:gs.length<9223372036854775808:=by omega
 have nl:nn gs.length:=by unfold nn;omega
 have hm:G.mark.wf:=by rw [Heap.cO];exact hw
 obtain ⟨_,G',hG,z⟩:=bV (c:=Mv) (fuel:=fuel) (ph:=ph) (n:=gs.length) (σ:=Unit)
  (I:=λi _ X=>X=G)
  (S:=λi _ e=>aa s012 e=v12/\aa s015 e=v15/\aa s026 e=v26/\aa s027 e = .int 3 i) (λi _ X hil hX=>by
   subst hX
   have hgi:gs[i]? = some gs[i]:=YB hil
   obtain ⟨bL,oL,cL,zL,hvL,hbL,-,hrL⟩:=h15.open hil
   obtain ⟨bR,oR,cR,zR,hvR,hbR,-,hrR⟩:=h26.open hil
   rw [nW hgi]at hrL hrR
   have hrL:=λ{id:Nat} {k:List V->R}=>(hrL (G:=X) rfl).1 (id:=id) (k:=k)
   have hrR:=λ{id:Nat} {k:List V->R}=>(hrR (G:=X) rfl).1 (id:=id) (k:=k)
   generalize gs[i]=g at hrL hrR
   simp only [bu]at hrL hrR
   have eq1:=λ{id:Nat} {f:Bool->R}=>St (id:=id) (f:=f) (rfl:g=g)
   have b1:i<9223372036854775808:=by omega
   have b2:(i+1)%18446744073709551616=i+1:=by omega
   have b3:nn i:=by unfold nn;omega
   refine ⟨(),X,rfl,λd kx r e x ⟨q12,q15,q26,q27⟩ hk=>?_⟩
   rw [ax]
   subst hvL hvR
   simp only [go_sem,Mv,q15,q26,q27,c9,nl,hil,b1,b2,b3,↓hrL,↓hrR,cB,↓eq1]
   exact hk _ (by simp only [go_sem,q12,q15,q26,and_self])) gs.length 0 () G (by omega) rfl
 subst hG
 intro d kx e x q12 q15 q26 q27 hk
 refine z d kx fuel e x (by omega) ⟨q12,q15,q26,q27⟩ λr e' ⟨q12,q15,q26,q27⟩=>?_
 rw [ax]
 simp only [go_sem,Mv,q15,q27,↓s15,c9,nl,Qb]
 exact hk _ q12
set_option maxRecDepth 8000 in
theorem KD (T:aJ t) (hc:aY t) (hwk:t 7=some (.nat yZ)) {H0 G0:Heap} (W:BZ H0 G0 dp vp a n A O m vl vs vi dq vq b k B Q w wl ws wi) (hu:Rd A m) (hv:Rd B w) {LA LB M X ln:Nat} {vm v15:V} {lx:List V} (hP:PH G0 (nH O vp Q vq) LA LB M X ln (cg w).g vm lx) (hx:ZL lx (EZ A m ln 0 (cg w).g (0,0))) (h15:Row G0 (nH O vp Q vq) v15 2 m.ah.length (fI (m.ah.map (·.g)))) (hfu:1000<fuel) (d:Nat) (kx:Nat->KE) (e:Env) (k':K) (x:R) (hk:∀ G',ae H0 G'->k' (.bool true) G'=x)
 (q11:aa s011 e = .ptr vp 0) (q12:aa s012 e = .ptr vq 0) (q13:aa s013 e = .ptr LA 0) (q14:aa s014 e = .ptr LB 0) (q15:aa s015 e=v15) (q16:aa s016 e = .ptr M 0) (q17:aa s017 e = .ptr X 0) (q20:aa s020 e = .int 3 (EZ A m ln 0 (cg w).g (0,0)).idx):
 (fM Mx fuel (aQ cp t fuel (d+7)) e G0 (jy [.tmp s006] k') λn e H=>if n=0 then jy [.tmp s006] k' e H else no 6)=x:=by
 have lu:=W.u.lt
 have lv:=W.v.lt
 have hn0:=W.u.ok.num
 have hn1:=W.v.ok.num
 obtain ⟨G1,ly,z1o,s1,S1,hy⟩:=mR (cp:=cp) (fuel:=fuel) (v:=vm) (ep:=9) (bf:=0) (ls:=false) (ep':=9) (bf':=0) (ls':=false) (len:=ln) (next:=0) (last:=(cg w).g) (target:=(0,0)) (nl:=0) T hc W.u hu.lp hu.il hu.i8 hu.vt hP.vm mO (by omega) hP.ln hv.g (by unfold nn;omega) hfu
 have z1:=λ{d:Nat} {k:K}=>z1o d k
 have W1:=W.step s1 S1
 have P1:=hP.kept (Kept.refl.step s1 λb h=>YG h)
 have w1:=S1.eX.wf
 obtain ⟨G2,hG2,f2,p2,n2⟩:=Heap.aP w1 (.cells (rT 0 0 0 false .aw (bj (0,0) (0,0) 0 0 .aw)))
 have b2:G1.n<G2.n:=by omega
 have w2:=f2.wf
 obtain ⟨G3,hG3,f3,p3,n3,w3,k3⟩:=Heap.aU (b:=G1.n) f2 (YA _) b2 (.cells ly)
 have W3:=W1.fresh f3
 have P3:=P1.kept (Kept.refl.fresh f3)
 obtain ⟨G4,vn,z4o,f4,o4⟩:=tE (cp:=cp) (fuel:=fuel) (ep:=9) (bf:=0) (ls:=false) (nl:=0) T W3.v mO (by omega) hfu
 have z4:=λ{d:Nat} {k:K}=>z4o (d+3) k
 rw [hv.tk]at z4
 have w4:=f4.wf
 obtain ⟨G5,hG5,f5,p5,n5⟩:=Heap.aP w4 (.cells (iD 0 0 0 false .aw 0 (0,0) (0,0) 0))
 have b5:G4.n<G5.n:=by omega
 have w5:=f5.wf
 obtain ⟨G6,hG6,f6,p6,n6,w6,k6⟩:=Heap.aU (b:=G4.n) f5 (YA _) b5 (.cells (iD 5 9 0 false vn w.ah.length (cg w).g (0,0) 0))
 have f36:=f4.trans f6
 obtain ⟨G7,v26,z7o,f7,o7⟩:=kE (cp:=cp) (fuel:=fuel) T (W3.u.fresh f36) hfu
 have z7:=λ{d:Nat} {k:K}=>z7o (d+6) k
 have f37:=f36.trans f7
 have W7:=W3.fresh f37
 have P7:=P3.kept (Kept.refl.fresh f37)
 have w7:=f7.wf
 have m4:=f4.n
 have m7:=f7.n
 have p3':G7.get G1.n = .cells ly:=(f37.same _ (by omega)).trans p3
 have p6':G7.get G4.n = .cells (iD 5 9 0 false vn w.ah.length (cg w).g (0,0) 0):=(f7.same _ (by omega)).trans p6
 have h26:Row G7 (λ_=>False) v26 2 m.ah.length (fI (m.ah.map (·.g))):=o7.toRow λb h=>h.elim
 have h15':Row G7 (nH O vp Q vq) v15 2 m.ah.length (fI (m.ah.map (·.g))):=((h15.U4 s1 λb hb ho=>⟨λh=>ho (YG h),ho⟩).fresh f3).fresh f37
 have fm:=ae.DF w7
 obtain ⟨Gm',v9,z9',f9',o9'⟩:=kE (cp:=cp) (fuel:=fuel) T (W7.v.fresh fm) hfu
 obtain ⟨Gm,G9,v9,z9o,hu9,hl9,f9,o9⟩:=Ow (cp:=cp) (fuel:=fuel) (t:=t) (G:=G7) ⟨Gm',v9,z9',f9',o9'⟩
 have z9:=λ{d:Nat} {k:K}=>z9o (d+6) k
 have W9:=W7.fresh f9
 have w9:=f9.wf
 obtain ⟨Ga,xt,zao,fa,oa⟩:=uF (cp:=cp) (fuel:=fuel) T W9.v
 have za:=λ{d:Nat} {k:K}=>zao (d+5) k
 rw [hv.tk]at za
 have wa:=fa.wf
 obtain ⟨Gb,hGb,fb,pb,nb⟩:=Heap.aP wa (.cells [.int 7 0,.int 7 0,.int 7 0,.int 7 0,.int 3 0,.int 3 0,.aw])
 have bb:Ga.n<Gb.n:=by omega
 have wb:=fb.wf
 obtain ⟨Gc,hGc,fc,pc,nc,wc,kc⟩:=Heap.aU (b:=Ga.n) fb (YA _) bb (.cells (bP xG xt))
 have wcm:Gc.mark.wf:=by rw [Heap.cO];exact wc
 obtain ⟨Gdm',zd',fd'⟩:=uf (cp:=cp) (fuel:=fuel) (a:=0) (b:=0) T wcm
 obtain ⟨Gdm,Gd,zdo,hud,hld,fd⟩:=pT (cp:=cp) (fuel:=fuel) ⟨Gdm',zd',fd'⟩
 have zd:=λ{d:Nat} {k:K}=>zdo (d+6) k
 have zw:=λ{d:Nat} {k:K} {G:Heap}=>sj (fuel:=fuel) hwk (cp:=cp) d k G
 have fin:ae H0 Gd:=W9.fr.trans (fa.trans (fc.trans fd))
 obtain ⟨ex,bx,lsx,vx,bgx,alx,v5x,hlx,jx1,jx2,jx3⟩:=hx.all
 obtain ⟨ey,by',lsy,vy,bgy,aly,v5y,hly,jy1,jy2,jy3⟩:=hy.all
 have sx:=λ{id:Nat} {f:Nat->R}=>jx3.2 id f
 have sy:=λ{id:Nat} {f:Nat->R}=>jy3.2 id f
 have ja:=λ{id:Nat} {k:R}=>aG jy1 (id:=id) (k:=k)
 have jb:=λ{id:Nat} {k:R}=>aG jy2 (id:=id) (k:=k)
 have jc:=λ{id:Nat} {k:R}=>aG jx2 (id:=id) (k:=k)
 have jn:=λ{id:Nat} {k:R}=>aG o4.one (id:=id) (k:=k)
 have jt:=λ{id:Nat} {k:R}=>aG oa.one (id:=id) (k:=k)
 have s15:=λ{id:Nat} {f:Nat->R}=>h15'.sn (id:=id) (f:=f)
 have s26:=λ{id:Nat} {f:Nat->R}=>h26.sn (id:=id) (f:=f)
 have s9:=λ{id:Nat} {f:Nat->R}=>o9.sn (id:=id) (f:=f)
 have c9:m.ah.length<9223372036854775808:=by omega
 have c8:w.ah.length<9223372036854775808:=by omega
 have cX:(EZ A m ln 0 (cg w).g (0,0)).nch<9223372036854775808:=by
  unfold EZ
  split
  .exact YN1 _
  .split
   .rename_i h
    have h1:=pq ((nh m ln).map (dI A)) ((m.ah.getD ln ⟨(0,0),[],false⟩).cz.map (dI A)) ((m.ah.getD ln ⟨(0,0),[],false⟩).cz.map (dI A)).length
    have h2:=(W.u.ok.ah _ (Yb h.1)).2.1
    rw [YJ,YB h.1]at h1
    rw [Yn,Yl]at h1
    show min (xT A m ln).length _-_<_
    have h3:(xT A m ln).length<=m.ah[ln].cz.length:=by
     unfold xT Ra
     rw [YJ,YB h.1,Yn,Yl]
     exact h1
    omega
   .exact YN1 _
 have hgl:(m.ah.map (·.g)).length=m.ah.length:=Yl ..
 have lp:=Hk (v12:=.ptr vq 0) (gs:=m.ah.map (·.g)) (by rw [hgl];exact h15'.fresh f9) (by rw [hgl];exact h26.fresh f9) w9 (by rw [hgl];omega) hfu (λd=>aQ cp t fuel (d+7)) d
 have gA:=hP.a
 have gM:=hP.m
 have gB:=P3.b
 have gX:=P7.x
 have hxn:=P7.xn
 generalize EZ A m ln 0 (cg w).g (0,0)=rr at z1 hlx hly sx sy cX q20
 generalize (cg w).g=lg at gM z1 z4 hG6 p6'
 subst hlx hly
 have eq1:=λ{id:Nat} {f:Bool->R}=>St (id:=id) (f:=f) (rfl:rr.tg=rr.tg)
 have eq2:=λ{id:Nat} {f:Bool->R}=>St (id:=id) (f:=f) (rfl:((0,0):Nat × Nat)=(0,0))
 simp only [iD,xG]at gM z1 z4 hG5 p5 hG6 p6'
 simp only [Kg]at gA gB
 simp only [rT,bj,YP,YN]at z1 hG2 p2 hG3 p3' gX
 simp only [bP,xG]at za hGc pc
 have sA:∀ (kn:KE) (y:R) (e':Env),aa s012 e' = .ptr vq 0->aa s015 e'=v15->aa s017 e' = .ptr X 0->aa s020 e' = .int 3 rr.idx->aa s023 e' = .ptr G1.n 0->aa s024 e' = .int 3 rr.idx->aa s025 e' = .ptr G4.n 0->aa s026 e'=v26->(∀ e1,aa s012 e1 = .ptr vq 0->aa s015 e1=v15->aa s017 e1 = .ptr X 0->aa s023 e1 = .ptr G1.n 0->aa s025 e1 = .ptr G4.n 0->aa s026 e1=v26->aa s210 e1 = .bool false->kn e1 G7=y)->bJ (aQ cp t fuel (d+7)) ((sZ rv).take 28) e' G7 kn=y:=λkn y e' q12 q15 q17 q20 q23 q24 q25 q26 hk=>by
  simp only [go_sem,rv,sZ,q17,q20,q23,q24,gX,p3',cB,↓eq1]
  exact hk _ q12 q15 q17 q23 q25 q26 rfl
 have sB:∀ (kn:KE) (y:R) (e':Env),aa s012 e' = .ptr vq 0->aa s015 e'=v15->aa s017 e' = .ptr X 0->aa s023 e' = .ptr G1.n 0->aa s025 e' = .ptr G4.n 0->aa s026 e'=v26->aa s210 e' = .bool false->(∀ e1,aa s012 e1 = .ptr vq 0->aa s015 e1=v15->aa s017 e1 = .ptr X 0->aa s023 e1 = .ptr G1.n 0->aa s025 e1 = .ptr G4.n 0->aa s026 e1=v26->aa s223 e1 = .bool false->kn e1 G7=y)->bJ (aQ cp t fuel (d+7)) (((sZ rv).drop 28).take 11) e' G7 kn=y:=λkn y e' q12 q15 q17 q23 q25 q26 q10 hk=>by
  simp only [go_sem,rv,sZ,q17,q23,q10,gX,p3',↓sx,↓sy,cX]
  exact hk _ q12 q15 q17 q23 q25 q26 rfl
 have sC:∀ (kn:KE) (y:R) (e':Env),aa s012 e' = .ptr vq 0->aa s015 e'=v15->aa s017 e' = .ptr X 0->aa s023 e' = .ptr G1.n 0->aa s025 e' = .ptr G4.n 0->aa s026 e'=v26->aa s223 e' = .bool false->(∀ e1,aa s012 e1 = .ptr vq 0->aa s015 e1=v15->aa s017 e1 = .ptr X 0->aa s023 e1 = .ptr G1.n 0->aa s025 e1 = .ptr G4.n 0->aa s026 e1=v26->aa s240 e1 = .bool false->kn e1 G9=y)->bJ (aQ cp t fuel (d+7)) ((((sZ rv).drop 28).drop 11).take 13) e' G7 kn=y:=λkn y e' q12 q15 q17 q23 q25 q26 q223 hk=>by
  simp only [go_sem,rv,sZ,q12,q25,q223,p6',↓z9,hu9,hl9,↓s9,c8]
  exact hk _ q12 q15 q17 q23 q25 q26 rfl
 have seg:∀ e',aa s012 e' = .ptr vq 0->aa s015 e'=v15->aa s017 e' = .ptr X 0->aa s020 e' = .int 3 rr.idx->aa s023 e' = .ptr G1.n 0->aa s024 e' = .int 3 rr.idx->aa s025 e' = .ptr G4.n 0->aa s026 e'=v26->(fM rv fuel (aQ cp t fuel (d+7)) e' G7 (jy [.tmp s006] k') λn e H=>if n=0 then jy [.tmp s006] k' e H else no 6)=x:=λe' q12 q15 q17 q20 q23 q24 q25 q26=>by
  simp only [rv,IW,CY]
  rw [nX 28]
  refine sA _ _ _ q12 q15 q17 q20 q23 q24 q25 q26 λe1 q12 q15 q17 q23 q25 q26 q10=>?_
  rw [nX 11]
  refine sB _ _ _ q12 q15 q17 q23 q25 q26 q10 λe2 q12 q15 q17 q23 q25 q26 q23b=>?_
  rw [nX 13]
  refine sC _ _ _ q12 q15 q17 q23 q25 q26 q23b λe3 q12 q15 q17 q23 q25 q26 q40=>?_
  simp only [go_sem,q15,q26,q40,↓s15,↓s26,c9,UG]
  refine lp _ _ _ ?_ ?_ ?_ ?_ λe4 q12=>?_
  all_goals first|(simp only [go_sem,q12,q15,q26];done)|skip
  simp only [go_sem,UH,UI,UJ,q12,↓za,wa,hGb,pb,bb,wb,↓jt,hGc,pc,↓zd,hud,hld,cB,↓eq2,↓zw]
  exact hk _ fin
 simp only [go_sem,Mx,q11,q13,q16,gA,gM,↓z1,w1,hG2,p2,b2,w2,↓ja,↓jb,hG3]
 simp only [go_sem,UE,q12,q14,gB,↓z4,w4,hG5,p5,b5,↓jn,w5,hG6]
 simp only [go_sem,UF,q11,↓z7]
 exact seg _ q12 q15 q17 q20 rfl rfl rfl rfl
end
end Go.Ev
end
section
namespace Go.Ev
open Go.Proofs
section
variable {t:Nat->Option cW} {fuel:Nat} {H:Heap} {pk:List UInt8->List (List UInt8)} {unpk:List (List UInt8)->Option (List UInt8)}
theorem yd (T:aJ t) (hc:aY t) (F:cT pk unpk) (hp:t 123=some (.nat (fN pk))) (hu:t 89=some (.nat (fD unpk))) (hwk:t 7=some (.nat yZ)) (hw:H.wf) {l0 l1 s0 s1:V} {rs os:List (List Nat)} {a0 a1:List Nat} (hr:sE H l0 rs) (ho:sE H l1 os) (h0:Row H (λ_=>False) s0 1 a0.length (a0.map (V.int 4))) (n0:a0.length<9223372036854775808) (t0:∀ x ∈ a0,x<256) (h1:Row H (λ_=>False) s1 1 a1.length (a1.map (V.int 4))) (n1:a1.length<9223372036854775808) (t1:∀ x ∈ a1,x<256) (hfu:1000000<fuel)
 (d:Nat) (k:K) (x:R) (hx:∀ H',ae H H'->k (.bool true) H'=x):aj (aQ (aZ Tryz.prog) t fuel (d+13)) (.func 8 []) [l0,l1,.agg [s0,s1]] H k=x:=by
 obtain ⟨Hb,hHb,fb,pb,nb⟩:=Heap.aP hw (.cells [s0,s1])
 obtain ⟨G1,vu,z1o,f1,hvu⟩:=uk (fuel:=fuel) T hc F hp hu fb.wf (hr.fresh fb) hfu
 obtain ⟨G2,vv,z2o,f2,hvv⟩:=uk (fuel:=fuel) T hc F hp hu f1.wf ((ho.fresh fb).fresh f1) hfu
 have z1:=λ{k:K}=>z1o d k
 have z2:=λ{k:K}=>z2o d k
 have zw:=λ{d:Nat} {k:K} {G:Heap}=>sj (fuel:=fuel) hwk (cp:=aZ Tryz.prog) d k G
 have i0:=λ{id:Nat} {k:R}=>aG h0.one (id:=id) (k:=k)
 have i1:=λ{id:Nat} {k:R}=>aG h1.one (id:=id) (k:=k)
 have il0:=λ{id:Nat} {k:R}=>(let ⟨_,_,h,_⟩:=hr;aG h.one (id:=id) (k:=k))
 have il1:=λ{id:Nat} {k:R}=>(let ⟨_,_,h,_⟩:=ho;aG h.one (id:=id) (k:=k))
 have seg:∀ (e':Env) (ak:Nat),ak<256->aa s000 e'=l0->aa s001 e'=l1->aa s007 e' = .int 4 ak->aa s010 e'=s1->(fM My fuel (aQ (aZ Tryz.prog) t fuel (d+12)) e' Hb (jy [.tmp s006] k) λn e H=>if n=0 then jy [.tmp s006] k e H else no 6)=x:=λe' ak hak q0 q1 q7 q10=>by
  rcases hvu with rfl|⟨vp,rfl,dp,A,O,m,vl,vs,vi,a,kk,us,S,I,hf,fr,own,hM⟩
  .simp only [go_sem,My,RT,q0,q1,↓z1,↓z2,↓zw]
   exact hx _ (fb.trans (f1.trans f2))
  rcases hvv with rfl|⟨vq,rfl,dq,B,Q,w,wl,ws,wi,b,kq,uq,S',I',hf',fr',own',hM'⟩
  .simp only [go_sem,My,RT,q0,q1,↓z1,↓z2,↓zw]
   exact hx _ (fb.trans (f1.trans f2))
  have W:BZ Hb G2 dp vp a kk A O m vl vs vi dq vq b kq B Q w wl ws wi:=⟨S.fresh f2,S',(hM.si λb hb h=>h.elim (λh=>by have:=own' b h;omega) YE).fresh f2,hM'.si λb _ h=>h.imp_left (S.lt b),λx h h'=>by have:=S.lt x h;have:=own' x h';omega,fr.trans fr',own,λx h=>Ym fr.n (own' x h)⟩
  obtain ⟨G3,LA,LB,M,X,ln,vm,lx,v15,W3,P3,hx3,r15,z3⟩:=KB (cp:=aZ Tryz.prog) (fuel:=fuel) (v10:=s1) T hc W I.rd I'.rd hak (by omega)
  obtain ⟨G4,W4,K4,z4⟩:=KC (cp:=aZ Tryz.prog) (fuel:=fuel) (v15:=v15) (v16:=.ptr M 0) (v17:=.ptr X 0) (v20:=.int 3 (EZ A m ln 0 (cg w).g (0,0)).idx) T hc W3 I.rd I'.rd (h1.fresh fb) n1 t1 P3.a P3.b P3.an P3.bn P3.ap P3.bp (by omega)
  have P4:=P3.kept K4
  have r4:Row G4 (nH O vp Q vq) v15 2 m.ah.length (fI (m.ah.map (·.g))):=by
   obtain ⟨g1,g2,h|⟨bb,o,c,s,l,e1,e2,e3,e4,e5⟩⟩:=r15
   .exact ⟨g1,g2,YG h⟩
   .exact ⟨g1,g2,YE ⟨bb,o,c,s,l,e1,by rw [K4.2 bb e3 e4];exact e2,YC e3 K4.1,e4,e5⟩⟩
  simp only [go_sem,My,RT,q0,q1,↓z1,↓z2]
  refine z3 (d+5) _ _ _ _ ?_ ?_ ?_ ?_ λe2 q10 q11 q12 q13 q14 q15 q16 q17 q20=>?_
  all_goals first|(simp only [go_sem,q7,q10];done)|skip
  simp only [go_sem,Mw]
  refine z4 (d+5) _ _ _ ?_ ?_ ?_ ?_ ?_ ?_ ?_ ?_ ?_ ?_ λe3 q11 q12 q13 q14 q15 q16 q17 q20=>?_
  all_goals first|(simp only [go_sem,q10,q11,q12,q13,q14,q15,q16,q17,q20];done)|skip
  simp only [go_sem]
  exact KD T hc hwk W4 I.rd I'.rd P4 hx3 r4 (by omega) (d+5) (λ_=>λ_ _=>0) _ k x (λG' f=>hx _ (fb.trans f)) q11 q12 q13 q14 q15 q16 q17 q20
 have s0l:=λ{id:Nat} {f:Nat->R}=>h0.sn (id:=id) (f:=f)
 rw [aR T.k4 rfl rfl]
 cases a0 with
 | nil=>
  simp only [List.length_nil]at s0l
  simp only [go_sem,ZE,c4,V0,V1,hw,↓i0,↓i1,hHb,pb,↓s0l]
  exact seg _ 0 (by omega) rfl rfl rfl rfl
 | cons y a0=>
  have hy:=t0 y (YI ..)
  obtain ⟨bL,oL,cL,zL,hvL,hbL,-,hrL⟩:=h0.open (i:=0) (by simp)
  have hrL:=λ{id:Nat} {k:V->R}=>(hrL (G:=Hb) (fb.same _ hbL)).2 (x:=.int 4 y) rfl (id:=id) (k:=k)
  rw [Wm,WI]at hrL
  have c1:0<(y :: a0).length:=by simp
  have c2:nn (y :: a0).length:=n0
  have c3:nn 0:=by unfold nn;omega
  generalize (y :: a0).length=nl at s0l c1 c2 n0 hvL
  subst hvL
  simp only [go_sem,ZE,c4,V0,V1,hw,↓i0,↓i1,hHb,pb,↓s0l,n0,c1,c2,c3,↓hrL]
  exact seg _ y hy rfl rfl rfl rfl
end
end Go.Ev
end
section
namespace Go.Ev
open Go.Deep Go.ChangeShapes Go.WideShapes Go.RowKit
theorem Y8 {n:Int}:(n%(2 ^ IntKind.u8.bits:Nat)).toNat<256:=by
 have h1:(0:Int)<=n%(2 ^ IntKind.u8.bits:Nat):=Int.emod_nonneg _ (by simp [IntKind.bits])
 have h2:n%(2 ^ IntKind.u8.bits:Nat)<(2 ^ IntKind.u8.bits:Nat):=Int.emod_lt_of_pos _ (by omega)
 simp only [IntKind.bits]at h1 h2 ⊢
 omega
theorem Pm {w:World} {b o len c:Nat} {row:List V} {v:V} {α:Type} {f:α->V} {p:Nat->α} (hl0:0<len) (hv:v = .slice b o len c 0) (hb:isRow ((dz w).get b) row) (hbn:b<(dz w).n) (h1:∀ i,i<len->(f (p i)).one=true) (hp:∀ i,i<len->row[o+i]? = some (f (p i))):
 Row (dz w) (λ_=>False) v 1 len (((WT len).map p).map f):=by
 have hlast:=(Ya.1 (hp (len-1) (by omega))).1
 refine ⟨by simp,λx hx=>?_,YE ⟨b,o,c,0,row,hv,hb,hbn,λh=>h,by omega,List.ext_getElem? λk=>?_⟩⟩
 .obtain ⟨y,hy,rfl⟩:=Ye.1 hx
  obtain ⟨i,hi,rfl⟩:=Ye.1 hy
  exact h1 i (QR.1 hi)
 .rw [List.getElem?_take,WN]
  by_cases hk:k<len
  .rw [if_pos hk,List.getElem?_drop,hp k hk,Yh,Yh,List.getElem?_range hk]
   rfl
  .rw [if_neg hk,List.getElem?_eq_none (by simp;omega)]
section
variable {H:Type} {enc:TypeId × Value->H} {P:Program} {w:World}
theorem ye {r:Reach} {base n:Nat} {t e:TypeId} {v:Value} (ht:P.underlying t=some (.array n e)) (h:Value.okWide P w r base t v):∃ cs,v = .agg cs:=by
 simp only [Value.okWide,ht]at h
 obtain ⟨cs,rfl,-⟩:=h
 exact ⟨cs,rfl⟩
theorem BK {t e:TypeId} {fuel:Nat} {v:Value} {x:DataW H × List MemPlace} (ht:P.underlying t=some (.slice e)) (hz:P.cellsOf e=1) (he:P.underlying e=some (.int .u8)) (h:DataW.trod enc P w 0 (λ_=>true) true fuel t [v]=some x) (hnf:w.noneFrozen x.2):
 ∃ l:List Nat,l.length<9223372036854775808/\(∀ q ∈ l,q<256)/\Row (dz w) (λ_=>False) (nu w.heap.size v) 1 l.length (l.map (V.int 4)):=by
 obtain ⟨h1,h2⟩:=xB ht hz (by omega) h hnf (λ_ _ _ _ _ hb=>(show False from hb).elim)
 rcases h2 with h2|⟨b,o,len,c,row,hl0,hl,hv,hb,hbn,hx⟩
 .exact ⟨[],by simp,λx hx=>(by cases hx),⟨rfl,λx hx=>(by cases hx),YG ⟨h2,rfl⟩⟩⟩
 have each:∀ i,i<len->∃ p:Nat,row[o+i]? = some (.int 4 p)/\p<256:=λi hi=>by
  obtain ⟨cs,n,y,hlen,hcs,htr,_⟩:=hx i hi
  match cs,hlen with
  | [v0],_=>
   obtain ⟨a,e0,_,x0⟩:=DataW.trod_int he htr
   cases e0
   have:=hcs 0 _ rfl
   rw [WN,WI,TU x0]at this
   exact ⟨_,this,Y8⟩
 obtain ⟨p,hp⟩:=choose_lt each
 refine ⟨(WT len).map p,by rw [Yl,QJ];omega,λq hq=>?_,?_⟩
 .obtain ⟨i,hi,rfl⟩:=Ye.1 hq
  exact (hp i (QR.1 hi)).2
 .rw [Yl,QJ]
  exact Pm (f:=V.int 4) hl0 hv (YE hb) hbn (λ_ _=>rfl) λi hi=>(hp i hi).1
theorem Jl {t e g:TypeId} {fuel:Nat} {v:Value} {x:DataW H × List MemPlace} (ht:P.underlying t=some (.slice e)) (hz:P.cellsOf e=1) (he:P.underlying e=some (.slice g)) (hg:P.cellsOf g=1) (hu:P.underlying g=some (.int .u8)) (h:DataW.trod enc P w 0 (λ_=>true) true fuel t [v]=some x) (hnf:w.noneFrozen x.2):
 (nu w.heap.size v).one=true/\∃ rs,sE (dz w) (nu w.heap.size v) rs:=by
 obtain ⟨h1,h2⟩:=xB ht hz (by omega) h hnf (λ_ _ _ _ _ hb=>(show False from hb).elim)
 refine ⟨h1,?_⟩
 rcases h2 with h2|⟨b,o,len,c,row,hl0,hl,hv,hb,hbn,hx⟩
 .exact ⟨[],by simp,[],⟨rfl,λx hx=>(by cases hx),YG ⟨h2,rfl⟩⟩,λi r hr=>by simp at hr⟩
 have each:∀ i,i<len->∃ p:V × List Nat,row[o+i]? = some p.1/\p.2.length<9223372036854775808/\(∀ q ∈ p.2,q<256)/\Row (dz w) (λ_=>False) p.1 1 p.2.length (p.2.map (V.int 4)):=λi hi=>by
  obtain ⟨cs,n,y,hlen,hcs,htr,hnf'⟩:=hx i hi
  match cs,hlen with
  | [v0],_=>
   obtain ⟨l,g1,g2,g3⟩:=BK he hg hu htr hnf'
   have:=hcs 0 _ rfl
   rw [WN,WI]at this
   exact ⟨(_,l),this,g1,g2,g3⟩
 have:Inhabited V:=⟨.aw⟩
 obtain ⟨p,hp⟩:=choose_lt each
 refine ⟨(WT len).map λi=>(p i).2,by rw [Yl,QJ];omega,((WT len).map p).map (·.1),?_,λi r hr=>?_⟩
 .rw [Yl,QJ]
  exact Pm (f:=λq:V × List Nat=>q.1) hl0 hv (YE hb) hbn (λi hi=>(hp i hi).2.2.2.one) λi hi=>(hp i hi).1
 .rw [Yh]at hr
  obtain ⟨j,h3,rfl⟩:=Option.map_eq_some_iff.1 hr
  obtain ⟨h4,h5⟩:=Ya.1 h3
  rw [List.getElem_range]at h5
  subst h5
  rw [QJ]at h4
  obtain ⟨g0,g1,g2,g3⟩:=hp i h4
  exact ⟨g1,g2,(p i).1,by rw [Yh,Yh,h3];rfl,g3⟩
theorem HN {t e g:TypeId} {fuel:Nat} {cs:List Value} {x:DataW H × List MemPlace} (ht:P.underlying t=some (.array 2 e)) (hz:P.cellsOf t=2) (he:P.cellsOf e=1) (hs:P.underlying e=some (.slice g)) (hg:P.cellsOf g=1) (hu:P.underlying g=some (.int .u8)) (h:DataW.trod enc P w 0 (λ_=>true) true fuel t cs=some x) (hnf:w.noneFrozen x.2):
 ∃ v0 v1:Value,cs=[v0,v1]/\(∃ l:List Nat,l.length<9223372036854775808/\(∀ q ∈ l,q<256)/\Row (dz w) (λ_=>False) (nu w.heap.size v0) 1 l.length (l.map (V.int 4)))/\∃ l:List Nat,l.length<9223372036854775808/\(∀ q ∈ l,q<256)/\Row (dz w) (λ_=>False) (nu w.heap.size v1) 1 l.length (l.map (V.int 4)):=by
 obtain ⟨ys,m,_,rfl,hl,hyl,hel⟩:=DataW.trod_array ht h
 rw [hz]at hl
 match cs,hl,ys,hyl with
 | [v0,v1],_,[y0,y1],_=>
  have e0:=hel 0 (by omega)
  have e1:=hel 1 (by omega)
  simp [he]at e0 e1
  refine ⟨v0,v1,rfl,BK hs hg hu e0 λb off h=>hnf b off (by simp [h]),BK hs hg hu e1 λb off h=>hnf b off (by simp [h])⟩
end
end Go.Ev
end

