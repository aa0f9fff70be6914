/- LC: a part of the evaluator,of its logic,or of the laws' walk in it. -/
import Derived.Test.YtnndgkcpacpleaaGreatDoorLB
import Derived.Test.YtnndgkcpacpleaaGreatDoorLA
import Derived.Test.YtnndgkcpacpleaaGreatDoorLg
import Derived.ChangeArms
import Derived.Deep.Slices
import Derived.ChangeSame
open List renaming getElem?_eq_getElem → YA,length_append → YC,length_cons → YH,mem_cons_of_mem → YI,mem_cons_self → YJ,nil_append → YK,cons_append → YL,length_nil → YO,map_cons → YP,eq_nil_of_length_eq_zero → YQ,append_nil → YR,mem_singleton → YU,take_of_length_le → YV,getElem_mem → YW,replicate → YZ,mem_cons → Yb,mem_map → Yi,getElem?_append_right → Ym,mem_append → Yn,getElem?_eq_some_iff → Yo,getElem?_append_left → Yp,getElem?_take → Yu,getElem?_drop → Yy,append_assoc → WA,map_append → WB,drop_zero → WH,length_take → WI,take_succ_eq_append_getElem → WO,range → WX,getElem?_eq_none → WY,take_length → WZ,not_mem_nil → Wa,flatMap_cons → Wb,mem_of_mem_take → Wc,nodup_cons → Wg,flatMap_append → Wj,drop_eq_getElem_cons → Ws,flatMap_nil → QD,mem_range → QH,length_range → QI,nodup_append → QV,ext_getElem? → Qc,nodup_nil → Qh,take_left' → Qk,drop_length → Qq,filter_append → YF0,mem_flatten → YH3,length_filter_le → YJ3,flatten_append → YL1
open Nat renaming le_refl → YB,lt_of_lt_of_le → YD,beq → YM,ble → YX,zero_le → Yf,mod → Yq,le_trans → Yr,mod_eq_of_lt → WE,zero_add → WJ,add_zero → WL,succ → WN,mul_one → WS,add_mul → Wi,not_lt_zero → Wm,zero_mul → Wp,sub_self → QR,mul_le_mul_right → QU,one_mul → YB0
open Or renaming inr → YE,inl → YG
open Eq renaming trans → YY
open Bool renaming false_ne_true → YA3
open Classical renaming propDecidable → YH2
open Prod renaming ext → YK0
set_option linter.unusedVariables false
set_option linter.unusedSimpArgs false
set_option linter.unusedSectionVars false
set_option maxHeartbeats 8000000
open Nat renaming reduceAdd→ZA,reduceSub→ZB,reduceMul→ZC,reduceEqDiff→ZD,reduceLT→ZE,reduceDiv→ZF,reduceMod→ZG,reduceLeDiff→ZH
section
namespace Go.Ev
def isRow (bl:eK) (row:List V):Prop:=bl = .cells row\/bl = .view row
theorem yA {bl} {row} {o} {v} (h:isRow bl row) (hr:row[o]? = some v) (h1:v.one=true) {id} {k}:Du id bl o k=k v:=by
 rcases h with rfl|rfl
 .show nth id row o k=_
  exact jT hr
 .show nth id row o (λv=>dZ id v (k v))=_
  rw [jT hr]
  cases v<;>first|rfl|cases h1
def OW (v:V):Prop:=v = .az\/∃ b o c s,v = .slice b o 0 c s
theorem af.own {H H1 H2:Heap} {O1 O2:Nat->Prop} (f:af H H1) (s:Step H1 O1 H2 O2) (h:∀ b,O1 b->H.n<=b):af H H2/\∀ b,O2 b->H.n<=b:=by
 have hn:∀ b,b<H.n->¬ O1 b:=λb hb ho=>by have:=h b ho;omega
 refine ⟨⟨s.wf,Yr f.n s.n,λb hb=>((s.same b (YD hb f.n) (hn b hb)).1).trans (f.same b hb),λlo h1 h2=>(s.lo lo (f.lo lo h1 h2) (Yr h2 f.n) λb hb=>Yr h2 (h b hb)).1⟩,λb hb=>?_⟩
 rcases Nat.lt_or_ge b H.n with h1|h1
 .exact absurd hb (s.same b (YD h1 f.n) (hn b h1)).2
 .exact h1
end Go.Ev
end
section
namespace Go.Ev
theorem dB:∀ {ws} {es} {k},k ∉ ws.map (·.1)->find (laid es ws) k=find es k
 | [],es,k,_=>rfl
 | w :: ws,es,k,h=>by
  simp only [YP,Yb,not_or]at h
  show find (laid (eS es w.1 w.2) ws) k=_
  rw [dB h.2,dx,if_neg h.1]
theorem fu:∀ {ws} {es} {w:Wr},(ws.map (·.1)).Nodup->w ∈ ws->find (laid es ws) w.1=some w.2
 | [],es,w,_,h=>by cases h
 | v :: ws,es,w,hn,h=>by
  simp only [YP,Wg]at hn
  show find (laid (eS es v.1 v.2) ws) w.1=_
  rcases Yb.1 h with rfl|h
  .rw [dB hn.1,dx,if_pos rfl]
  .exact fu hn.2 h
structure nZ (len:Nat) (es:List (Nat × Tx)):Prop where
 nodup:(es.map (·.1)).Nodup
 lt:∀ e ∈ es,e.1<len
theorem Bi:∀ (es:List (Nat × Tx)) (a) (v:Tx),(eS es a v).map (·.1)=if a ∈ es.map (·.1) then es.map (·.1) else es.map (·.1) ++ [a]
 | [],a,v=>rfl
 | p :: es,a,v=>by
  unfold eS
  by_cases h:p.1=a
  .simp_all
  .rw [if_neg h,YP,Bi es a v,YP]
   grind
theorem nZ.eS {len:Nat} {es:List (Nat × Tx)} (h:nZ len es) {a:Nat} {v:Tx} (ha:a<len):nZ len (eS es a v):=by
 have hk:=Bi es a v
 refine ⟨?_,λe he=>?_⟩
 .rw [hk]
  split
  .exact h.nodup
  .rename_i hn
   exact QV.2 ⟨h.nodup,by simp,λx hx y hy=>by rw [YU.1 hy];rintro rfl;exact hn hx⟩
 .have:e.1 ∈ (Go.Ev.eS es a v).map (·.1):=Yi.2 ⟨e,he,rfl⟩
  rw [hk]at this
  split at this
  .obtain ⟨q,hq,e⟩:=Yi.1 this
   have:=h.lt q hq
   omega
  .rcases Yn.1 this with h1|h1
   .obtain ⟨q,hq,e⟩:=Yi.1 h1
    have:=h.lt q hq
    omega
   .rw [YU.1 h1];exact ha
theorem nZ.laid {len:Nat}:∀ {ws:List Wr} {es:List (Nat × Tx)},nZ len es->(∀ w ∈ ws,w.1<len)->nZ len (laid es ws)
 | [],es,h,_=>h
 | w :: ws,es,h,hw=>nZ.laid (ws:=ws) (h.eS (hw w (YJ ..))) λv hv=>hw v (YI _ hv)
theorem nZ.length {len:Nat} {es:List (Nat × Tx)} (h:nZ len es):es.length<=len:=by
 have h1:(es.map (·.1)) ⊆ WX len:=λk hk=>by
  obtain ⟨e,he,rfl⟩:=Yi.1 hk
  exact QH.2 (h.lt e he)
 have:=List.Nodup.length_le_of_subset h.nodup h1
 simpa using this
theorem nZ.nil {len:Nat}:nZ len []:=⟨Qh,λ_ h=>by cases h⟩
theorem II:∀ {ws} {A:AD},A.aZ=0->(A.qT ws).2=0/\(A.qT ws).1.aZ=0
 | [],A,h=>⟨rfl,h⟩
 | w :: ws,A,h=>by
  have hf:¬ A.aZ=1:=by omega
  have h1:(A.write w.1 w.2.2).2=0:=by simp only [AD.write,if_neg hf]
  simp only [AD.qT,if_pos h1]
  exact II (by simp only [AD.write,if_neg hf];omega)
theorem Oe {ws} {A:AD} (h:A.aZ=0):(A.lq ws).2=0/\(A.lq ws).1.aZ=0:=by
 obtain ⟨h1,h2⟩:=II (ws:=ws) h
 have hf:¬ (A.qT ws).1.aZ=1:=by omega
 simp only [AD.lq,if_pos h1,AD.flush,if_neg hf,true_and]
 omega
theorem mN:∀ {l} {A:AD},A.aZ=0->(A.runs l).2=0/\(A.runs l).1.aZ=0
 | [],A,h=>⟨rfl,h⟩
 | ws :: l,A,h=>by
  obtain ⟨h1,h2⟩:=Oe (ws:=ws) h
  simp only [AD.runs,if_pos h1]
  exact mN h2
theorem qx:∀ {l} {A},(∀ ws ∈ l,∀ w ∈ ws,w.2.1=32)->(A.runs l).2=0->O7 A (A.runs l).1 (laid A.es l.flatten)/\(l≠[]->(A.runs l).1.us=[])
 | [],A,_,_=>⟨⟨rfl,rfl,rfl,rfl⟩,λh=>absurd rfl h⟩
 | ws :: l,A,hl,h0=>by
  simp only [AD.runs]at h0 ⊢
  by_cases h1:(A.lq ws).2=0
  .rw [if_pos h1]at h0 ⊢
   obtain ⟨⟨g1,g2,g3,g4⟩,g5⟩:=AW (hl ws (YJ ..)) h1
   obtain ⟨⟨k1,k2,k3,k4⟩,k5⟩:=qx (λus hus=>hl us (YI _ hus)) h0
   refine ⟨⟨k1.trans g1,k2.trans g2,k3.trans g3,?_⟩,λ_=>?_⟩
   .rw [k4,g4,List.flatten_cons,jl]
   .by_cases hl0:l=[]
    .subst hl0;exact g5
    simp_all
  simp_all
theorem AS {a} {ps} (ha:a<2) (hn:ps.length<=72) (hl:∀ s ∈ ps,s.length=32):∀ w ∈ outs a ps,(1<=w.1/\w.1<145)/\w.2.1=32:=λw hw=>by
 obtain ⟨i,hi,rfl⟩:=yp hw
 refine ⟨⟨?_,?_⟩,hl _ (YW hi)⟩
 .omega
 omega
theorem Ku (a) (ps):((outs a ps).map (·.1)).Nodup:=by
 have:(outs a ps).map (·.1)=(WX ps.length).map (λi=>1+a*72+i):=by
  refine List.ext_getElem (by simp [outs]) λi h1 h2=>?_
  simp [outs]
 rw [this]
 refine List.Pairwise.map _ (λx y h=>?_) List.nodup_range
 omega
theorem nT:∀ {ws} {es es':List (Nat × Tx)} {k},find es k=find es' k->find (laid es ws) k=find (laid es' ws) k
 | [],es,es',k,h=>h
 | w :: ws,es,es',k,h=>nT (es:=eS es w.1 w.2) (by rw [dx,dx,h])
theorem AG:∀ {ws:List Wr} {es:List (Nat × Tx)} {k},(∀ w ∈ ws,find es w.1=some w.2)->find (laid es ws) k=find es k
 | [],_,_,_=>rfl
 | w :: ws,es,k,h=>by
  have hu:∀ k,find (eS es w.1 w.2) k=find es k:=λk=>by
   rw [dx]
   simp_all
  show find (laid (eS es w.1 w.2) ws) k=_
  rw [AG λv hv=>by grind,hu]
theorem rC {room}:∀ {ws} {es:List (Nat × Tx)},(∀ w ∈ ws,(find es w.1).isSome=true)->roomy room es ws
 | [],_,_=>trivial
 | w :: ws,es,h=>⟨YG (h w (YJ ..)),rC λv hv=>by
  rw [dx]
  grind⟩
structure JD (pk:List UInt8->List (List UInt8)) (A:AD) (a n:Nat) (ws:List Wr):Prop where
 off:A.off=false
 keys:nZ A.len A.es
 us:A.us=[]
 HB:qW A pk a n ws
 some_:n≠0->∀ w ∈ ws,find A.es w.1=some w.2
theorem RX (a n):(((0,tx (fX a n)):Wr)).2.1=32:=nA a n
theorem JD.start {pk:List UInt8->List (List UInt8)} {A:AD} (hl:145<A.len) (hl2:A.len<=1024) (ho:A.off=false) (hk:nZ A.len A.es) (hf:A.aZ=0):JD pk (A.runs [[(0,tx (fX 0 0))]]).1 0 0 []/\(A.runs [[(0,tx (fX 0 0))]]).1.aZ=0/\(A.runs [[(0,tx (fX 0 0))]]).2=0/\O7 A (A.runs [[(0,tx (fX 0 0))]]).1 (eS A.es 0 (tx (fX 0 0))):=by
 obtain ⟨h1,h2⟩:=mN (l:=[[(0,tx (fX 0 0))]]) hf
 obtain ⟨⟨g1,g2,g3,g4⟩,g5⟩:=qx (l:=[[(0,tx (fX 0 0))]]) (A:=A) (λws hws w hw=>by
  rw [YU.1 hws]at hw
  rw [YU.1 hw]
  exact RX 0 0) h1
 have g5:=g5 (by simp)
 have g4:_=eS A.es 0 (tx (fX 0 0)):=g4
 generalize (A.runs [[(0,tx (fX 0 0))]]).1=B at h2 g1 g2 g3 g4 g5 ⊢
 have hkB:nZ B.len B.es:=by rw [g1,g4];exact hk.eS (by omega)
 have hlen:=hkB.length
 refine ⟨⟨g3.trans ho,hkB,g5,⟨⟨by omega,by omega,by omega,by rw [g5];simp,?_,by omega,by omega⟩,λh=>absurd rfl h⟩,λh=>absurd rfl h⟩,h2,h1,⟨g1,g2,g3,g4⟩⟩
 rw [AD.read,g4,dx,if_pos rfl]
 rfl
structure Did (pk:List UInt8->List (List UInt8)) (A:AD) (ws:List Wr) (B:AD × Nat):Prop where
 no:B.2≠0->B.1=A
 aZ:B.1.aZ=0
 len:B.1.len=A.len
 room:B.1.room=A.room
 jd:∃ a n us,JD pk B.1 a n us
 yes:B.2=0->(∀ k,145<=k->find B.1.es k=find (laid A.es ws) k)/\iq A.len [] ws=true
theorem JD.same {pk:List UInt8->List (List UInt8)} {A:AD} {a n e:Nat} {us ws:List Wr} (J:JD pk A a n us) (hf:A.aZ=0) (he:e≠0\/ws=[]):Did pk A ws (A,e):=
 ⟨λ_=>rfl,hf,rfl,rfl,⟨a,n,us,J⟩,λh=>by
  rcases he with h1|rfl
  .exact absurd h h1
  .exact ⟨λk _=>rfl,rfl⟩⟩
theorem JD.ran {pk:List UInt8->List (List UInt8)} {unpk:List (List UInt8)->Option (List UInt8)} (F:cD pk unpk) {A B:AD} {a n:Nat} {us ws:List Wr} (J:JD pk A a n us) (hm:iq A.len [] ws=true) (h60:ws.length<=60) (h0:ws≠[]) (hws:∀ w ∈ ws,vk w.2)
 (w:O7 A B (laid A.es (outs (1-a) (pk (dD ws)) ++ (0,tx (fX (1-a) (pk (dD ws)).length)):: ws))) (hu:B.us=[]):JD pk B (1-a) (pk (dD ws)).length ws/\∀ k,145<=k->find B.es k=find (laid A.es ws) k:=by
 obtain ⟨h1,h2,h3,⟨⟨k1,k2,k3,k4,k5,k6,k7⟩,k8⟩,h5⟩:=J
 obtain ⟨hgood,hnd⟩:=iM hm
 have hrec:rR ws:=⟨h60,λw hw=>by have:=(hgood w hw).1.2.1;omega,λw hw=>(hgood w hw).1.2.2,hws⟩
 have htl:=hrec.text
 have hpkn:=F.num _ htl
 have hpkp:=F.pos (dD ws) (by omega)
 have hpkl:=F.len (dD ws) (by omega)
 have ha1:1-a<2:=by omega
 have hout:=AS (a:=1-a) ha1 hpkn hpkl
 have hond:=Ku (1-a) (pk (dD ws))
 have hom:∀ i (h:i<(pk (dD ws)).length),((1+(1-a)*72+i,tx (pk (dD ws))[i]):Wr) ∈ outs (1-a) (pk (dD ws)):=λi h=>by
  simp only [outs,List.mem_mapIdx]
  exact ⟨i,h,rfl⟩
 generalize hq:outs (1-a) (pk (dD ws))=first at w hout hond hom
 generalize hp:pk (dD ws)=ps at w hpkn hpkp hpkl hom
 obtain ⟨g1,g2,g3,g4⟩:=w
 rw [jl]at g4
 have g4:B.es=laid (eS (laid A.es first) 0 (tx (fX (1-a) ps.length))) ws:=g4
 have hnw:∀ k,k<145->k ∉ ws.map (·.1):=λk hk hm=>by
  obtain ⟨v,hv,e⟩:=Yi.1 hm
  have:=(hgood v hv).1.1
  omega
 have hnf:∀ k,(k=0\/145<=k)->k ∉ first.map (·.1):=λk hk hm=>by
  obtain ⟨v,hv,e⟩:=Yi.1 hm
  have:=(hout v hv).1
  omega
 have hkB:nZ B.len B.es:=by
  rw [g1,g4]
  exact ((h2.laid (ws:=first) λv hv=>by have:=(hout v hv).1;omega).eS (by omega)).laid λv hv=>(hgood v hv).1.2.1
 have hsome:∀ v ∈ ws,find B.es v.1=some v.2:=λv hv=>by rw [g4];exact fu hnd hv
 have hlB:=hkB.length
 refine ⟨⟨g3.trans h1,hkB,hu,⟨⟨by omega,by omega,by omega,by rw [hu];simp,?_,ha1,hpkn⟩,λ_=>⟨by rw [hp],λi hi=>?_,hrec,h0,by rw [g1];exact hm,rC λv hv=>by rw [hsome v hv];rfl⟩⟩,λ_=>hsome⟩,λk hk=>?_⟩
 .rw [AD.read,g4,dB (hnw 0 (by omega)),dx,if_pos rfl]
  rfl
 .rw [hp]at hi
  have hm:=hom i hi
  have hb:=(hout _ hm).1
  have h3:∀ k v,(1<=k/\k<145)->((k,v):Wr) ∈ first->B.read k=v:=λk v hk hm=>by
   rw [AD.read,g4,dB (hnw k hk.2),dx,if_neg (by omega),show find (laid A.es first) k=some v from fu hond hm]
   rfl
  rw [h3 _ _ hb hm]
  simp only [hp]
 .rw [g4]
  refine nT ?_
  rw [dx,if_neg (by omega),dB (hnf k (YE hk))]
theorem JD.eG {pk:List UInt8->List (List UInt8)} {unpk:List (List UInt8)->Option (List UInt8)} (F:cD pk unpk) {A:AD} {a n:Nat} {us ws:List Wr} (J:JD pk A a n us) (hf:A.aZ=0) (hws:∀ w ∈ ws,vk w.2):Did pk A ws (A.eG pk a ws):=by
 unfold AD.eG
 rw [if_neg (by rw [J.off];exact YA3)]
 by_cases h0:ws.length=0
 .rw [if_pos h0];exact J.same hf (YE (YQ h0))
 rw [if_neg h0]
 by_cases h6:60<ws.length
 .rw [if_pos h6];exact J.same hf (YG (by omega))
 rw [if_neg h6]
 by_cases hm:iq A.len [] ws=false
 .rw [if_pos hm];exact J.same hf (YG (by omega))
 rw [if_neg hm]
 have hm:iq A.len [] ws=true:=by simpa using hm
 split
 .obtain ⟨h1,h2⟩:=mN (l:=[outs (1-a) (pk (dD ws)),[(0,tx (fX (1-a) (pk (dD ws)).length))],ws]) hf
  have hgood:=(iM hm).1
  have hrec:rR ws:=⟨by omega,λw hw=>by have:=(hgood w hw).1.2.1;have:=J.HB.can.hi;omega,λw hw=>(hgood w hw).1.2.2,hws⟩
  have htl:=hrec.text
  obtain ⟨g,g5⟩:=qx (l:=[outs (1-a) (pk (dD ws)),[(0,tx (fX (1-a) (pk (dD ws)).length))],ws]) (A:=A) (λus hus w hw=>by
   simp only [Yb,Wa,or_false]at hus
   rcases hus with rfl|rfl|rfl
   .exact (AS (by omega) (F.num _ htl) (F.len _ (by omega)) w hw).2
   .rw [YU.1 hw];exact RX _ _
   .exact (hgood w hw).1.2.2) h1
  obtain ⟨j1,j2⟩:=J.ran F hm (by omega) (λh=>h0 (by rw [h];rfl)) hws (by simpa using g) (g5 (by simp))
  exact ⟨λh=>absurd h1 h,h2,g.len,g.room,⟨_,_,_,j1⟩,λ_=>⟨j2,hm⟩⟩
 .exact J.same hf (YG (by omega))
end Go.Ev
end
section
namespace Go.Ev
theorem FL {es:List (Nat × Tx)} {k}:(find es k).isSome=true↔k ∈ es.map (·.1):=by
 unfold find
 simp
theorem yN:∀ (D) (a v),(D.map (·.1)).Nodup->((sZ D a v).map (·.1)).Nodup
 | [],a,v,_=>by simp [sZ]
 | p :: D,a,v,h=>by
  rw [YP,Wg]at h
  simp only [sZ]
  split
  .simp_all
  .rw [YP,Wg]
   refine ⟨λhm=>?_,yN D a v h.2⟩
   rcases (pF D a v p.1).1 hm with h1|h1
   .omega
   simp_all
theorem RQ {es:List (Nat × Tx)} {ns} {len} (hns:∀ n ∈ ns,n<len):∀ m,m<=ns.length->((vK es ns m).map (·.1)).Nodup/\∀ k ∈ (vK es ns m).map (·.1),k<len/\(find es k).isSome=false
 | 0,_=>⟨Qh,λk h=>by cases h⟩
 | m+1,hm=>by
  obtain ⟨h1,h2⟩:=RQ hns m (by omega)
  simp only [vK]
  split
  .exact ⟨h1,h2⟩
  .refine ⟨by exact yN _ _ _ h1,λk hk=>?_⟩
   rw [wW,pF]at hk
   rcases hk with rfl|hk
   .have hg:ns.getD m 0=ns[m]:=by rw [List.getD_eq_getElem?_getD,YA (by omega)];rfl
    simp_all
   .exact h2 k hk
theorem zF {A:AD} {ns} (hk:nZ A.len A.es) (hr:A.len<=A.room) (hns:∀ n ∈ ns,n<A.len):A.fits ns=true:=by
 refine decide_eq_true (YE ?_)
 obtain ⟨h1,h2⟩:=RQ hns ns.length (YB _)
 have hn:=QV.2 ⟨hk.nodup,h1,λx hx y hy=>by
  rintro rfl
  have:=(h2 x hy).2
  rw [FL.2 hx]at this;cases this⟩
 have hs:(A.es.map (·.1) ++ (vK A.es ns ns.length).map (·.1)) ⊆ WX A.len:=λk hk'=>by
  rw [QH]
  rcases Yn.1 hk' with h|h
  .obtain ⟨e,he,rfl⟩:=Yi.1 h;exact hk.lt e he
  .exact (h2 k h).1
 have:=List.Nodup.length_le_of_subset hn hs
 simp only [YC,List.length_map,QI]at this
 omega
def code (len:Nat) (ws:List Wr):Nat:=if ws.length=0 then 0 else if 60<ws.length then 3 else if iq len [] ws=false then 2 else 0
variable {pk:List UInt8->List (List UInt8)} {unpk:List (List UInt8)->Option (List UInt8)}
theorem JD.code (F:cD pk unpk) {A:AD} {a n:Nat} {us ws:List Wr} (J:JD pk A a n us) (hf:A.aZ=0) (hr:A.len<=A.room) (hws:∀ w ∈ ws,vk w.2):(A.eG pk a ws).2=Ev.code A.len ws:=by
 unfold AD.eG Ev.code
 rw [if_neg (by rw [J.off];exact YA3)]
 by_cases h0:ws.length=0
 .rw [if_pos h0,if_pos h0]
 rw [if_neg h0,if_neg h0]
 by_cases h6:60<ws.length
 .rw [if_pos h6,if_pos h6]
 rw [if_neg h6,if_neg h6]
 by_cases hm:iq A.len [] ws=false
 .rw [if_pos hm,if_pos hm]
 rw [if_neg hm,if_neg hm]
 have hm:iq A.len [] ws=true:=by simpa using hm
 have hgood:=(iM hm).1
 have hrec:rR ws:=⟨by omega,λw hw=>by have:=(hgood w hw).1.2.1;have:=J.HB.can.hi;omega,λw hw=>(hgood w hw).1.2.2,hws⟩
 have hnum:=F.num _ hrec.text
 have hlo:=J.HB.can.lo
 rw [if_pos (zF J.keys hr λn hn=>?_)]
 .exact (mN hf).1
 .rcases Yb.1 hn with rfl|hn
  .omega
  .rw [WB]at hn
   rcases Yn.1 hn with h|h
   .obtain ⟨w,hw,rfl⟩:=Yi.1 h
    obtain ⟨i,hi,rfl⟩:=yp hw
    show 1+(1-a)*72+i<_
    have:(1-a)<=1:=by omega
    omega
   .obtain ⟨w,hw,rfl⟩:=Yi.1 h
    exact (hgood w hw).1.2.1
theorem JD.recovered {A:AD} {a n:Nat} {us:List Wr} (J:JD pk A a n us) (hf:A.aZ=0):(A.recover n us).2=0/\JD pk (A.recover n us).1 a n us/\(A.recover n us).1.aZ=0/\(A.recover n us).1.len=A.len/\(A.recover n us).1.room=A.room/\∀ k,find (A.recover n us).1.es k=find A.es k:=by
 have hJ:=J
 obtain ⟨h1,h2,h3,⟨⟨k1,k2,k3,k4,k5,k6,k7⟩,k8⟩,h5⟩:=J
 unfold AD.recover
 rw [if_neg (by rw [h1];exact YA3)]
 by_cases hn:n=0
 .rw [if_pos hn];exact ⟨rfl,hJ,hf,rfl,rfl,λ_=>rfl⟩
 .rw [if_neg hn]
  obtain ⟨r1,r2,r3,r4,r5,_⟩:=k8 hn
  obtain ⟨hgood,hnd⟩:=iM r5
  obtain ⟨c1,c2⟩:=mN (l:=[us]) hf
  obtain ⟨⟨g1,g2,g3,g4⟩,g5⟩:=qx (l:=[us]) (A:=A) (λws hws w hw=>by rw [YU.1 hws]at hw;exact r3.len w hw) c1
  have g5:=g5 (by simp)
  have g4:(A.runs [us]).1.es=laid A.es us:=by rw [g4];simp
  have hfd:∀ k,find (A.runs [us]).1.es k=find A.es k:=λk=>by rw [g4];exact AG (h5 hn)
  generalize (A.runs [us]).1=B at c2 g1 g2 g3 g4 g5 hfd ⊢
  have hkB:nZ B.len B.es:=by rw [g1,g4];exact h2.laid λw hw=>(hgood w hw).1.2.1
  have hlen:=hkB.length
  refine ⟨c1,⟨g3.trans h1,hkB,g5,⟨⟨by omega,by omega,by omega,by rw [g5];simp,by rw [AD.read,hfd];exact k5,k6,k7⟩,λ_=>⟨r1,λi hi=>by rw [AD.read,hfd];exact r2 i hi,r3,r4,by rw [g1];exact r5,rC λw hw=>by rw [hfd,h5 hn w hw];rfl⟩⟩,λ_ w hw=>(hfd _).trans (h5 hn w hw)⟩,c2,g1,g2,hfd⟩
end Go.Ev
end
section
namespace Go.Ev
theorem bT {id} {k}:∀ {l},(∀ v ∈ l,v.one=true)->bu id l k=k
 | [],_=>rfl
 | v :: l,h=>by
  rw [lC,bT λv hv=>h v (YI _ hv)]
  have:=h v (YJ ..)
  cases v<;>first|rfl|(simp [V.one]at this)
def Gr (H G:Heap) (v:V) (size n:Nat) (row:List V):Prop:=row.length=n*size/\(∀ v ∈ row,v.one=true)/\((v = .az/\n=0)\/∃ b c s,v = .slice b 0 n c s/\0<n/\(c=n+1\/(c=0/\s=size))/\G.get b = .cells row/\H.n<=b/\b<G.n)
theorem Gr.az {H G:Heap} {size:Nat}:Gr H G .az size 0 []:=⟨by simp,λv h=>(by cases h),YG ⟨rfl,rfl⟩⟩
theorem Gr.fresh {H G G':Heap} {v:V} {size n:Nat} {row:List V} (h:Gr H G v size n row) (f:af G G'):Gr H G' v size n row:=by
 obtain ⟨h1,h2,h|⟨b,c,s,g1,g2,g3,g4,g5,g6⟩⟩:=h
 .exact ⟨h1,h2,YG h⟩
 .exact ⟨h1,h2,YE ⟨b,c,s,g1,g2,g3,(f.same b g6).trans g4,g5,YD g6 f.n⟩⟩
theorem Gr.sn {H G:Heap} {v:V} {size n:Nat} {row:List V} (h:Gr H G v size n row) {id:Nat} {f:Nat->R}:bG id v (λ_ _ len _ _=>f len) (f 0)=f n:=by
 obtain ⟨h1,h2,⟨rfl,rfl⟩|⟨b,c,s,rfl,_⟩⟩:=h<;>rfl
theorem Gr.one {H G:Heap} {v:V} {size n:Nat} {row:List V} (h:Gr H G v size n row):v.one=true:=by
 obtain ⟨h1,h2,⟨rfl,rfl⟩|⟨b,c,s,rfl,_⟩⟩:=h<;>rfl
theorem aI {v} (h:v.one=true) {id} {k}:dZ id v k=k:=by
 revert h;cases v<;>intro h<;>first|rfl|cases h
def js (v:V) (j:Nat):Prop:=∀ b o n c s,v = .slice b o n c s->j≠b
theorem Gr.app {H G:Heap} {v:V} {size n X cx sx:Nat} {row new:List V} (f:af H G) (h:Gr H G v size n row) (hX:G.get X = .cells new) (hl:new.length=size) (hone:∀ v ∈ new,v.one=true) (hb:n<1000000):
 ∃ v' G',(∀ {id:Nat} {ph:cU} {e:Env} {k:K} {a x:Arg},ay a e=v->ay x e = .slice X 0 1 cx sx->aL (.app false size a x) id ph e G k=k v' G')/\Gr H G' v' size (n+1) (row ++ new)/\af H G'/\(∀ j,j<G.n->js v j->G'.get j=G.get j)/\G.n<G'.n/\∀ j,j<G.n->js v' j:=by
 have hw:=f.wf
 have hld:∀ {id:Nat} {g:List V->R},Ht id G X 0 (1*size) g=g new:=λ{id g}=>by
  rw [CO,hX,iP,fk (Yf _),eP (by simp [hl])]
  rw [WH,YB0,YV (by omega)]
 obtain ⟨h1,h2,⟨rfl,rfl⟩|⟨b,c,s,rfl,g2,g3,g4,g5,g6⟩⟩:=h
 .have hr:row=[]:=YQ (by omega)
  subst hr
  refine ⟨.slice G.n 0 1 0 size,G.new (.cells new),λ{id ph e k a x} ha hx=>?_,⟨by simp [hl],by simpa using hone,YE ⟨G.n,0,size,rfl,by omega,YE ⟨rfl,rfl⟩,?_,f.n,by rw [Heap.aM];omega⟩⟩,f.trans (af.new hw),λj hj _=>?_,by rw [Heap.aM];omega,λj hj b o n c s he=>?_⟩
  .rw [cW,ha,hx,dV,if_neg (by omega),hld]
   rw [eC,if_neg (by omega),bT hone,if_pos (by omega),cE hw]
  .rw [Heap.aD hw,if_pos rfl];rfl
  .rw [Heap.aD hw,if_neg (by omega)]
  .cases he;omega
 .have hlr:∀ {id:Nat} {g:List V->R},ec id G b 0 (n*size) g=g row:=λ{id g}=>by
   rw [pE,g4,fR,fk (Yf _),eP (by simp [h1])]
   rw [WH,YV (by omega)]
  have hlen:(row ++ new).length=(n+1)*size:=by rw [YC,h1,hl,Wi,YB0]
  have hon:∀ v ∈ row ++ new,v.one=true:=λv hv=>(Yn.1 hv).elim (h2 v) (hone v)
  rcases g3 with rfl|⟨rfl,rfl⟩
  .refine ⟨.slice G.n 0 (n+1) 0 size,G.new (.cells (row ++ new)),λ{id ph e k a x} ha hx=>?_,⟨hlen,hon,YE ⟨G.n,0,size,rfl,by omega,YE ⟨rfl,rfl⟩,?_,f.n,by rw [Heap.aM];omega⟩⟩,f.trans (af.new hw),λj hj _=>?_,by rw [Heap.aM];omega,λj hj b o n c s he=>?_⟩
   .rw [cW,ha,hx,dV,if_neg (by omega),hld]
    rw [cw,if_neg (by omega),iE (by omega),bT hone,if_pos (by omega),hlr,bT h2,cE hw]
   .rw [Heap.aD hw,if_pos rfl]
   .rw [Heap.aD hw,if_neg (by omega)]
   .cases he;omega
  .have hw2:(G.put b .dead).wf:=by rw [Heap.bF];exact hw
   refine ⟨.slice G.n 0 (n+1) 0 s,(G.put b .dead).new (.cells (row ++ new)),λ{id ph e k a x} ha hx=>?_,⟨hlen,hon,YE ⟨G.n,0,s,rfl,by omega,YE ⟨rfl,rfl⟩,?_,f.n,by rw [Heap.aM,Heap.aR];omega⟩⟩,(f.put g5 g6).trans (af.new hw2),λj hj ho=>?_,by rw [Heap.aM,Heap.aR];omega,λj hj b o n c s he=>?_⟩
   .rw [cW,ha,hx,dV,if_neg (by omega),hld]
    rw [cw,if_neg (by omega),mb,bT hone,if_pos (by omega),g4,fR,if_pos h1,fm hw g6,cE hw2,Heap.aR]
   .rw [Heap.aD hw2,if_pos (by rw [Heap.aR])]
   .rw [Heap.aD hw2,if_neg (by rw [Heap.aR];omega),Heap.aE hw g6,if_neg (ho _ _ _ _ _ rfl)]
   .cases he;omega
section
variable {id:Nat} {ph:cU} {e:Env} {H:Heap} {k:K}
theorem Cl {l} {b} {t f}:IM (.cH l) b t f=f:=YY rfl rfl
theorem du {f}:jj id [] [] [] f=f true:=YY rfl rfl
theorem bZ {q a b} {cls} {l m} {f}:jj id (1 :: cls) (.int q a :: l) (.int q b :: m) f=if a=b then jj id cls l m f else f false:=by
 show aF (YM q q) (aF (YM a b) (jj id cls l m f) (f false)) (no 0)=_
 simp only [bB,om,if_true]
theorem bh {cls} {neg} {x y}:aL (.gf cls neg x y) id ph e H k=iS id (ay x e) λl=>iS id (ay y e) λm=>if l.length=cls.length/\m.length=cls.length then jj id cls l m λb=>k (.bool (if b=true then !neg else neg)) H else no 0:=by
 show aG x e (λx=>iS id x λl=>aG y e λy=>iS id y λm=>aF (YM (fD l) (AJ cls)) (aF (YM (fD m) (AJ cls)) (jj id cls l m λb=>aF b (aF neg (k (.bool false) H) (k (.bool true) H)) (k (.bool neg) H)) (no 0)) (no 0))=_
 rw [aq]
 congr 1
 funext l
 rw [aq]
 have hb:(λb=>aF b (aF neg (k (.bool false) H) (k (.bool true) H)) (k (.bool neg) H))=λb=>k (.bool (if b=true then !neg else neg)) H:=by
  funext b;cases b<;>cases neg<;>rfl
 rw [hb]
 simp only [bB,om,jR,xX]
 by_cases h1:l.length=cls.length
 .simp_all
 simp_all
theorem dW {s} {n}:mL [.gD s n] k e H=dQ 0 (ae s e) λb o=>ec 0 H b o n λl=>k (.agg l) H:=by
 show ik s e (λv=>dQ 0 v λb o=>ec 0 H b o n λl=>k (.agg l) H)=_
 rw [dY]
end
end Go.Ev
end
section
namespace Go.Ev
open Go.ChangeShapes Go.WideShapes Go.RowKit
theorem Dj {N} {k} {n} (h:(Lit.int k n).wf=true):qJ N (.int k n) = .int (lT k) (n%(2 ^ k.bits:Nat)).toNat:=by
 have hw:k.wrap n=n:=by
  unfold Lit.wf at h
  simp only [Bool.and_eq_true,decide_eq_true_eq]at h
  obtain ⟨h1,h2⟩:=h
  cases k<;>simp [IntKind.min,IntKind.max,IntKind.bits,IntKind.signed]at h1 h2<;>simp [IntKind.wrap,IntKind.bits,IntKind.signed]<;>omega
 unfold qJ nh
 simp [hw]
section
variable {P:Program} {w:World}
theorem Jn (hm:P.follows .mixedOrders=true) {t} (ht:iZ P t) {fuel depth} {f:FuncId} {args} {cargs} {w} (ha:cm (mu (yB w) (Ev.dR w) w) args cargs.toList)
 (h:∀ (k) (x),(∀ H',af (Ev.dR w) H'->k (.bool true) H'=x)->aj (aN (aP P) t fuel depth) (.func (2*f) []) args (Ev.dR w) k=x) (hg:GQ w/\∀ c,GB c->c<w.heap.size:=by exact Gno):
 Calls P f cargs w λe w'=>e = .returned (.bool true)/\Below w.heap.size w w':=by
 obtain ⟨v,H2,h1,h2⟩:=JK hm ht fuel depth (.func (2*f) []) args (Ev.dR w) (λv H2=>@ite _ (v = .bool true/\w.heap.size+1<=H2.bz) (YH2 _) 1 0) (h _ 1 λH' hF=>by
  rw [if_pos]
  exact ⟨rfl,hF.lo _ (by rw [zR];simp) (by rw [lB];simp)⟩)
 have h3:v = .bool true/\w.heap.size+1<=H2.bz:=by
  simp_all
 obtain ⟨rfl,hlo⟩:=h3
 have h4:=h1.2 f [] rfl
 rw [YR]at h4
 obtain ⟨_,h5⟩:=h4 0 w (yB w) w cargs (PR.dR w hg) ha
 refine CallsIn.calls (h5.mono λe w' he=>?_) λk=>by simp [Fence.room]
 obtain ⟨cv,rfl,rho',h6,h7,h8⟩:=he
 subst h6
 refine ⟨rfl,h7.below.os,h7.below.tape,h7.below.output,h7.below.size,λk hk=>h8.fr k hk λb hb=>?_⟩
 have:=(PR.dR (P:=P) w hg).lt b k hb
 rw [lB]at this
 omega
end
end Go.Ev
end
section
namespace Go.Ev
open Go.Deep Go.ChangeShapes Go.WideShapes
theorem Ag {w} {b i} {cv} (h:w.cell? ⟨b,i,none⟩=some cv) (hf:w.frozen? ⟨b,i,none⟩=false) (hgb:¬ GB b):∃ row,OO w b = .view row/\b<w.heap.size/\row[i]? = some (qJ w.heap.size cv):=by
 unfold World.cell? at h
 unfold World.frozen? at hf
 unfold OO
 rw [if_neg hgb]
 split at h
 .rename_i c e fr hc
  rw [hc]at hf ⊢
  refine ⟨_,rfl,(Array.getElem?_eq_some_iff.1 hc).1,HK h ?_⟩
  simp_all
 simp_all
theorem ae4 {N} {b}:qJ N (.bool b) = .bool b:=rfl
theorem OJ {N} {b o l cap} (h:l<=cap) (hb:b<N):qJ N (.slice (some ⟨b,o,none⟩) l cap) = .slice b o l (cap+1) 0:=by
 show (if l<=cap then _ else _)=_
 simp_all
theorem IC {N} {a}:OW (qJ N (.slice (some a) 0 0))/\(qJ N (.slice (some a) 0 0)).one=true:=by
 have:qJ N (.slice (some a) 0 0)=if a.spot=none/\a.block<N then .slice a.block a.off 0 (0+1) 0 else .slice N a.off 0 1 0:=by
  rfl
 rw [this]
 split
 .exact ⟨YE ⟨_,_,_,_,rfl⟩,rfl⟩
 .exact ⟨YE ⟨_,_,_,_,rfl⟩,rfl⟩
section
variable {H:Type} {enc:TypeId × Value->H} {P:Program} {w:World}
theorem rH {t e:TypeId} {z fuel:Nat} {v:Value} {x:DataW H × List MemPlace} (ht:P.underlying t=some (.slice e)) (hz:P.cellsOf e=z) (hz0:0<z) (h:DataW.trod enc P w 0 (λ_=>true) true fuel t [v]=some x) (hnf:w.noneFrozen x.2)
 (hG:∀ (b o n:Nat) (cs:List Value) (y:DataW H × List MemPlace),GB b->cs.length=z->(∀ j cv,cs[j]? = some cv->w.cell? ⟨b,o+j,none⟩=some cv)->DataW.trod enc P w 0 (λ_=>true) true n e cs=some y->False):
 (qJ w.heap.size v).one=true/\((OW (qJ w.heap.size v))\/∃ b o len c row,0<len/\len<=9223372036854775807/\qJ w.heap.size v = .slice b o len c 0/\(dR w).get b = .view row/\b<(dR w).n/\
  ∀ i,i<len->∃ (cs:List Value) (n:Nat) (y:DataW H × List MemPlace),cs.length=z/\(∀ j cv,cs[j]? = some cv->row[o+i*z+j]? = some (qJ w.heap.size cv))/\DataW.trod enc P w 0 (λ_=>true) true n e cs=some y/\w.noneFrozen y.2):=by
 rcases open_slice ht h with ⟨hcs,_⟩|⟨a,len,cap,m,n,D,Pl,hcs,_,hl,hm,hmc,rfl,hx⟩
 .cases hcs
  exact ⟨rfl,YG (YG rfl)⟩
 simp only [List.cons.injEq,and_true]at hcs
 subst hcs
 simp only [if_true]at hmc
 have hmc':=hmc.symm
 subst hmc'
 rw [hz]at hx hnf
 by_cases hc0:cap=0
 .subst hc0
  obtain rfl:len=0:=by omega
  exact ⟨IC.2,YG IC.1⟩
 have hcell:∀ i,i<cap->∀ j,j<z->∃ cs,w.cells? 0 (a.add (i*z)) z=some cs/\∃ cv,cs[j]? = some cv/\w.cell? ⟨a.block,a.off+i*z+j,none⟩=some cv/\a.spot=none:=λi hi j hj=>by
  obtain ⟨cs,h1,h2⟩:=hx i hi
  obtain ⟨_,hlen,hc⟩:=World.cells?_some h1
  have hcj:=hc j hj
  rw [YA (by omega:j<cs.length)]at hcj
  obtain ⟨_,_,hc00⟩:=World.cells?_some (hx 0 (by omega)).choose_spec.1
  have h00:=hc00 0 hz0
  rw [YA (by rw [(World.cells?_some (hx 0 (by omega)).choose_spec.1).2.1];exact hz0)]at h00
  have hsp:=by
   have:=World.cell?_spot h00
   simpa [Addr.add] using this
  refine ⟨cs,h1,_,YA (by omega),?_,hsp⟩
  obtain ⟨ab,ao,asp⟩:=a
  obtain rfl:asp=none:=hsp
  rw [Addr.add_lit,Addr.add_lit]at hcj
  exact hcj
 obtain ⟨ab,ao,asp⟩:=a
 obtain rfl:asp=none:=(hcell 0 (by omega) 0 hz0).choose_spec.2.choose_spec.2.2
 have hfz:=λk hk=>hnf ab (ao+k) (List.mem_append_left _ (Yi.2 ⟨k,QH.2 hk,rfl⟩))
 have hgb:¬ GB ab:=λhb=>by
  obtain ⟨cs,h1,h2⟩:=hx 0 (by omega)
  obtain ⟨_,hlen,hc⟩:=World.cells?_some h1
  refine hG ab ao _ cs _ hb hlen (λj cv hj=>?_) h2
  have hjz:j<z:=by have:=(Yo.1 hj).1;omega
  have hcj:=hc j hjz
  rw [hj,Wp,Addr.add_lit,Addr.add_lit,WL]at hcj
  exact hcj
 have hcz:0<cap*z:=Nat.mul_pos (by omega) hz0
 obtain ⟨_,_,cv0,_,hc0',_⟩:=hcell 0 (by omega) 0 hz0
 simp only [Wp,WL]at hc0'
 obtain ⟨row,r1,r2,_⟩:=Ag hc0' (by simpa using hfz 0 hcz) hgb
 have hv:=OJ (o:=ao) hl r2
 rw [hv]
 refine ⟨rfl,?_⟩
 by_cases hl0:len=0
 .subst hl0;exact YG (YE ⟨_,_,_,_,rfl⟩)
 refine YE ⟨ab,ao,len,cap+1,row,by omega,by unfold maxLen at hm;omega,rfl,by rw [jY];exact r1,by rw [lB];omega,λi hi=>?_⟩
 obtain ⟨cs,h1,h2⟩:=hx i (by omega)
 obtain ⟨_,hlen,hc⟩:=World.cells?_some h1
 refine ⟨cs,n,_,hlen,λj cv hj=>?_,h2,λb off hb=>hnf b off (List.mem_append_right _ (List.mem_flatMap.2 ⟨i,QH.2 (by omega),hb⟩))⟩
 have hjz:j<z:=by have:=(Yo.1 hj).1;omega
 have hcj:=hc j hjz
 rw [hj]at hcj
 rw [Addr.add_lit,Addr.add_lit]at hcj
 have hk:i*z+j<cap*z:=by
  have:(i+1)*z<=cap*z:=QU _ (by omega)
  rw [Wi]at this
  omega
 obtain ⟨row',r1',_,r3'⟩:=Ag hcj (by rw [Nat.add_assoc];exact hfz _ hk) hgb
 rw [r1]at r1'
 cases r1'
 exact r3'
end
end Go.Ev
end
section
namespace Go.Ev
theorem Heap.aO {H:Heap} (hw:H.wf) (x:eK):∃ G,H.new x=G/\af H G/\G.get H.n=x/\G.n=H.n+1:=⟨_,rfl,af.new hw,by rw [Heap.aD hw,if_pos rfl],Heap.aM⟩
theorem Heap.jS {H:Heap} {m:Nat} (hm:H.n=m) (hw:H.wf) (x:eK):∃ G,H.new x=G/\af H G/\G.get m=x/\G.n=m+1:=by subst hm;exact Heap.aO hw x
theorem Heap.aU {H0 H:Heap} {b:Nat} (f:af H0 H) (h0:H0.n<=b) (hb:b<H.n) (x:eK):∃ G,H.put b x=G/\af H0 G/\G.get b=x/\G.n=H.n/\G.wf/\∀ j,j≠b->G.get j=H.get j:=
 ⟨_,rfl,f.put h0 hb,by rw [Heap.aE f.wf hb,if_pos rfl],Heap.aR,by rw [Heap.bF];exact f.wf,λj hj=>by rw [Heap.aE f.wf hb,if_neg hj]⟩
theorem aJ {cp} {t} {fuel d} {H} {k} {args} {f F} {ps} {res} {c} (ht:t F=some (.code ps res c)) (hf:f%2=0) (hF:f/2=F):aj (aN cp t fuel (d+1)) (.func f []) args H k=gj ps args FC λe=>eR c fuel (aN cp t fuel d) e H (mL res k) λn e H=>if n=0 then mL res k e H else no 6:=by
 rw [ax ht hf hF,YR]
def Row (H:Heap) (O:Nat->Prop) (v:V) (sz n:Nat) (row:List V):Prop:=row.length=n*sz/\(∀ x ∈ row,x.one=true)/\((OW v/\n=0)\/∃ b o c s l,v = .slice b o n c s/\isRow (H.get b) l/\b<H.n/\¬ O b/\o+n*sz<=l.length/\(l.drop o).take (n*sz)=row)
section
variable {H G:Heap} {O Q:Nat->Prop} {v:V} {sz n:Nat} {row:List V}
theorem Row.cG (h:Row H O v sz n row) (s:Step H O G Q):Row G Q v sz n row:=by
 obtain ⟨h1,h2,h|⟨b,o,c,z,l,g1,g2,g3,g4,g5⟩⟩:=h
 .exact ⟨h1,h2,YG h⟩
 .exact ⟨h1,h2,YE ⟨b,o,c,z,l,g1,by rw [(s.same b g3 g4).1];exact g2,YD g3 s.n,(s.same b g3 g4).2,g5⟩⟩
theorem Row.fresh (h:Row H O v sz n row) (s:af H G):Row G O v sz n row:=h.cG s.step
theorem Row.Sd {A B:Nat->Prop} (h:Row H O v sz n row) (s:Step H A G B) (h0:∀ b,b<H.n->¬ O b->¬ A b/\¬ Q b):Row G Q v sz n row:=by
 obtain ⟨h1,h2,h|⟨b,o,c,z,l,g1,g2,g3,g4,g5⟩⟩:=h
 .exact ⟨h1,h2,YG h⟩
 .exact ⟨h1,h2,YE ⟨b,o,c,z,l,g1,by rw [(s.same b g3 (h0 b g3 g4).1).1];exact g2,YD g3 s.n,(h0 b g3 g4).2,g5⟩⟩
theorem Row.jX (h:Row H O v sz n row) (h0:∀ b,b<H.n->Q b->O b):Row H Q v sz n row:=by
 obtain ⟨h1,h2,h|⟨b,o,c,z,l,g1,g2,g3,g4,g5⟩⟩:=h
 .exact ⟨h1,h2,YG h⟩
 .exact ⟨h1,h2,YE ⟨b,o,c,z,l,g1,g2,g3,λq=>g4 (h0 b g3 q),g5⟩⟩
theorem Row.one (h:Row H O v sz n row):v.one=true:=by
 obtain ⟨_,_,⟨rfl|⟨_,_,_,_,rfl⟩,_⟩|⟨_,_,_,_,_,rfl,_⟩⟩:=h<;>rfl
theorem Row.sn (h:Row H O v sz n row) {id:Nat} {f:Nat->R}:bG id v (λ_ _ len _ _=>f len) (f 0)=f n:=by
 obtain ⟨_,_,⟨rfl|⟨_,_,_,_,rfl⟩,rfl⟩|⟨_,_,_,_,_,rfl,_⟩⟩:=h<;>rfl
theorem Hv {bl} {l} {o n} (h:isRow bl l) (hn:o+n<=l.length) (h1:∀ x ∈ (l.drop o).take n,x.one=true) {id} {k}:tZ id bl o n k=k ((l.drop o).take n):=by
 rcases h with rfl|rfl
 .rw [iP,fk (by omega),eP (by grind)]
 .rw [AX,fk (by omega),eP (by grind),bT h1]
theorem Row.open (h:Row H O v sz n row) {i:Nat} (hi:i<n):∃ b o c s,v = .slice b o n c s/\b<H.n/\¬ O b/\∀ {G:Heap},G.get b=H.get b->(∀ {id:Nat} {k:List V->R},tZ id (G.get b) (o+i*sz) sz k=k ((row.drop (i*sz)).take sz))/\(∀ {x:V},row[i*sz]? = some x->∀ {id:Nat} {k:V->R},Du id (G.get b) (o+i*sz) k=k x):=by
 obtain ⟨h1,h2,h|⟨b,o,c,z,l,g1,g2,g3,g4,g5,g6⟩⟩:=h
 .omega
 have hle:(i+1)*sz<=n*sz:=QU _ hi
 rw [Wi,YB0]at hle
 refine ⟨b,o,c,z,g1,g3,g4,λhG=>⟨λ{id k}=>?_,λ{x} hx {id k}=>?_⟩⟩
 .have e:(l.drop (o+i*sz)).take sz=(row.drop (i*sz)).take sz:=by
   rw [<- g6,List.drop_take,List.drop_drop,List.take_take]
   congr 1
   omega
  rw [hG,Hv g2 (by omega) (by rw [e];exact λx hx=>h2 x (List.mem_of_mem_drop (Wc hx))),e]
 .have hlt:i*sz<n*sz:=by rw [<- h1];exact (Yo.1 hx).1
  rw [<- g6,Yu,if_pos hlt,Yy]at hx
  rw [hG]
  exact yA g2 hx (h2 x (by rw [<- g6];exact List.mem_of_getElem? (i:=i*sz) (by rw [Yu,if_pos hlt,Yy];exact hx)))
theorem Row.nc (h:Row H O v sz n row) {id:Nat} {f:Nat->List V->R} {G:Heap} (hG:∀ b,b<H.n->¬ O b->G.get b=H.get b):cT id sz G v f=f n row:=by
 obtain ⟨h1,h2,⟨rfl|⟨_,_,_,_,rfl⟩,rfl⟩|⟨b,o,c,z,l,rfl,g2,g3,g4,g5,g6⟩⟩:=h
 .have:row=[]:=YQ (by omega)
  subst this
  rfl
 .have:row=[]:=YQ (by omega)
  subst this
  rw [dV,if_pos rfl]
 .rw [dV]
  by_cases h0:n=0
  .subst h0
   have:row=[]:=YQ (by omega)
   subst this
   rw [if_pos rfl]
  .rw [if_neg h0,CO,hG b g3 g4,Hv g2 g5 (by rw [g6];exact h2),g6]
def Own (H G:Heap) (v:V) (sz n:Nat) (row:List V):Prop:=row.length=n*sz/\(∀ x ∈ row,x.one=true)/\((v = .az/\n=0)\/∃ b c s rest,v = .slice b 0 n c s/\G.get b = .cells (row ++ rest)/\(c=n+1\/(c=0/\s=sz/\rest=[]))/\H.n<=b/\b<G.n)
theorem Own.fresh {H G G':Heap} (h:Own H G v sz n row) (f:af G G'):Own H G' v sz n row:=by
 obtain ⟨h1,h2,h|⟨b,c,s,r,g1,g2,g3,g4,g5⟩⟩:=h
 .exact ⟨h1,h2,YG h⟩
 .exact ⟨h1,h2,YE ⟨b,c,s,r,g1,(f.same b g5).trans g2,g3,g4,YD g5 f.n⟩⟩
theorem Own.step {H G G':Heap} {A B:Nat->Prop} (h:Own H G v sz n row) (s:Step G A G' B) (h0:∀ b,H.n<=b->b<G.n->¬ A b):Own H G' v sz n row:=by
 obtain ⟨h1,h2,h|⟨b,c,z,r,g1,g2,g3,g4,g5⟩⟩:=h
 .exact ⟨h1,h2,YG h⟩
 .exact ⟨h1,h2,YE ⟨b,c,z,r,g1,(s.same b g5 (h0 b g4 g5)).1.trans g2,g3,g4,YD g5 s.n⟩⟩
theorem Own.sub {H H1 G:Heap} (h:Own H1 G v sz n row) (f:H.n<=H1.n):Own H G v sz n row:=by
 obtain ⟨h1,h2,h|⟨b,c,s,r,g1,g2,g3,g4,g5⟩⟩:=h
 .exact ⟨h1,h2,YG h⟩
 .exact ⟨h1,h2,YE ⟨b,c,s,r,g1,g2,g3,Yr f g4,g5⟩⟩
theorem Own.toRow {H G:Heap} (h:Own H G v sz n row) (hO:∀ b,O b->b<H.n):Row G O v sz n row:=by
 obtain ⟨h1,h2,⟨h,h'⟩|⟨b,c,s,r,g1,g2,g3,g4,g5⟩⟩:=h
 .exact ⟨h1,h2,YG ⟨YG h,h'⟩⟩
 .exact ⟨h1,h2,YE ⟨b,0,c,s,row ++ r,g1,YG g2,g5,λhb=>by have:=hO b hb;omega,by simp [h1],by rw [WH,<- h1,Qk];rfl⟩⟩
theorem Own.one {H G:Heap} (h:Own H G v sz n row):v.one=true:=by
 obtain ⟨_,_,⟨rfl,_⟩|⟨_,_,_,_,rfl,_⟩⟩:=h<;>rfl
theorem Own.sn {H G:Heap} (h:Own H G v sz n row) {id:Nat} {f:Nat->R}:bG id v (λ_ _ len _ _=>f len) (f 0)=f n:=by
 obtain ⟨_,_,⟨rfl,rfl⟩|⟨_,_,_,_,rfl,_⟩⟩:=h<;>rfl
theorem Own.nil {H G:Heap}:Own H G .az sz 0 []:=⟨by simp,λv h=>(by cases h),YG ⟨rfl,rfl⟩⟩
theorem Own.off {H G:Heap} {v:V} {sz n j:Nat} {row:List V} (h:Own H G v sz n row) (hj:j<H.n):js v j:=by
 obtain ⟨_,_,⟨rfl,_⟩|⟨b,c,s,r,rfl,_,_,g,_⟩⟩:=h<;>intro b' o n' c' s' e<;>cases e
 omega
theorem Own.grow {H G:Heap} {w x:V} {m:Nat} {new:List V} (hw:G.wf) (hHG:H.n<=G.n) (h:Own H G v sz n row) (hN:∀ {id:Nat} {f:Nat->List V->R},cT id sz G x f=f m new) (hl:new.length=m*sz) (hone:∀ v ∈ new,v.one=true) (hb:n+m<1000000):
 ∃ v' G',(∀ {id:Nat} {ph:cU} {e:Env} {k:K} {a y:Arg},ay a e=v->ay y e=x->aL (.app false sz a y) id ph e G k=k v' G')/\Own H G' v' sz (n+m) (row ++ new)/\G'.wf/\(∀ j,j<G.n->js v j->G'.get j=G.get j)/\G.n<=G'.n/\(∀ j,j<G.n->js v j->js v' j)/\∀ lo,lo<=G.bz->lo<=H.n->lo<=G'.bz:=by
 by_cases hm:m=0
 .subst hm
  have hr:new=[]:=YQ (by omega)
  subst hr
  refine ⟨v,G,λ{id ph e k a y} ha hx=>?_,by rw [YR];exact h,hw,λj _ _=>rfl,YB _,λj _ h=>h,λ_ h _=>h⟩
  rw [cW,ha,hx,hN]
  obtain ⟨_,_,⟨rfl,_⟩|⟨b,c,s,r,rfl,_⟩⟩:=h
  .rw [eC,if_pos rfl]
  .rw [cw,if_pos rfl]
 have hne:∀ j,j<G.n->∀ c s l,js (.slice G.n 0 l c s) j:=λj hj c s l b o n c' s' he=>by cases he;omega
 have hnl:∀ lo,lo<=G.bz->lo<=H.n->∀ (y:eK),lo<=(G.new y).bz:=λlo h1 _ y=>by rw [Heap.nQ];exact h1
 obtain ⟨h1,h2,⟨rfl,rfl⟩|⟨b,c,s,rest,rfl,g2,g3,g5,g6⟩⟩:=h
 .have hr:row=[]:=YQ (by omega)
  subst hr
  refine ⟨.slice G.n 0 m 0 sz,G.new (.cells new),λ{id ph e k a y} ha hx=>?_,⟨by simp [hl],by simpa using hone,YE ⟨G.n,0,sz,[],by rw [WJ],?_,YE ⟨rfl,rfl,rfl⟩,hHG,by rw [Heap.aM];omega⟩⟩,by rw [Heap.aX];exact hw,λj hj _=>?_,by rw [Heap.aM];omega,λj hj _=>hne j hj _ _ _,λlo a b=>hnl lo a b _⟩
  .rw [cW,ha,hx,hN,eC,if_neg hm,bT hone,if_pos (by omega),cE hw]
  .rw [Heap.aD hw,if_pos rfl,YR];rfl
  .rw [Heap.aD hw,if_neg (by omega)]
 .have hlr:∀ {id:Nat} {g:List V->R},ec id G b 0 (n*sz) g=g row:=λ{id g}=>by
   rw [pE,g2,fR,fk (Yf _),eP (by simp [h1])]
   rw [WH,<- h1,Qk rfl]
  have hlen:(row ++ new).length=(n+m)*sz:=by rw [YC,h1,hl,Wi]
  have hon:∀ v ∈ row ++ new,v.one=true:=λv hv=>(Yn.1 hv).elim (h2 v) (hone v)
  rcases g3 with rfl|⟨rfl,rfl,rfl⟩
  .refine ⟨.slice G.n 0 (n+m) 0 sz,G.new (.cells (row ++ new)),λ{id ph e k a y} ha hx=>?_,⟨hlen,hon,YE ⟨G.n,0,sz,[],rfl,?_,YE ⟨rfl,rfl,rfl⟩,hHG,by rw [Heap.aM];omega⟩⟩,by rw [Heap.aX];exact hw,λj hj _=>?_,by rw [Heap.aM];omega,λj hj _=>hne j hj _ _ _,λlo a b=>hnl lo a b _⟩
   .rw [cW,ha,hx,hN,cw,if_neg hm,iE (by omega),bT hone,if_pos (by omega),hlr,bT h2,cE hw]
   .rw [Heap.aD hw,if_pos rfl,YR]
   .rw [Heap.aD hw,if_neg (by omega)]
  .rw [YR]at g2
   have hw2:(G.put b .dead).wf:=by rw [Heap.bF];exact hw
   refine ⟨.slice G.n 0 (n+m) 0 s,(G.put b .dead).new (.cells (row ++ new)),λ{id ph e k a y} ha hx=>?_,⟨hlen,hon,YE ⟨G.n,0,s,[],rfl,?_,YE ⟨rfl,rfl,rfl⟩,hHG,by rw [Heap.aM,Heap.aR];omega⟩⟩,by rw [Heap.aX];exact hw2,λj hj ho=>?_,by rw [Heap.aM,Heap.aR];omega,λj hj _=>hne j hj _ _ _,λlo a b'=>?_⟩
   .rw [cW,ha,hx,hN,cw,if_neg hm,mb,bT hone,if_pos (by omega),g2,fR,if_pos h1,fm hw g6,cE hw2,Heap.aR]
   .rw [Heap.aD hw2,if_pos (by rw [Heap.aR]),YR]
   .rw [Heap.aD hw2,if_neg (by rw [Heap.aR];omega),Heap.aE hw g6,if_neg (ho _ _ _ _ _ rfl)]
   .rw [Heap.nQ];exact Heap.eY a (by omega)
theorem Own.app {H G:Heap} {w x:V} {m:Nat} {new:List V} (f:af H G) (h:Own H G v sz n row) (hN:∀ {id:Nat} {f:Nat->List V->R},cT id sz G x f=f m new) (hl:new.length=m*sz) (hone:∀ v ∈ new,v.one=true) (hb:n+m<1000000):
 ∃ v' G',(∀ {id:Nat} {ph:cU} {e:Env} {k:K} {a y:Arg},ay a e=v->ay y e=x->aL (.app false sz a y) id ph e G k=k v' G')/\Own H G' v' sz (n+m) (row ++ new)/\af H G'/\(∀ j,j<G.n->js v j->G'.get j=G.get j)/\G.n<=G'.n/\∀ j,j<G.n->js v j->js v' j:=by
 obtain ⟨v',G',z,o,w',k',n',f',lo'⟩:=Own.grow (w:=w) f.wf f.n h hN hl hone hb
 exact ⟨v',G',z,o,⟨w',Yr f.n n',λb hb=>(k' b (YD hb f.n) (h.off hb)).trans (f.same b hb),λlo h1 h2=>lo' lo (f.lo lo h1 h2) h2⟩,k',n',f'⟩
end
theorem Own.mK {H G:Heap} {v:V} {sz n j:Nat} {row:List V} {x:eK} (h:Own H G v sz n row) (hw:G.wf) (hj:j<G.n) (ho:js v j):Own H (G.put j x) v sz n row:=by
 obtain ⟨h1,h2,h|⟨b,c,s,r,rfl,g2,g3,g4,g5⟩⟩:=h
 .exact ⟨h1,h2,YG h⟩
 .exact ⟨h1,h2,YE ⟨b,c,s,r,rfl,by rw [Heap.aE hw hj,if_neg (λe=>ho _ _ _ _ _ rfl e.symm)];exact g2,g3,g4,by rw [Heap.aR];exact g5⟩⟩
theorem Own.put {H G:Heap} {v:V} {sz n:Nat} {row:List V} (h:Own H G v sz n row) (hw:G.wf) (hn:row≠[]):∃ b c s l,v = .slice b 0 n c s/\G.get b = .cells l/\H.n<=b/\b<G.n/\row.length<=l.length/\∀ (i:Nat) (x:V),i<row.length->x.one=true->(G.put b (.cells (l.set i x))).n=G.n/\Own H (G.put b (.cells (l.set i x))) v sz n (row.set i x)/\∀ j,j≠b->(G.put b (.cells (l.set i x))).get j=G.get j:=by
 obtain ⟨h1,h2,⟨_,rfl⟩|⟨b,c,s,rest,g1,g2,g3,g4,g5⟩⟩:=h
 .exact absurd (YQ (by omega)) hn
 refine ⟨b,c,s,row ++ rest,g1,g2,g4,g5,by simp,λi x hi hx=>?_⟩
 obtain ⟨G1,hG1,-,p1,p2,p3,p4⟩:=Heap.aU (af.refl hw |> λf=>(⟨f.wf,Yf _,λj hj=>absurd hj (Wm _),λlo _ h=>by rw [show lo=0 from Nat.le_zero.1 h];exact Yf _⟩:af (.mk 0 0 .e) G)) (Yf _) g5 (.cells ((row ++ rest).set i x))
 rw [hG1]
 refine ⟨p2,⟨by simp [h1],λy hy=>?_,YE ⟨b,c,s,rest,g1,?_,g3,g4,by omega⟩⟩,p4⟩
 .rcases List.mem_or_eq_of_mem_set hy with hy|rfl
  .exact h2 y hy
  .exact hx
 .rw [p1,List.set_append_left _ _ hi]
theorem iN {G} {X sz c s} {new} (hX:G.get X = .cells new) (hl:new.length=sz) {id} {f}:cT id sz G (.slice X 0 1 c s) f=f 1 new:=by
 rw [dV,if_neg (by omega),CO,hX,iP,fk (Yf _),eP (by simp_all),WH,YB0,YV (by omega)]
def ee (H:Heap) (O:Nat->Prop) (v:V) (l:List Nat):Prop:=Row H O v 1 l.length (l.map (V.int 3))
theorem ee.open {H:Heap} {O:Nat->Prop} {v:V} {l:List Nat} (h:ee H O v l) {i:Nat} (hi:i<l.length):∃ b o c s,v = .slice b o l.length c s/\b<H.n/\¬ O b/\∀ {G:Heap},G.get b=H.get b->∀ {id:Nat} {k:V->R},Du id (G.get b) (o+i) k=k (.int 3 l[i]):=by
 obtain ⟨b,o,c,z,h1,h2,h3,h4⟩:=Row.open h hi
 refine ⟨b,o,c,z,h1,h2,h3,λ{G} hG {id k}=>?_⟩
 have:=(h4 hG).2 (x:=.int 3 l[i]) (by simp [hi]) (id:=id) (k:=k)
 rw [WS]at this
 exact this
theorem AZ {x}:∀ {n},ig n [x]=YZ n x
 | 0=>rfl
 | n+1=>by show [x] ++ ig n [x]=_;rw [AZ];rfl
section
variable {id:Nat} {ph:cU} {e:Env} {H:Heap} {k:K}
theorem Kr {z} {l c}:aL (.mkSlice false z l c) id ph e H k=cC id (ay l e) λkl l=>cC id (ay c e) λkc c=>if 3<=kl then (if 3<=kc then (if l<=c then (if c<=16777216 then bu id (ig c z) (cB H (.cells (ig c z)) λb H=>k (.slice b 0 l (c+1) 0) H) else no 0) else no 0) else no 0) else no 0:=by
 show aG l e (λl=>cC id l λkl l=>aG c e λc=>cC id c λkc c=>aF (YX 3 kl) (aF (YX 3 kc) (aF (YX l c) (aF (YX c 16777216)
  (W7 z c λr=>bu id r (cB H (.cells r) λb H=>au (WN c) λc1=>k (.slice b 0 l c1 0) H)) (no 0)) (no 0)) (no 0)) (no 0))=_
 simp only [aq,bB,lU,aw,CU]
theorem W8 {s s'}:mL [.EC s,.EC s'] k e H=dQ 0 (ae s e) λb o=>nV 0 H b o λv=>dQ 0 (ae s' e) λb1 o1=>nV 0 H b1 o1 λu=>k (.cH [v,u]) H:=by
 show ik s e (λv=>dQ 0 v λb o=>nV 0 H b o λv=>ik s' e λu=>dQ 0 u λb1 o1=>nV 0 H b1 o1 λu=>k (.cH [v,u]) H)=_
 simp only [dY]
theorem Cv {x} {n kl m} {a} (hm:H.n=m) (hw:H.wf) (hx:x.one=true) (hn:n<=16777216) (hk:3<=kl):∃ G,af H G/\Own H G (.slice m 0 n (n+1) 0) 1 n (YZ n x)/\G.get m = .cells (YZ n x)/\G.n=m+1/\∀ {id} {ph} {e} {k},ay a e = .int kl n->aL (.mkSlice false [x] a a) id ph e H k=k (.slice m 0 n (n+1) 0) G:=by
 subst hm
 obtain ⟨G,hG,f,g,n1⟩:=Heap.aO hw (.cells (YZ n x))
 have ho:∀ y ∈ YZ n x,y.one=true:=λy hy=>by simp_all
 refine ⟨G,f,⟨by simp,ho,YE ⟨H.n,n+1,0,[],rfl,by simp_all,YG rfl,YB _,by omega⟩⟩,g,n1,λ{id ph e k} ha=>?_⟩
 rw [Kr,ha,yR,yR,if_pos hk,if_pos hk,if_pos (YB _),if_pos hn,AZ,bT ho,cE hw,hG]
end
theorem bA {c} {fuel} {ph:Nat->cU} {σ:Type} {I:Nat->σ->Heap->Prop} {S:Nat->σ->Env->Prop} {n}
 (step:∀ (i) (s) (G),i<n->I i s G->∃ s' G',I (i+1) s' G'/\∀ (d) (kx) (r) (e) (x),S i s e->(∀ e',S (i+1) s' e'->jQ c fuel (ph d) kx r e' G'=x)->jQ c fuel (ph d) kx (r+1) e G=x):
 ∀ (m i) (s) (G),i+m=n->I i s G->∃ s' G',I n s' G'/\∀ (d) (kx) (r) (e) (x),m<r->S i s e->(∀ r e',S n s' e'->jQ c fuel (ph d) kx (r+1) e' G'=x)->jQ c fuel (ph d) kx r e G=x
 | 0,i,s,G,hi,h=>⟨s,G,by simp_all,λd kx r e x hr hs hk=>by
  obtain ⟨r,rfl⟩:∃ q,r=q+1:=⟨r-1,by omega⟩
  simp_all⟩
 | m+1,i,s,G,hi,h=>by
  obtain ⟨s1,G1,h1,z1⟩:=step i s G (by omega) h
  obtain ⟨s',G',h',z'⟩:=bA step m (i+1) s1 G1 (by omega) h1
  refine ⟨s',G',h',λd kx r e x hr hs hk=>?_⟩
  obtain ⟨r,rfl⟩:∃ q,r=q+1:=⟨r-1,by omega⟩
  exact z1 d kx r e x hs λe' hs'=>z' d kx r e' x (by omega) hs' hk
theorem nw {c} {fuel} {ph:Nat->cU} {σ τ:Type} {I:Nat->σ->Heap->Prop} {S:Nat->σ->Env->Prop} {J:τ->Heap->Prop} {Q:τ->Env->Prop} {j:τ->Nat} {n}
 (step:∀ (i) (s) (G),i<n->I i s G->
  (∃ s' G',I (i+1) s' G'/\∀ (d) (kx) (r) (e) (x),S i s e->(∀ e',S (i+1) s' e'->jQ c fuel (ph d) kx r e' G'=x)->jQ c fuel (ph d) kx (r+1) e G=x)\/
  (∃ q G',J q G'/\∀ (d) (kx) (r) (e) (x),S i s e->(∀ e',Q q e'->kx (j q) e' G'=x)->jQ c fuel (ph d) kx (r+1) e G=x)):
 ∀ (m i) (s) (G),i+m=n->I i s G->
  (∃ s' G',I n s' G'/\∀ (d) (kx) (r) (e) (x),m<r->S i s e->(∀ r e',S n s' e'->jQ c fuel (ph d) kx (r+1) e' G'=x)->jQ c fuel (ph d) kx r e G=x)\/
  (∃ q G',J q G'/\∀ (d) (kx) (r) (e) (x),m<r->S i s e->(∀ e',Q q e'->kx (j q) e' G'=x)->jQ c fuel (ph d) kx r e G=x)
 | 0,i,s,G,hi,h=>YG ⟨s,G,by simp_all,λd kx r e x hr hs hk=>by
  obtain ⟨r,rfl⟩:∃ q,r=q+1:=⟨r-1,by omega⟩
  simp_all⟩
 | m+1,i,s,G,hi,h=>by
  rcases step i s G (by omega) h with ⟨s1,G1,h1,z1⟩|⟨q,G1,h1,z1⟩
  .rcases nw step m (i+1) s1 G1 (by omega) h1 with ⟨s',G',h',z'⟩|⟨q,G',h',z'⟩
   .refine YG ⟨s',G',h',λd kx r e x hr hs hk=>?_⟩
    obtain ⟨r,rfl⟩:∃ q,r=q+1:=⟨r-1,by omega⟩
    exact z1 d kx r e x hs λe' hs'=>z' d kx r e' x (by omega) hs' hk
   .refine YE ⟨q,G',h',λd kx r e x hr hs hk=>?_⟩
    obtain ⟨r,rfl⟩:∃ q,r=q+1:=⟨r-1,by omega⟩
    exact z1 d kx r e x hs λe' hs'=>z' d kx r e' x (by omega) hs' hk
  .refine YE ⟨q,G1,h1,λd kx r e x hr hs hk=>?_⟩
   obtain ⟨r,rfl⟩:∃ q,r=q+1:=⟨r-1,by omega⟩
   simp_all
end Go.Ev
end
section
namespace Go.Ev
section
variable {cp:RC->ah} {t:Nat->Option cP} {fuel:Nat} {H:Heap} {O:Nat->Prop}
theorem tG {F sz n} {v} {row}
 (ht:t F=some (.code [s000] [.tmp s002] (.seq (.sO [oP tL (.kN (.c .az))]) (.seq (.seq (.sO [oP sj (.kN fF),oP gZ (.eqv 2 false iC (.c .az))]) (.cond eF (.seq (.sO [oP tL (.kN (.c .az))]) .ret) .skip)) (.seq (.sO [oP jg (.iF false 0 [] []),oP lP (.kN fF),oP oT (.app false sz l4 jb),oP tL (.kN gu)]) .ret)))))
 (hw:H.wf) (h:Row H O v sz n row) (hn:n<1000000):
 ∃ H' v',(∀ (d) (k),aj (aN cp t fuel (d+1)) (.func (2*F) []) [v] H k=k v' H')/\af H H'/\Own H H' v' sz n row:=by
 have hF:2*F%2=0:=by omega
 have hF2:2*F/2=F:=by omega
 by_cases hv:v = .az
 .subst hv
  obtain ⟨h1,h2,⟨_,rfl⟩|⟨b,o,c,s,l,e,_⟩⟩:=h
  .have hr:row=[]:=YQ (by omega)
   subst hr
   refine ⟨H,.az,λd k=>?_,af.refl hw,Own.nil⟩
   rw [ax ht hF hF2]
   rfl
  simp_all
 .obtain ⟨G,hG,f,g,n1⟩:=Heap.aO hw (.cells [])
  obtain ⟨v',G',z,ho,f',_⟩:=Own.app (w:=v) f (row:=[]) ⟨by simp,λx hx=>(by cases hx),YE ⟨H.n,1,0,[],rfl,g,YG rfl,YB _,by omega⟩⟩ (λ{id f'}=>h.nc λb hb _=>f.same b hb) h.1 h.2.1 (by omega)
  rw [WJ,YK]at ho
  refine ⟨G',v',λd k=>?_,f',ho⟩
  obtain ⟨b,o,l,c,s,rfl⟩:∃ b o l c s,v = .slice b o l c s:=by
   obtain ⟨_,_,⟨rfl|⟨_,_,_,_,rfl⟩,_⟩|⟨_,_,_,_,_,rfl,_⟩⟩:=h
   .simp_all
   .simp
   simp
  rw [ax ht hF hF2]
  simp only [go_sem,hw,hG,↓z]
theorem gH (T:aA t) {n} {v} {row} (hw:H.wf) (h:Row H O v 1 n row) (hn:n<1000000):
 ∃ H' v',(∀ (d) (k),aj (aN cp t fuel (d+1)) (.func 286 []) [v] H k=k v' H')/\af H H'/\Own H H' v' 1 n row:=tG T.adX hw h hn
def tT (n:Nat):List Nat->List Nat->Bool->Option Bool
 | [],_,tw=>some tw
 | p :: l,seen,tw=>if p=0 then tT n l seen tw else if p<193\/n<=p then none else tT n l (if p ∈ seen then seen else seen ++ [p]) (tw || decide (p ∈ seen))
def pz (l:List Nat) (blocks n:Nat):Nat:=if blocks<1\/8<blocks\/l.length≠blocks then 2 else match tT n l [] false with
 | none=>2
 | some tw=>if tw=true then 16 else 0
theorem T9:∀ (l) (a),a ∈ l->Dw (my l) a (.int 3 1)=my l
 | [],a,h=>by cases h
 | b :: l,a,h=>by
  show (if b=a then (b,.int 3 1):: my l else (b,.int 3 1):: Dw (my l) a (.int 3 1))=(b,.int 3 1):: my l
  by_cases hb:b=a
  .simp_all
  .rw [if_neg hb,T9 l a ((Yb.1 h).resolve_left λe=>hb e.symm)]
theorem Dh (l) (a):Dw (my l) a (.int 3 1)=my (if a ∈ l then l else l ++ [a]):=by
 by_cases h:a ∈ l
 .rw [if_pos h,T9 l a h]
 .rw [if_neg h,yP l a h]
theorem lR (T:aA t) {v:V} {l:List Nat} {blocks n:Nat} (hw:H.wf) (h:ee H O v l) (hl:l.length<1000000) (hp:∀ p ∈ l,nn p) (hb:nn blocks) (hn:nn n) (hfu:l.length<fuel):
 ∃ H',(∀ (d:Nat) (k:K),aj (aN cp t fuel (d+1)) (.func 258 []) [v,.int 3 blocks,.int 3 n] H k=k (.int 3 (pz l blocks n)) H')/\af H H':=by
 have hs:=λ{id} {f}=>h.sn (id:=id) (f:=f)
 have hi:=λ{id} {k}=>aI h.one (id:=id) (k:=k)
 have e1:l.length<9223372036854775808:=by omega
 have nl:nn l.length:=by unfold nn;omega
 by_cases hbad:blocks<1\/8<blocks\/l.length≠blocks
 .refine ⟨H,λd k=>?_,af.refl hw⟩
  rw [pz,if_pos hbad,aJ T.Vs rfl rfl]
  by_cases h1:blocks<1
  .simp only [go_sem,ZE,MX,hb,h1]
  .by_cases h2:8<blocks
   .simp only [go_sem,ZE,MX,hb,h1,h2]
   .have h3:l.length≠blocks:=by omega
    simp only [go_sem,ZE,MX,hb,h1,h2,↓hs,e1,h3]
 have h1:¬ blocks<1:=by omega
 have h2:¬ 8<blocks:=by omega
 have h3:l.length=blocks:=by omega
 subst h3
 obtain ⟨G,hG,f,g,n1⟩:=Heap.aO hw (.map [])
 rcases nw (c:=mY) (σ:=List Nat × Bool) (j:=λ_=>0)
  (I:=λi s G'=>af H G'/\G'.get H.n = .map (eX (my s.1))/\H.n<G'.n/\tT n l [] false=tT n (l.drop i) s.1 s.2)
  (S:=λi s e=>ae s002 e = .int 3 n/\ae s007 e = .map H.n/\ae s010 e = .bool s.2/\ae s030 e=v/\ae s031 e = .int 3 l.length/\ae s032 e = .int 3 i)
  (J:=λ_ G'=>af H G'/\tT n l [] false=none) (Q:=λ_ e=>ae s006 e = .int 3 2) (λi s G1 hil ⟨f1,g1,n1,r1⟩=>by
   obtain ⟨b,o,c,z,rfl,hbn,hbO,hrd⟩:=h.open hil
   have hrd:=λ{id} {k}=>@hrd G1 (f1.same b hbn) id k
   have hpp:=hp l[i] (YW hil)
   rw [Ws hil]at r1
   generalize l[i]=p at hrd hpp r1
   have e3:nn i:=by unfold nn;omega
   have e4:i<9223372036854775808:=by omega
   have e5:(i+1)%18446744073709551616=i+1:=by omega
   have w1:=f1.wf
   have hlk:=xY s.1 p
   simp only [tT]at r1
   by_cases p0:p=0
   .rw [if_pos p0]at r1
    refine YG ⟨s,G1,⟨f1,g1,n1,r1⟩,λd kx r e x ⟨q2,q7,q10,q30,q31,q32⟩ hk=>?_⟩
    rw [ak]
    simp only [go_sem,mY,q30,q31,q32,hil,nl,e3,e4,e5,↓hrd,p0]
    exact hk _ (by simp only [go_sem,q2,q7,q10,q30,q31])
   rw [if_neg p0]at r1
   by_cases p1:p<193
   .rw [if_pos (YG p1)]at r1
    refine YE ⟨(),G1,⟨f1,r1⟩,λd kx r e x ⟨q2,q7,q10,q30,q31,q32⟩ hk=>?_⟩
    rw [ak]
    simp only [go_sem,ZE,mY,q30,q31,q32,hil,nl,e3,e4,↓hrd,p0,p1,hpp]
    exact hk _ rfl
   by_cases p2:n<=p
   .rw [if_pos (YE p2)]at r1
    refine YE ⟨(),G1,⟨f1,r1⟩,λd kx r e x ⟨q2,q7,q10,q30,q31,q32⟩ hk=>?_⟩
    rw [ak]
    simp only [go_sem,ZE,mY,q2,q30,q31,q32,hil,nl,e3,e4,↓hrd,p0,p1,p2,hpp,hn]
    exact hk _ rfl
   rw [if_neg (by omega)]at r1
   obtain ⟨G2,hG2,f2,g2,n2,w2,o2⟩:=Heap.aU f1 (YB _) n1 (.map (eX (my (if p ∈ s.1 then s.1 else s.1 ++ [p]))))
   refine YG ⟨(if p ∈ s.1 then s.1 else s.1 ++ [p],s.2 || decide (p ∈ s.1)),G2,⟨f2,g2,by omega,r1⟩,λd kx r e x ⟨q2,q7,q10,q30,q31,q32⟩ hk=>?_⟩
   have e6:∀ (q) [Decidable q],(if q then V.bool true else V.bool false) = .bool (decide q):=λq _=>by by_cases hq:q<;>simp [hq]
   rw [ak]
   cases htw:s.2 with
   | true=>
    rw [htw]at q10 hk
    simp only [go_sem,ZE,mY,q2,q7,q10,q30,q31,q32,hil,nl,e3,e4,e5,↓hrd,p0,p1,p2,hpp,hn,g1,w1,n1,Dh,hG2]
    exact hk _ (by simp only [go_sem,q2,q7,q30,q31,Bool.true_or])
   | false=>
    rw [htw]at q10 hk
    by_cases hm:p ∈ s.1
    .rw [if_pos hm]at hlk
     simp only [go_sem,ZE,mY,q2,q7,q10,q30,q31,q32,hil,nl,e3,e4,e5,↓hrd,p0,p1,p2,hpp,hn,g1,w1,n1,hlk,Dh,hG2]
     exact hk _ (by simp only [go_sem,q2,q7,q30,q31,hm,decide_true,Bool.or_true])
    .rw [if_neg hm]at hlk
     simp only [go_sem,ZE,mY,q2,q7,q10,q30,q31,q32,hil,nl,e3,e4,e5,↓hrd,p0,p1,p2,hpp,hn,g1,w1,n1,hlk,Dh,hG2]
     exact hk _ (by simp only [go_sem,q2,q7,q30,q31,hm,decide_false,Bool.or_false])) l.length 0 ([],false) G (by omega) ⟨f,g,by omega,rfl⟩ with ⟨⟨sn,tw⟩,G',⟨f',g',n',r'⟩,z⟩|⟨_,G',⟨f',r'⟩,z⟩
 .rw [Qq]at r'
  refine ⟨G',λd k=>?_,f'⟩
  rw [pz,if_neg hbad,r',aJ T.Vs rfl rfl]
  simp only [go_sem,ZE,MX,hb,h1,h2,↓hs,e1,hw,hG]
  refine z d _ fuel _ _ (by omega) ⟨by simp only [go_sem],by simp only [go_sem],by simp only [go_sem],by simp only [go_sem],by simp only [go_sem],by simp only [go_sem]⟩ λr e' ⟨q2,q7,q10,q30,q31,q32⟩=>?_
  have e7:¬ l.length<l.length:=by omega
  rw [ak]
  cases tw<;>simp only [go_sem,mY,q10,q31,q32,nl,e7,tT]
 .refine ⟨G',λd k=>?_,f'⟩
  rw [pz,if_neg hbad,r',aJ T.Vs rfl rfl]
  simp only [go_sem,ZE,MX,hb,h1,h2,↓hs,e1,hw,hG]
  refine z d _ fuel _ _ (by omega) ⟨by simp only [go_sem],by simp only [go_sem],by simp only [go_sem],by simp only [go_sem],by simp only [go_sem],by simp only [go_sem]⟩ λe' q=>?_
  simp only [go_sem,q]
end
end Go.Ev
end
section
namespace Go.Ev
abbrev Gd:=Nat × Nat
def ld (g:Gd):Prop:=g.1<18446744073709551616/\g.2<18446744073709551616
def jc (a b:Nat):Nat:=if a<b then 18446744073709551615 else if b<a then 1 else 0
def SX (a b:Gd):Nat:=if jc a.1 b.1=0 then jc a.2 b.2 else jc a.1 b.1
def JW (a b:Gd):Prop:=b.1<a.1\/a.1=b.1/\b.2<a.2
instance (a b:Gd):Decidable (JW a b):=inferInstanceAs (Decidable (_\/_))
theorem BQ (a b):jc a b=18446744073709551615/\a<b\/jc a b=1/\b<a\/jc a b=0/\a=b:=by
 unfold jc
 grind
theorem vT (a b):(dA (.le 9223372036854775808 18446744073709551616) (SX a b) 0=true) = ¬ JW a b:=by
 rw [ED]
 apply propext
 unfold SX JW
 rcases BQ a.1 b.1 with ⟨h,h'⟩|⟨h,h'⟩|⟨h,h'⟩
 .grind
 .simp_all
 .rw [h,if_pos rfl]
  rcases BQ a.2 b.2 with ⟨g,g'⟩|⟨g,g'⟩|⟨g,g'⟩<;>rw [g]<;>constructor<;>intro _<;>omega
section
variable {cp:RC->ah} {t:Nat->Option cP} {fuel:Nat} {H:Heap} {O:Nat->Prop}
theorem mi (T:aA t) {a b} (ha:a<18446744073709551616) (hb:b<18446744073709551616) (d) (k):aj (aN cp t fuel (d+2)) (.func 382 []) [.int 7 a,.int 7 b] H k=k (.int 3 (jc a b)) H:=by
 have z:∀ {x} {k},aj (aN cp t fuel (d+1)) (.func 448 []) [.int 7 x] H k=k (.bool false) H:=λ{x k}=>by
  rw [aJ T.aeB rfl rfl]
  simp only [go_sem,acO]
 have e1:=AL ha hb
 have e2:=nU ha hb
 rw [aJ T.aen rfl rfl]
 rcases BQ a b with ⟨h,h'⟩|⟨h,h'⟩|⟨h,h'⟩
 .rw [h]
  simp only [go_sem,U2,z,e1,h']
 .rw [h]
  have h2:¬ a<b:=by omega
  simp only [go_sem,U2,z,e1,e2,h',h2]
 .rw [h]
  have h2:¬ a<b:=by omega
  have h3:¬ b<a:=by omega
  simp only [go_sem,U2,z,e1,e2,h3,h2]
theorem CA (T:aA t) {b x y c s} (hb:H.get b = .cells [.int 3 x,.int 3 y]) (hfu:10<fuel) (d) (k):aj (aN cp t fuel (d+1)) (.func 380 []) [.slice b 0 2 c s] H k=k (.int 3 (if x=0 then y else x)) H:=by
 obtain ⟨f,rfl⟩:∃ f,fuel=f+3:=⟨fuel-3,by omega⟩
 have e0:nn 0:=by unfold nn;omega
 have e1:nn 1:=by unfold nn;omega
 have e2:nn 2:=by unfold nn;omega
 rw [aJ T.aem rfl rfl]
 simp only [go_sem,ZE,acH]
 rw [ak]
 by_cases hx:x=0
 .simp only [go_sem,ZE,Ji,e0,e2,hb,hx]
  rw [ak]
  by_cases hy:y=0
  .simp only [go_sem,ZE,e1,e2,hb,hy]
   rw [ak]
   simp only [go_sem,ZE,e2]
  .simp only [go_sem,ZE,e1,e2,hb,hy]
 .simp only [go_sem,ZE,Ji,e0,e2,hb,hx]
def aS (g:Gd):List V:=[.int 7 g.1,.int 7 g.2]
theorem yk (T:aA t) {a b} (hw:H.wf) (ha:ld a) (hb:ld b) (hfu:10<fuel):∃ H',(∀ (d) (k),aj (aN cp t fuel (d+3)) (.func 260 []) [.agg (aS a),.agg (aS b)] H k=k (.int 3 (SX a b)) H')/\af H H':=by
 obtain ⟨G1,hG1,f1,p1,n1⟩:=Heap.aO hw (.cells (aS a))
 obtain ⟨G2,hG2,f2,p2,n2⟩:=Heap.jS (by omega) f1.wf (.cells (aS b))
 obtain ⟨G3,hG3,f3,p3,n3⟩:=Heap.jS (by omega) f2.wf (.cells [.int 3 (jc a.1 b.1),.int 3 (jc a.2 b.2)])
 refine ⟨G3,λd k=>?_,f1.trans (f2.trans f3)⟩
 have w1:=f1.wf
 have w2:=f2.wf
 have N2:G2.n=H.n+2:=by omega
 have q1:=(f2.same _ (by omega)).trans p1
 have z1:=λ{H} {d} {k}=>mi (cp:=cp) (fuel:=fuel) (H:=H) T ha.1 hb.1 d k
 have z2:=λ{H} {d} {k}=>mi (cp:=cp) (fuel:=fuel) (H:=H) T ha.2 hb.2 d k
 have z3:=λ{d} {k}=>CA (cp:=cp) (c:=3) (s:=0) T p3 hfu d k
 simp only [aS]at q1 p2 hG1 hG2
 rw [aJ T.adS rfl rfl]
 have u1:=by omega
 simp only [go_sem,aco,aS,hw,hG1,w1,hG2,n1,q1,p2,↓z1,↓z2,w2,hG3,N2,z3]
 rfl
structure Sn where
 g:Gd
 cF:List Nat
 hid:Bool
structure Tk where
 b:Gd
 t:Gd
 next:Nat
 all:Nat
 cF:List Nat
structure MT where
 live:List Nat
 aa:List Sn
 tok:Tk
def Hf (l:List Nat):Prop:=l.length<100/\∀ p ∈ l,nn p
structure rP (m:MT):Prop where
 live:Hf m.live
 num:m.aa.length<1000
 aa:∀ s ∈ m.aa,ld s.g/\Hf s.cF
 tok:ld m.tok.b/\ld m.tok.t/\nn m.tok.next/\nn m.tok.all/\Hf m.tok.cF
def bJ (s:Sn) (x:V):List V:=[.int 7 s.g.1,.int 7 s.g.2,x,.bool s.hid]
def dU:List Sn->List V->List V
 | s :: ss,x :: xs=>bJ s x ++ dU ss xs
 | _,_=>[]
def bq (t:Tk) (x:V):List V:=[.int 7 t.b.1,.int 7 t.b.2,.int 7 t.t.1,.int 7 t.t.2,.int 3 t.next,.int 3 t.all,x]
theorem sA:∀ {ss} {xs} {i} {s} {x},ss[i]? = some s->xs[i]? = some x->((dU ss xs).drop (i*4)).take 4=bJ s x
 | [],_,i,s,x,h,_=>by simp_all
 | _ :: _,[],i,s,x,_,h=>by simp_all
 | a :: ss,b :: xs,0,s,x,h,h'=>by
  simp at h h'
  subst h h'
  rfl
 | a :: ss,b :: xs,i+1,s,x,h,h'=>by
  have:=sA (by simpa using h) (by simpa using h')
  rw [show (i+1)*4=i*4+4 by omega]
  exact this
def fV (H:Heap) (O:Nat->Prop) (v:V) (ss:List Sn):Prop:=∃ xs,Row H O v 4 ss.length (dU ss xs)/\xs.length=ss.length/\∀ (i:Nat) (s:Sn),ss[i]? = some s->∃ x,xs[i]? = some x/\ee H O x s.cF
theorem fV.cG {G:Heap} {Q:Nat->Prop} {v:V} {ss:List Sn} (h:fV H O v ss) (s:Step H O G Q):fV G Q v ss:=
 let ⟨xs,h1,h0,h2⟩:=h
 ⟨xs,h1.cG s,h0,λi s' hs=>let ⟨x,a,b⟩:=h2 i s' hs; ⟨x,a,b.cG s⟩⟩
theorem fV.fresh {G:Heap} {v:V} {ss:List Sn} (h:fV H O v ss) (s:af H G):fV G O v ss:=h.cG s.step
structure ku (H:Heap) (O:Nat->Prop) (m:MT) (vl vs vi:V):Prop where
 live:ee H O vl m.live
 aa:fV H O vs m.aa
 cF:ee H O vi m.tok.cF
theorem ku.cG {G:Heap} {Q:Nat->Prop} {m:MT} {vl vs vi:V} (h:ku H O m vl vs vi) (s:Step H O G Q):ku G Q m vl vs vi:=⟨h.live.cG s,h.aa.cG s,h.cF.cG s⟩
theorem ku.fresh {G:Heap} {m:MT} {vl vs vi:V} (h:ku H O m vl vs vi) (s:af H G):ku G O m vl vs vi:=h.cG s.step
def zN (blocks n:Nat):Gd->List Sn->Nat × Gd
 | last,[]=>(0,last)
 | last,s :: ss=>if JW s.g last then (if pz s.cF blocks n=0 then zN blocks n s.g ss else (pz s.cF blocks n,last)) else (2,last)
def lu (t:Tk) (last:Gd) (blocks n:Nat):Nat:=
 if t.t=(0,0) then (if t.b=(0,0)/\t.next=0/\t.all=0/\t.cF.length=0 then 0 else 2)
 else if t.b=last/\JW t.t last/\1<=t.next/\t.next<t.all/\t.all<=blocks then pz t.cF blocks n else 2
def NO (m:MT) (blocks n:Nat):Nat:=if pz m.live blocks n=0 then (if 20<m.aa.length then 3 else if (zN blocks n (0,0) m.aa).1=0 then lu m.tok (zN blocks n (0,0) m.aa).2 blocks n else (zN blocks n (0,0) m.aa).1) else pz m.live blocks n
theorem Ld (T:aA t) {tk:Tk} {last:Gd} {x:V} {blocks n:Nat} (hw:H.wf) (hx:ee H O x tk.cF) (h1:ld tk.b) (h2:ld tk.t) (h3:nn tk.next) (h4:nn tk.all) (h5:Hf tk.cF) (hl:ld last) (hb:nn blocks) (hn:nn n) (hfu:1000<fuel):
 ∃ H',(∀ (d:Nat) (k:K),aj (aN cp t fuel (d+4)) (.func 262 []) [.agg (bq tk x),.agg (aS last),.int 3 blocks,.int 3 n] H k=k (.int 3 (lu tk last blocks n)) H')/\af H H':=by
 obtain ⟨G1,hG1,f1,p1,n1⟩:=Heap.aO hw (.cells (bq tk x))
 obtain ⟨G2,hG2,f2,p2,n2⟩:=Heap.jS (by omega) f1.wf (.cells (aS last))
 have f12:=f1.trans f2
 have w1:=f1.wf
 have w2:=f2.wf
 have q1:=(f2.same _ (by omega)).trans p1
 have hi:=λ{id} {k}=>aI hx.one (id:=id) (k:=k)
 have hs:=λ{id} {f}=>hx.sn (id:=id) (f:=f)
 have h6:tk.cF.length<9223372036854775808:=by have:=h5.1;omega
 have u1:=by omega
 simp only [bq,aS]at hG1 hG2 q1 p2
 by_cases ht:tk.t=(0,0)
 .have t1:tk.t.1=0:=by rw [ht]
  have t2:tk.t.2=0:=by rw [ht]
  by_cases hg:tk.b=(0,0)/\tk.next=0/\tk.all=0/\tk.cF.length=0
  .have hr:lu tk last blocks n=0:=by unfold lu;rw [if_pos ht,if_pos hg]
   obtain ⟨g1,g2,g3,g4⟩:=hg
   have b1:tk.b.1=0:=by rw [g1]
   have b2:tk.b.2=0:=by rw [g1]
   refine ⟨G2,λd k=>?_,f12⟩
   rw [hr,aJ T.sF rfl rfl]
   simp only [t1,t2,b1,b2,g2,g3]at hG1 q1
   simp only [go_sem,ZE,sg,bq,aS,hw,↓hi,hG1,w1,hG2,n1,q1,↓bh,↓bZ,↓du,↓hs,t1,t2,b1,b2,g2,g3,g4]
  .have hr:lu tk last blocks n=2:=by unfold lu;rw [if_pos ht,if_neg hg]
   by_cases b1:tk.b.1=0
   .by_cases b2:tk.b.2=0
    .have b0:tk.b=(0,0):=YK0 b1 b2
     by_cases b3:tk.next=0
     .by_cases b4:tk.all=0
      .have b5:¬ tk.cF.length=0:=λh=>hg ⟨b0,b3,b4,h⟩
       refine ⟨G2,λd k=>?_,f12⟩
       rw [hr,aJ T.sF rfl rfl]
       simp only [t1,t2,b1,b2,b3,b4]at hG1 q1
       simp only [go_sem,sg,bq,aS,hw,↓hi,hG1,w1,hG2,n1,q1,u1,↓bh,↓bZ,↓du,↓hs,t1,t2,b1,b2,b3,b4,b5]
      .refine ⟨G2,λd k=>?_,f12⟩
       rw [hr,aJ T.sF rfl rfl]
       simp only [t1,t2,b1,b2,b3]at hG1 q1
       simp only [go_sem,sg,bq,aS,hw,↓hi,hG1,w1,hG2,n1,q1,↓bh,↓bZ,↓du,t1,t2,b1,b2,b3,b4]
     .refine ⟨G2,λd k=>?_,f12⟩
      rw [hr,aJ T.sF rfl rfl]
      simp only [t1,t2,b1,b2]at hG1 q1
      simp only [go_sem,sg,bq,aS,hw,↓hi,hG1,w1,hG2,n1,q1,↓bh,↓bZ,↓du,t1,t2,b1,b2,b3]
    .refine ⟨G2,λd k=>?_,f12⟩
     rw [hr,aJ T.sF rfl rfl]
     simp only [t1,t2,b1]at hG1 q1
     simp only [go_sem,sg,bq,aS,hw,↓hi,hG1,w1,hG2,n1,q1,↓bh,↓bZ,↓du,t1,t2,b1,b2]
   .refine ⟨G2,λd k=>?_,f12⟩
    rw [hr,aJ T.sF rfl rfl]
    simp only [t1,t2]at hG1 q1
    simp only [go_sem,sg,bq,aS,hw,↓hi,hG1,w1,hG2,n1,q1,↓bh,↓bZ,↓du,t1,t2,b1]
 have ht0:¬ (tk.t.1=0/\tk.t.2=0):=λh=>ht (YK0 h.1 h.2)
 have ht1:∀ {id} {f},jj id [1,1] [.int 7 tk.t.1,.int 7 tk.t.2] [.int 7 0,.int 7 0] f=f false:=λ{id f}=>by
  by_cases a1:tk.t.1=0
  .have a2:¬ tk.t.2=0:=λh=>ht0 ⟨a1,h⟩
   simp only [bZ,a1,a2,if_true,if_false]
  .simp only [bZ,a1,if_false]
 obtain ⟨H3,z3,f3⟩:=yk (cp:=cp) (fuel:=fuel) T w2 h2 hl (by omega)
 have f13:=f12.trans f3
 have r1:H3.get H.n = .cells (bq tk x):=by rw [f3.same _ (by omega),q1];rfl
 have r2:H3.get (H.n+1) = .cells (aS last):=by rw [f3.same _ (by omega),p2];rfl
 have z3:=λ{d} {k}=>z3 d k
 have e3:=vT tk.t last
 simp only [bq,aS]at r1 r2 z3
 have n1':nn 1:=by unfold nn;omega
 by_cases b1:tk.b.1=last.1
 .by_cases b2:tk.b.2=last.2
  .have b0:=YK0 b1 b2
   by_cases c1:JW tk.t last
   .by_cases c2:tk.next<1
    .have hr:lu tk last blocks n=2:=by unfold lu;rw [if_neg ht,if_neg (by omega)]
     refine ⟨H3,λd k=>?_,f13⟩
     rw [hr,aJ T.sF rfl rfl]
     simp only [b1,b2]at hG1 q1 p2 r1 r2 z3
     simp only [go_sem,sg,b1,b2,bq,aS,hw,↓hi,hG1,w1,hG2,n1,q1,p2,↓bh,↓ht1,↓bZ,↓du,h3,↓z3,r1,e3,n1',c1,c2]
    by_cases c3:tk.all<=tk.next
    .have hr:lu tk last blocks n=2:=by unfold lu;rw [if_neg ht,if_neg (by omega)]
     refine ⟨H3,λd k=>?_,f13⟩
     rw [hr,aJ T.sF rfl rfl]
     simp only [b1,b2]at hG1 q1 p2 r1 r2 z3
     simp only [go_sem,sg,b1,b2,bq,aS,hw,↓hi,hG1,w1,hG2,n1,q1,p2,↓bh,↓ht1,↓bZ,↓du,h3,h4,↓z3,r1,e3,n1',c1,c2,c3]
    by_cases c4:blocks<tk.all
    .have hr:lu tk last blocks n=2:=by unfold lu;rw [if_neg ht,if_neg (by omega)]
     refine ⟨H3,λd k=>?_,f13⟩
     rw [hr,aJ T.sF rfl rfl]
     simp only [b1,b2]at hG1 q1 p2 r1 r2 z3
     simp only [go_sem,sg,b1,b2,bq,aS,hw,↓hi,hG1,w1,hG2,n1,q1,p2,↓bh,↓ht1,↓bZ,↓du,h3,h4,hb,↓z3,r1,e3,n1',c1,c2,c3,c4]
    have hr:lu tk last blocks n=pz tk.cF blocks n:=by unfold lu;rw [if_neg ht,if_pos ⟨b0,c1,by omega,by omega,by omega⟩]
    obtain ⟨H4,z4,f4⟩:=lR (cp:=cp) (fuel:=fuel) T f3.wf ((hx.fresh f12).fresh f3) (by have:=h5.1;omega) h5.2 hb hn (by have:=h5.1;omega)
    have z4:=λ{d} {k}=>z4 (d+2) k
    refine ⟨H4,λd k=>?_,f13.trans f4⟩
    rw [hr,aJ T.sF rfl rfl]
    simp only [b1,b2]at hG1 q1 p2 r1 r2 z3
    simp only [go_sem,sg,b1,b2,bq,aS,hw,↓hi,hG1,w1,hG2,n1,q1,p2,↓bh,↓ht1,↓bZ,↓du,h3,h4,hb,↓z3,r1,e3,n1',c1,c2,c3,c4,↓z4]
   .have hr:lu tk last blocks n=2:=by unfold lu;rw [if_neg ht,if_neg (λh=>c1 h.2.1)]
    refine ⟨H3,λd k=>?_,f13⟩
    rw [hr,aJ T.sF rfl rfl]
    simp only [b1,b2]at hG1 q1 p2 r1 r2 z3
    simp only [go_sem,sg,b1,b2,bq,aS,hw,↓hi,hG1,w1,hG2,n1,q1,p2,↓bh,↓ht1,↓bZ,↓du,↓z3,e3,c1]
  .have hr:lu tk last blocks n=2:=by unfold lu;rw [if_neg ht,if_neg (λh=>b2 (by rw [h.1]))]
   refine ⟨G2,λd k=>?_,f12⟩
   rw [hr,aJ T.sF rfl rfl]
   simp only [b1]at hG1 q1 p2 r1 r2 z3
   simp only [go_sem,sg,b1,bq,aS,hw,↓hi,hG1,w1,hG2,n1,q1,p2,↓bh,↓ht1,↓bZ,b2]
 .have hr:lu tk last blocks n=2:=by unfold lu;rw [if_neg ht,if_neg (λh=>b1 (by rw [h.1]))]
  refine ⟨G2,λd k=>?_,f12⟩
  rw [hr,aJ T.sF rfl rfl]
  simp only [go_sem,sg,bq,aS,hw,↓hi,hG1,w1,hG2,n1,q1,p2,↓bh,↓ht1,↓bZ,b1]
end
end Go.Ev
end
section
namespace Go.Ev
def aW (m:MT) (vl vs vi:V):List V:=vl :: vs :: bq m.tok vi
section
variable {cp:RC->ah} {t:Nat->Option cP} {fuel:Nat} {H:Heap} {O:Nat->Prop}
theorem fV.open {v:V} {ss:List Sn} (h:fV H O v ss) {i:Nat} (hi:i<ss.length):∃ b o c s x,v = .slice b o ss.length c s/\b<H.n/\¬ O b/\ee H O x ss[i].cF/\∀ {G:Heap},G.get b=H.get b->(∀ {id:Nat} {k:List V->R},tZ id (G.get b) (o+i*4) 4 k=k (bJ ss[i] x)):=by
 obtain ⟨xs,h1,-,h2⟩:=h
 obtain ⟨b,o,c,z,g1,g2,g3,g4⟩:=h1.open hi
 obtain ⟨x,hx,hI⟩:=h2 i _ (YA hi)
 refine ⟨b,o,c,z,x,g1,g2,g3,hI,λ{G} hG {id k}=>?_⟩
 rw [(g4 hG).1,sA (YA hi) hx]
theorem GP (T:aA t) {v:V} {ss:List Sn} {blocks n L B:Nat} (hS:fV H O v ss) (hn:ss.length<1000) (hok:∀ s ∈ ss,ld s.g/\Hf s.cF) (hb:nn blocks) (hnn:nn n) (hfu:1000<fuel) {G0:Heap} (f0:af H G0) (hL:H.n<=L) (hLn:L<G0.n) (hL0:G0.get L = .cells [.int 7 0,.int 7 0]):
 ((zN blocks n (0,0) ss).1=0/\∃ G',af H G'/\G'.get L = .cells (aS (zN blocks n (0,0) ss).2)/\L<G'.n/\ld (zN blocks n (0,0) ss).2/\∀ (d:Nat) (kx:Nat->KE) (e:Env) (x:R),ae s001 e = .int 3 blocks->ae s002 e = .int 3 n->ae s003 e = .ptr B 0->ae s010 e = .ptr L 0->ae s031 e=v->ae s032 e = .int 3 ss.length->ae s033 e = .int 3 0->
  (∀ e',ae s001 e' = .int 3 blocks->ae s002 e' = .int 3 n->ae s003 e' = .ptr B 0->ae s010 e' = .ptr L 0->kx 1 e' G'=x)->jQ uw fuel (aN cp t fuel (d+4)) kx fuel e G0=x)\/
 ((zN blocks n (0,0) ss).1≠0/\∃ G',af H G'/\∀ (d:Nat) (kx:Nat->KE) (e:Env) (x:R),ae s001 e = .int 3 blocks->ae s002 e = .int 3 n->ae s003 e = .ptr B 0->ae s010 e = .ptr L 0->ae s031 e=v->ae s032 e = .int 3 ss.length->ae s033 e = .int 3 0->
  (∀ e',ae s006 e' = .int 3 (zN blocks n (0,0) ss).1->kx 0 e' G'=x)->jQ uw fuel (aN cp t fuel (d+4)) kx fuel e G0=x):=by
 have nl:nn ss.length:=by unfold nn;omega
 rcases nw (c:=uw) (ph:=λd=>aN cp t fuel (d+4)) (j:=λ_=>0)
  (I:=λi last G=>af H G/\G.get L = .cells (aS last)/\L<G.n/\ld last/\zN blocks n (0,0) ss=zN blocks n last (ss.drop i))
  (S:=λi last e=>ae s001 e = .int 3 blocks/\ae s002 e = .int 3 n/\ae s003 e = .ptr B 0/\ae s010 e = .ptr L 0/\ae s031 e=v/\ae s032 e = .int 3 ss.length/\ae s033 e = .int 3 i)
  (J:=λq G=>af H G/\q≠0/\(zN blocks n (0,0) ss).1=q) (Q:=λq e=>ae s006 e = .int 3 q) (λi last G hil ⟨f,gL,nL,okl,r⟩=>by
   obtain ⟨b,o,c,z,x,rfl,hbn,hbO,hI,hrd⟩:=hS.open hil
   have hrd:=λ{id} {k}=>@hrd G (f.same b hbn) id k
   obtain ⟨hg,him⟩:=hok _ (YW hil)
   rw [Ws hil]at r
   generalize ss[i]=s at hrd hI hg him r
   have hw:=f.wf
   obtain ⟨G1,hG1,f1,p1,n1⟩:=Heap.aO hw (.cells [.int 7 0,.int 7 0,.az,.bool false])
   obtain ⟨G2,hG2,f2,p2,n2,w2,o2⟩:=Heap.aU f1 (YB _) (by omega) (.cells (bJ s x))
   obtain ⟨G3,z3,f3⟩:=yk (cp:=cp) (fuel:=fuel) T w2 hg okl (by omega)
   have hi:=λ{id} {k}=>aI hI.one (id:=id) (k:=k)
   have q2:=(f2.same _ nL).trans gL
   have e1:=vT s.g last
   have e3:nn i:=by unfold nn;omega
   have e4:i<9223372036854775808:=by omega
   have e5:(i+1)%18446744073709551616=i+1:=by omega
   have e6:G.n<G1.n:=by omega
   have w1:=f1.wf
   have f03:=f.trans (f2.trans f3)
   simp only [bJ]at hrd hG2 p2
   simp only [aS]at q2 z3
   have z3:=λ{d} {k}=>z3 (d+1) k
   by_cases c1:JW s.g last
   .obtain ⟨G4,z4,f4⟩:=lR (cp:=cp) (fuel:=fuel) T f3.wf ((hI.fresh (f.trans f2)).fresh f3) (by have:=him.1;omega) him.2 hb hnn (by have:=him.1;omega)
    have z4:=λ{d} {k}=>z4 (d+3) k
    have r3:=(f3.same _ (by omega)).trans p2
    have r4:=(f4.same _ (by have:=f3.n;omega)).trans r3
    have nL4:L<G4.n:=by have:=f3.n;have:=f4.n;omega
    have r5:G4.get L = .cells [.int 7 last.1,.int 7 last.2]:=by rw [f4.same _ (by have:=f3.n;omega),f3.same _ (by omega)];exact q2
    by_cases c2:pz s.cF blocks n=0
    .obtain ⟨G5,hG5,f5,p5,n5,w5,o5⟩:=Heap.aU (f03.trans f4) hL nL4 (.cells [.int 7 s.g.1,.int 7 s.g.2])
     have w4:=f4.wf
     refine YG ⟨s.g,G5,⟨f5,p5,by omega,hg,?_⟩,λd kx r e y ⟨q1,q2',q3,q10,q31,q32,q33⟩ hk=>?_⟩
     .rw [r,zN,if_pos c1,if_pos c2]
     rw [ak]
     simp only [go_sem,uw,q1,q2',q10,q31,q32,q33,hil,nl,e3,e4,e5,e6,↓hrd,hw,↓hi,hG1,p1,w1,hG2,p2,q2,↓z3,e1,c1,r3,↓z4,c2,r4,nL4,r5,w4,hG5]
     exact hk _ (by simp only [go_sem,q1,q2',q3,q10,q31,q32])
    .refine YE ⟨pz s.cF blocks n,G4,⟨f03.trans f4,c2,by rw [r,zN,if_pos c1,if_neg c2]⟩,λd kx r e y ⟨q1,q2',q3,q10,q31,q32,q33⟩ hk=>?_⟩
     rw [ak]
     simp only [go_sem,uw,q1,q2',q10,q31,q32,q33,hil,nl,e3,e4,e6,↓hrd,hw,↓hi,hG1,p1,w1,hG2,p2,q2,↓z3,e1,c1,r3,↓z4,c2]
     exact hk _ rfl
   .refine YE ⟨2,G3,⟨f03,by omega,by rw [r,zN,if_neg c1]⟩,λd kx r e y ⟨q1,q2',q3,q10,q31,q32,q33⟩ hk=>?_⟩
    rw [ak]
    simp only [go_sem,uw,q10,q31,q32,q33,hil,nl,e3,e4,e6,↓hrd,hw,↓hi,hG1,p1,w1,hG2,p2,q2,↓z3,e1,c1]
    exact hk _ rfl) ss.length 0 (0,0) G0 (by omega) ⟨f0,hL0,hLn,⟨by decide,by decide⟩,rfl⟩ with ⟨last,G',⟨f',gL,nL,okl,r⟩,z⟩|⟨q,G',⟨f',q0,r⟩,z⟩
 .rw [Qq]at r
  rw [r]
  refine YG ⟨rfl,G',f',gL,nL,okl,λd kx e x q1 q2 q3 q10 q31 q32 q33 hk=>z d kx fuel e x (by omega) ⟨q1,q2,q3,q10,q31,q32,q33⟩ λr' e' ⟨q1,q2,q3,q10,q31,q32,q33⟩=>?_⟩
  have e6:¬ ss.length<ss.length:=by omega
  rw [ak]
  simp only [go_sem,uw,q32,q33,nl,e6]
  exact hk _ q1 q2 q3 q10
 .refine YE ⟨by rw [r];exact q0,G',f',λd kx e x q1 q2 q3 q10 q31 q32 q33 hk=>z d kx fuel e x (by omega) ⟨q1,q2,q3,q10,q31,q32,q33⟩ λe' q=>hk e' (by rw [r];exact q)⟩
theorem uK (T:aA t) {m:MT} {vl vs vi:V} {blocks n:Nat} (hw:H.wf) (M:ku H O m vl vs vi) (Y:rP m) (hb:nn blocks) (hn:nn n) (hfu:1000<fuel):
 ∃ H',(∀ (d:Nat) (k:K),aj (aN cp t fuel (d+5)) (.func 94 []) [.agg (aW m vl vs vi),.int 3 blocks,.int 3 n] H k=k (.int 3 (NO m blocks n)) H')/\af H H':=by
 obtain ⟨Ml,Ms,Mi⟩:=M
 obtain ⟨kl,kn,ks,kb,kt,kx,ka,ki⟩:=Y
 obtain ⟨row,hR⟩:∃ row,Row H O vs 4 m.aa.length row:=by obtain ⟨xs,h,_⟩:=Ms;exact ⟨_,h⟩
 have i1:=λ{id} {k}=>aI Ml.one (id:=id) (k:=k)
 have i2:=λ{id} {k}=>aI hR.one (id:=id) (k:=k)
 have i3:=λ{id} {k}=>aI Mi.one (id:=id) (k:=k)
 have hs:=λ{id} {f}=>hR.sn (id:=id) (f:=f)
 obtain ⟨G1,hG1,f1,p1,n1⟩:=Heap.aO hw (.cells (aW m vl vs vi))
 obtain ⟨G2,z2,f2⟩:=lR (cp:=cp) (fuel:=fuel) T f1.wf (Ml.fresh f1) (by have:=kl.1;omega) kl.2 hb hn (by have:=kl.1;omega)
 have z2:=λ{d} {k}=>z2 (d+3) k
 have f12:=f1.trans f2
 have q2:=(f2.same _ (by omega)).trans p1
 have e1:m.aa.length<9223372036854775808:=by omega
 have e2:nn m.aa.length:=by unfold nn;omega
 simp only [aW,bq]at hG1 p1 q2
 by_cases c1:pz m.live blocks n=0
 .by_cases c2:20<m.aa.length
  .refine ⟨G2,λd k=>?_,f12⟩
   rw [NO,if_pos c1,if_pos c2,aJ T.k47 rfl rfl]
   simp only [go_sem,ZE,c47,aW,bq,hw,↓i1,↓i2,↓i3,hG1,p1,↓z2,c1,q2,↓hs,e1,e2,c2]
  obtain ⟨G3,hG3,f3,p3,n3⟩:=Heap.aO f2.wf (.cells [.int 7 0,.int 7 0])
  have q3:=(f3.same _ (by have:=f2.n;omega)).trans q2
  have hH:=f2.n
  have w2:=f2.wf
  rcases GP (B:=H.n) T (Ms.fresh f12) kn ks hb hn hfu f3 (YB _) (by omega) p3 with ⟨c3,G4,f4,g4,n4,okl,z⟩|⟨c3,G4,f4,z⟩
  .obtain ⟨G5,z5,f5⟩:=Ld (cp:=cp) T f4.wf ((Mi.fresh f12).fresh f4) kb kt kx ka ki okl hb hn hfu
   have z5:=λ{d} {k}=>z5 d k
   have q4:=(f4.same _ (by omega)).trans q2
   simp only [bq,aS]at z5
   simp only [aS]at g4
   refine ⟨G5,λd k=>?_,f12.trans (f4.trans f5)⟩
   rw [NO,if_pos c1,if_neg c2,if_pos c3,aJ T.k47 rfl rfl]
   simp only [go_sem,ZE,c47,aW,bq,hw,↓i1,↓i2,↓i3,hG1,p1,↓z2,c1,q2,↓hs,e1,e2,c2,w2,hG3,q3]
   refine z d _ _ _ ?_ ?_ ?_ ?_ ?_ ?_ ?_ λe' h1 h2 h3 h10=>?_
   .rfl
   .rfl
   .rfl
   .rfl
   .rfl
   .rfl
   .rfl
   simp only [go_sem,h1,h2,h3,h10,q4,g4,↓z5]
  .refine ⟨G4,λd k=>?_,f12.trans f4⟩
   rw [NO,if_pos c1,if_neg c2,if_neg c3,aJ T.k47 rfl rfl]
   simp only [go_sem,ZE,c47,aW,bq,hw,↓i1,↓i2,↓i3,hG1,p1,↓z2,c1,q2,↓hs,e1,e2,c2,w2,hG3,q3]
   refine z d _ _ _ ?_ ?_ ?_ ?_ ?_ ?_ ?_ λe' h=>?_
   .rfl
   .rfl
   .rfl
   .rfl
   .rfl
   .rfl
   .rfl
   simp only [go_sem,h]
 .refine ⟨G2,λd k=>?_,f12⟩
  rw [NO,if_neg c1,aJ T.k47 rfl rfl]
  simp only [go_sem,c47,aW,bq,hw,↓i1,↓i2,↓i3,hG1,p1,↓z2,c1]
end
end Go.Ev
end
section
namespace Go.Ev
def bj (l:List Nat):List UInt8:=l.flatMap bE
theorem lF (a b):bj (a ++ b)=bj a ++ bj b:=by simp only [bj,Wj]
theorem cz:∀ l:List Nat,(bj l).length<=l.length*9
 | []=>Yf _
 | n :: l=>by
  have h1:=bI n
  have h2:=cz l
  have:bj (n :: l)=bE n ++ bj l:=rfl
  grind
theorem Le:tv [] = .str 0 0:=rfl
def uT (s:Sn):List Nat:=s.g.1 :: s.g.2 :: (if s.hid=true then 1 else 0):: s.cF
def OC (t:Tk):List Nat:=if t.t=(0,0) then [0] else 1 :: t.b.1 :: t.b.2 :: t.t.1 :: t.t.2 :: t.next :: t.all :: t.cF
def nB (m:MT):List Nat:=m.live.length :: (m.live ++ (m.aa.length :: (m.aa.flatMap uT ++ OC m.tok)))
theorem af.Sr {G:Heap} (h:G.wf):af G G.mark:=⟨by rw [Heap.dm];exact h,YB _,λ_ _=>rfl,λ_ _ h=>h⟩
section
variable {cp:RC->ah} {t:Nat->Option cP} {fuel:Nat} {H:Heap} {O:Nat->Prop}
theorem pG {G} {f v} {c} {args} (h:∃ H',(∀ (d) (k),aj (aN cp t fuel (d+c)) f args G.mark k=k v H')/\af G.mark H'):∃ Gm G',(∀ (d) (k),aj (aN cp t fuel (d+c)) f args G.mark k=k v Gm)/\Gm.dX G.bz=G'/\G.n<=Gm.bz/\af G G':=by
 obtain ⟨Gm,z,f⟩:=h
 exact ⟨Gm,_,z,rfl,f.dX.2,f.dX.1⟩
theorem aeI {G} {f} {c sz n} {args row} (h:∃ H' v,(∀ (d) (k),aj (aN cp t fuel (d+c)) f args G.mark k=k v H')/\af G.mark H'/\Own G.mark H' v sz n row):∃ Gm G' v,(∀ (d) (k),aj (aN cp t fuel (d+c)) f args G.mark k=k v Gm)/\Gm.dX G.bz=G'/\G.n<=Gm.bz/\af G G'/\Own G G' v sz n row:=by
 obtain ⟨Gm,v,z,f,o⟩:=h
 exact ⟨Gm,_,v,z,rfl,f.dX.2,f.dX.1,o⟩
theorem ZN {id half a b} {f} (hb:b≠0) (ha:a<half) (hb2:b<half):kE id (.quo half) a b f=f (a/b):=by
 show aF (Nat.blt a half) (aF (Nat.blt b half) (aF (YM b 0) (no 0) (au (Nat.div a b) f)) (no 0)) (no 0)=_
 rw [bB,if_pos (by simp_all),bB,if_pos (by simp_all),bB,if_neg (by simp_all),aw]
 rfl
theorem qt (T:aA t) {v} {l} {a} (hw:H.wf) (hI:ee H O v l) (hl:l.length<1000) (hn:∀ p ∈ l,p<18446744073709551616) (ha:a.length<1000000) (hfu:1000<fuel):
 ∃ H',(∀ (d) (k),aj (aN cp t fuel (d+3)) (.func 338 []) [tv a,v] H k=k (tv (a ++ bj l)) H')/\af H H':=by
 have nl:nn l.length:=by unfold nn;omega
 have e1:l.length<9223372036854775808:=by omega
 have hs:=λ{id} {f}=>hI.sn (id:=id) (f:=f)
 obtain ⟨_,G',⟨f',-⟩,z⟩:=bA (c:=BI) (ph:=λd=>aN cp t fuel (d+2)) (I:=λi _ G=>af H G/\True)
  (S:=λi _ e=>ae s000 e=tv (a ++ bj (l.take i))/\ae s007 e=v/\ae s010 e = .int 3 l.length/\ae s011 e = .int 3 i) (λi _ G hil ⟨f,_⟩=>by
   obtain ⟨b,o,cc,z,rfl,hbn,hbO,hrd⟩:=hI.open hil
   have hrd:=λ{id} {k}=>@hrd G (f.same b hbn) id k
   have hp:=hn _ (YW hil)
   have ht:bj (l.take (i+1))=bj (l.take i) ++ bE l[i]:=by rw [WO hil,lF];simp [bj]
   have hlen:=cz (l.take i)
   rw [WI]at hlen
   obtain ⟨G1,z1,f1⟩:=eT (cp:=cp) (fuel:=fuel) (a:=a ++ bj (l.take i)) T f.wf (by grind) hp (by omega)
   rw [WA,<- ht]at z1
   have z1:=λ{d} {k}=>z1 d k
   have e3:nn i:=by unfold nn;omega
   have e4:i<9223372036854775808:=by omega
   have e5:(i+1)%18446744073709551616=i+1:=by omega
   have e6:=WE hp
   refine ⟨(),G1,⟨f.trans f1,trivial⟩,λd kx r e x ⟨q0,q7,q10,q11⟩ hk=>?_⟩
   rw [ak]
   simp only [go_sem,BI,q0,q7,q10,q11,hil,nl,e3,e4,e5,e6,↓hrd,↓z1]
   exact hk _ (by simp only [go_sem,q7,q10])) l.length 0 () H (by omega) ⟨af.refl hw,trivial⟩
 refine ⟨G',λd k=>?_,f'⟩
 rw [aJ T.aea rfl rfl]
 simp only [go_sem,acz,↓hs,e1]
 refine z d _ fuel _ _ (by omega) ⟨by simp only [go_sem,List.take_zero,bj,QD],by simp only [go_sem],by simp only [go_sem],by simp only [go_sem]⟩ λr e' ⟨q0,q7,q10,q11⟩=>?_
 have e6:¬ l.length<l.length:=by omega
 rw [WZ]at q0
 rw [ak]
 simp only [go_sem,BI,q0,q10,q11,nl,e6]
theorem nF (T:aA t) {g} {a} (hw:H.wf) (hg:ld g) (ha:a.length<1000000) (hfu:1000<fuel):
 ∃ H',(∀ (d) (k),aj (aN cp t fuel (d+3)) (.func 340 []) [tv a,.agg (aS g)] H k=k (tv (a ++ bj [g.1,g.2])) H')/\af H H':=by
 obtain ⟨G1,hG1,f1,p1,n1⟩:=Heap.aO hw (.cells (aS g))
 have w1:=f1.wf
 obtain ⟨Gm,G2,z2,hu,hlo,f2⟩:=pG (eT (cp:=cp) (fuel:=fuel) (a:=a) T (by rw [Heap.dm];omega) (by omega) hg.1 (by omega))
 have hpl:=bI g.1
 obtain ⟨G3,z3,f3⟩:=eT (cp:=cp) (fuel:=fuel) (a:=a ++ bE g.1) T f2.wf (by grind) hg.2 (by omega)
 have q2:=(f2.same _ (by omega)).trans p1
 have hr:a ++ bE g.1 ++ bE g.2=a ++ bj [g.1,g.2]:=by simp [bj]
 rw [hr]at z3
 simp only [aS]at hG1 p1 q2
 refine ⟨G3,λd k=>?_,f1.trans (f2.trans f3)⟩
 rw [aJ T.aeb rfl rfl]
 simp only [go_sem,acA,aS,hw,hG1,p1,↓z2,hu,hlo,q2,↓z3]
theorem kO (T:aA t) {b c s} {l} {a} (hw:H.wf) (hb:H.get b = .cells (l.map (V.int 3))) (hbn:b<H.n) (hl:l.length<1000) (hn:∀ p ∈ l,p<18446744073709551616) (ha:a.length<1000000) (hfu:1000<fuel):
 ∃ H',(∀ (d) (k),aj (aN cp t fuel (d+3)) (.func 338 []) [tv a,.slice b 0 l.length c s] H k=k (tv (a ++ bj l)) H')/\af H H':=
 qt (O:=λ_=>False) T hw ⟨by simp,by simp [V.one],YE ⟨b,0,c,s,_,rfl,YG hb,hbn,λh=>h,by simp,by exact YV (by simp)⟩⟩ hl hn ha hfu
theorem Ba (T:aA t) {a} (ha:a.length<1000000) (d) (k):aj (aN cp t fuel (d+1)) (.func 344 []) [tv a] H k=k (.int 3 ((a.length+37)/32)) H:=by
 have e1:a.length<9223372036854775808:=by omega
 have e2:(6+a.length)%18446744073709551616=6+a.length:=by omega
 have e3:(6+a.length+32)%18446744073709551616=6+a.length+32:=by omega
 have e4:=by omega
 have e6:=by omega
 have e7:=by omega
 have e8:(6+a.length+32+18446744073709551615)%18446744073709551616=a.length+37:=by omega
 have e9:∀ {id} {f},kE id (.quo 9223372036854775808) (a.length+37) 32 f=f ((a.length+37)/32):=ZN (by simp) (by omega) (by simp)
 rw [aJ T.aed rfl rfl]
 simp only [go_sem,acC,tv,e1,e2,e3,e8,↓e9]
theorem wH (T:aA t) {q} (d) (k):aj (aN cp t fuel (d+1)) (.func 342 []) [.bool q] H k=k (.int 3 (if q=true then 1 else 0)) H:=by
 rw [aJ T.aec rfl rfl]
 cases q<;>simp only [go_sem,acB]
theorem Xl (s) (h:Hf s.cF):(uT s).length<=103:=by have:=h.1;simp only [uT,YH];omega
theorem yI:∀ (l:List Sn),(∀ s ∈ l,Hf s.cF)->(l.flatMap uT).length<=l.length*103
 | [],_=>Yf _
 | s :: l,h=>by
  have h1:=Xl s (h s (YJ ..))
  have h2:=yI l λx hx=>h x (YI _ hx)
  grind
theorem Rv (T:aA t) {v:V} {ss:List Sn} {a:List UInt8} {B:Nat} (hw:H.wf) (hS:fV H O v ss) (hn:ss.length<100) (hok:∀ s ∈ ss,ld s.g/\Hf s.cF) (ha:a.length<100000) (hfu:1000<fuel):
 ∃ G',af H G'/\∀ (d:Nat) (kx:Nat->KE) (e:Env) (x:R),ae s001 e = .ptr B 0->ae s005 e=tv a->ae s041 e=v->ae s042 e = .int 3 ss.length->ae s043 e = .int 3 0->
  (∀ e',ae s001 e' = .ptr B 0->ae s005 e'=tv (a ++ bj (ss.flatMap uT))->kx 1 e' G'=x)->jQ wJ fuel (aN cp t fuel (d+3)) kx fuel e H=x:=by
 have nl:nn ss.length:=by unfold nn;omega
 obtain ⟨_,G',f',z⟩:=bA (c:=wJ) (ph:=λd=>aN cp t fuel (d+3)) (I:=λi _ G=>af H G)
  (S:=λi _ e=>ae s001 e = .ptr B 0/\ae s005 e=tv (a ++ bj ((ss.take i).flatMap uT))/\ae s041 e=v/\ae s042 e = .int 3 ss.length/\ae s043 e = .int 3 i) (λi _ G hil f=>by
   obtain ⟨b,o,c,z,x,rfl,hbn,hbO,hI,hrd⟩:=hS.open hil
   have hrd:=λ{id} {k}=>@hrd G (f.same b hbn) id k
   obtain ⟨hg,him⟩:=hok _ (YW hil)
   have ht:bj ((ss.take (i+1)).flatMap uT)=bj ((ss.take i).flatMap uT) ++ bj (uT ss[i]):=by rw [WO hil,Wj,lF];simp
   have hlen:=cz ((ss.take i).flatMap uT)
   have hlen2:=yI (ss.take i) λs hs=>(hok s (Wc hs)).2
   rw [WI]at hlen2
   generalize ss[i]=s at hrd hI hg him ht
   generalize hA:a ++ bj ((ss.take i).flatMap uT)=A
   have hAl:A.length<200000:=by grind
   have ht2:a ++ bj ((ss.take (i+1)).flatMap uT)=A ++ bj [s.g.1,s.g.2] ++ bj [if s.hid=true then 1 else 0] ++ bj s.cF:=by
    rw [ht,<- WA,hA]
    simp only [uT,bj,Wb,QD,YR,WA]
   have hw:=f.wf
   obtain ⟨G1,hG1,f1,p1,n1⟩:=Heap.aO hw (.cells [.int 7 0,.int 7 0,.az,.bool false])
   obtain ⟨G2,hG2,f2,p2,n2,w2,o2⟩:=Heap.aU f1 (YB _) (by omega) (.cells (bJ s x))
   obtain ⟨Gm,G3,z3,hu3,hl3,f3⟩:=pG (nF (cp:=cp) (a:=A) T (by exact w2) hg (by omega) hfu)
   have w3:=f3.wf
   have z4:=λ{d} {k}=>wH (cp:=cp) (fuel:=fuel) (H:=G3.mark) (q:=s.hid) T d k
   obtain ⟨G5,hG5,f5,p5,n5⟩:=Heap.aO w3 (.cells [.int 3 (if s.hid=true then 1 else 0)])
   have w5:=f5.wf
   have hg2:=cz [s.g.1,s.g.2]
   have hg1:=cz [if s.hid=true then 1 else 0]
   simp only [YH,YO]at hg1 hg2
   obtain ⟨Gn,G6,z6,hu6,hl6,f6⟩:=pG (kO (cp:=cp) (c:=2) (s:=0) (l:=[if s.hid=true then 1 else 0]) (a:=A ++ bj [s.g.1,s.g.2]) T (by exact w5) p5 (by show G3.n<G5.n;omega) (by simp) (λp hp=>by grind) (by grind) hfu)
   have f06:=f2.trans (f3.trans (f5.trans f6))
   obtain ⟨G7,z7,f7⟩:=qt (cp:=cp) (a:=A ++ bj [s.g.1,s.g.2] ++ bj [if s.hid=true then 1 else 0]) T f6.wf (hI.fresh (f.trans f06)) (by have:=him.1;omega) (λp hp=>by have:=him.2 p hp;unfold nn at this;omega) (by grind) hfu
   rw [<- ht2]at z7
   have hi:=λ{id} {k}=>aI hI.one (id:=id) (k:=k)
   have e3:nn i:=by unfold nn;omega
   have e4:i<9223372036854775808:=by omega
   have e5:(i+1)%18446744073709551616=i+1:=by omega
   have e6:G.n<G1.n:=by omega
   have w1:=f1.wf
   simp only [bJ]at hrd hG2 p2
   simp only [aS]at z3
   simp only [YH,YO]at z6
   have q3:=(f3.same _ (by omega)).trans p2
   have q6:G6.get G.n = .cells [.int 7 s.g.1,.int 7 s.g.2,x,.bool s.hid]:=by rw [f6.same _ (by have:=f3.n;omega),f5.same _ (by have:=f3.n;omega)];exact q3
   have z3:=λ{d} {k}=>z3 d k
   have z6:=λ{d} {k}=>z6 d k
   have z7:=λ{d} {k}=>z7 d k
   refine ⟨(),G7,f.trans (f06.trans f7),λd kx r e y ⟨q1,q5,q41,q42,q43⟩ hk=>?_⟩
   rw [ak]
   simp only [go_sem,wJ,q5,q41,q42,q43,hil,nl,e3,e4,e5,e6,↓hrd,hw,↓hi,hG1,p1,w1,hG2,p2,↓z3,hu3,hl3,q3,↓z4,w3,hG5,↓z6,hu6,hl6,q6,↓z7]
   exact hk _ (by simp only [go_sem,q1,q41,q42])) ss.length 0 () H (by omega) (af.refl hw)
 refine ⟨G',f',λd kx e x q1 q5 q41 q42 q43 hk=>z d kx fuel e x (by omega) ⟨q1,by rw [q5];simp [bj],q41,q42,q43⟩ λr e' ⟨q1,q5,q41,q42,q43⟩=>?_⟩
 have e6:¬ ss.length<ss.length:=by omega
 rw [WZ]at q5
 rw [ak]
 simp only [go_sem,wJ,q42,q43,nl,e6]
 exact hk _ q1 q5
def pH (m:MT):List UInt8 × Nat:=if NO m m.live.length 1024=0 then (if 48<((bj (nB m)).length+37)/32 then ([],3) else (bj (nB m),0)) else ([],NO m m.live.length 1024)
set_option maxRecDepth 4000 in
theorem uB (T:aA t) {m:MT} {vl vs vi:V} (hw:H.wf) (M:ku H O m vl vs vi) (Y:rP m) (hfu:1000<fuel):
 ∃ H',(∀ (d:Nat) (k:K),aj (aN cp t fuel (d+6)) (.func 202 []) [.agg (aW m vl vs vi)] H k=k (.cH [tv (pH m).1,.int 3 (pH m).2]) H')/\af H H':=by
 have M0:=M
 have Y0:=Y
 obtain ⟨Ml,Ms,Mi⟩:=M
 obtain ⟨kl,kn,ks,kb,kt,kx,ka,ki⟩:=Y
 obtain ⟨row,hR⟩:∃ row,Row H O vs 4 m.aa.length row:=by obtain ⟨xs,h,_⟩:=Ms;exact ⟨_,h⟩
 have i1:=λ{id:Nat} {k:R}=>aI Ml.one (id:=id) (k:=k)
 have i2:=λ{id:Nat} {k:R}=>aI hR.one (id:=id) (k:=k)
 have i3:=λ{id:Nat} {k:R}=>aI Mi.one (id:=id) (k:=k)
 have s1:=λ{id:Nat} {f:Nat->R}=>Ml.sn (id:=id) (f:=f)
 have s2:=λ{id:Nat} {f:Nat->R}=>hR.sn (id:=id) (f:=f)
 have l1:=kl.1
 have l3:=ki.1
 obtain ⟨G1,hG1,f1,p1,n1⟩:=Heap.aO hw (.cells (aW m vl vs vi))
 obtain ⟨G2,z2,f2⟩:=uK (cp:=cp) (n:=1024) (blocks:=m.live.length) T f1.wf (M0.fresh f1) Y0 (by unfold nn;omega) (by unfold nn;omega) hfu
 have z2:=λ{d:Nat} {k:K}=>z2 d k
 have f02:=f1.trans f2
 have q2:G2.get H.n = .cells (aW m vl vs vi):=(f2.same _ (by omega)).trans p1
 have e1:m.live.length<9223372036854775808:=by omega
 have e2:m.aa.length<9223372036854775808:=by omega
 have nH2:H.n<G2.n:=by have:=f2.n;omega
 by_cases c1:¬ NO m m.live.length 1024=0
 .refine ⟨G2,λd k=>?_,f02⟩
  have hE:pH m=([],NO m m.live.length 1024):=by unfold pH;rw [if_neg c1]
  simp only [aW,bq]at hG1 p1 q2 z2
  rw [hE,aJ T.Vr rfl rfl]
  simp only [go_sem,UR,aW,bq,hw,↓i1,↓i2,↓i3,hG1,p1,↓s1,e1,↓z2,c1]
  rfl
 have c1:NO m m.live.length 1024=0:=Decidable.not_not.1 c1
 have h20:m.aa.length<=20:=by
  unfold NO at c1
  split at c1
  .split at c1
   .omega
   .omega
  .omega
 have w2:=f2.wf
 obtain ⟨G3,hG3,f3,p3,n3⟩:=Heap.aO w2 (.cells [.int 3 m.live.length])
 have w3:=f3.wf
 obtain ⟨Gm4,G4,z4,hu4,hl4,f4⟩:=pG (kO (cp:=cp) (c:=2) (s:=0) (l:=[m.live.length]) (a:=[]) T (by rw [Heap.dm];exact w3) p3 (by show G2.n<G3.n;omega) (by simp) (λp hp=>by rw [YU.1 hp];omega) (by simp) hfu)
 have b1:=cz [m.live.length]
 have b2:=cz m.live
 have b3:=cz [m.aa.length]
 simp only [YH,YO]at b1 b3
 obtain ⟨G5,z5,f5⟩:=qt (cp:=cp) (a:=[] ++ bj [m.live.length]) T f4.wf (((Ml.fresh f02).fresh f3).fresh f4) (by omega) (λp hp=>by have:=kl.2 p hp;unfold nn at this;omega) (by simp only [YC,YO];omega) hfu
 have w5:=f5.wf
 obtain ⟨G6,hG6,f6,p6,n6⟩:=Heap.aO w5 (.cells [.int 3 m.aa.length])
 obtain ⟨G7,z7,f7⟩:=kO (cp:=cp) (c:=2) (s:=0) (l:=[m.aa.length]) (a:=[] ++ bj [m.live.length] ++ bj m.live) T f6.wf p6 (by omega) (by simp) (λp hp=>by rw [YU.1 hp];omega) (by simp only [YC,YO];omega) hfu
 have f25:=f3.trans (f4.trans f5)
 have f27:=f25.trans (f6.trans f7)
 have f07:=f02.trans f27
 have n7:=f27.n
 obtain ⟨G8,f8,z8⟩:=Rv (cp:=cp) (fuel:=fuel) (B:=H.n) (a:=[] ++ bj [m.live.length] ++ bj m.live ++ bj [m.aa.length]) T f07.wf (Ms.fresh f07) (by omega) ks (by simp only [YC,YO];omega) hfu
 generalize hA:[] ++ bj [m.live.length] ++ bj m.live ++ bj [m.aa.length] ++ bj (m.aa.flatMap uT)=A at z8
 have b4:=cz (m.aa.flatMap uT)
 have b5:=yI m.aa λs hs=>(ks s hs).2
 have hAl:A.length<30000:=by rw [<- hA];simp only [YC,YO];omega
 have w8:=f8.wf
 have n8:=f8.n
 obtain ⟨G9,hG9,f9,p9,n9⟩:=Heap.aO w8 (.cells [.int 7 0,.int 7 0,.int 7 0,.int 7 0,.int 3 0,.int 3 0,.az])
 obtain ⟨Ga,hGa,fa,pa,na,wa,oa⟩:=Heap.aU (b:=G8.n) f9 (YB _) (by omega) (.cells (bq m.tok vi))
 obtain ⟨Gb,hGb,fb,pb,nb⟩:=Heap.aO wa (.cells [.int 3 (if m.tok.t=(0,0) then 0 else 1)])
 have wb:=fb.wf
 obtain ⟨Gc,zc,fc⟩:=kO (cp:=cp) (fuel:=fuel) (b:=Ga.n) (c:=2) (s:=0) (l:=[if m.tok.t=(0,0) then 0 else 1]) (a:=A) T wb pb (by omega) (by simp) (λp hp=>by rw [YU.1 hp];split<;>omega) (by omega) hfu
 have hz:∀ {id:Nat} {f:Bool->R},jj id [1,1] [.int 7 m.tok.t.1,.int 7 m.tok.t.2] [.int 7 0,.int 7 0] f=f (decide (m.tok.t=(0,0))):=λ{id f}=>by
  by_cases a1:m.tok.t.1=0
  .by_cases a2:m.tok.t.2=0
   .have:m.tok.t=(0,0):=YK0 a1 a2
    simp only [bZ,du,if_true,this,decide_true]
   .have:¬ m.tok.t=(0,0):=λh=>a2 (by rw [h])
    simp only [bZ,a1,a2,if_true,if_false,this,decide_false]
  .have:¬ m.tok.t=(0,0):=λh=>a1 (by rw [h])
   simp only [bZ,a1,if_false,this,decide_false]
 have f8a:=f8.trans fa
 have q7:G7.get H.n = .cells (aW m vl vs vi):=(f27.same _ nH2).trans q2
 have q8:G8.get H.n = .cells (aW m vl vs vi):=(f8.same _ (by omega)).trans q7
 have q3:G3.get H.n = .cells (aW m vl vs vi):=(f3.same _ nH2).trans q2
 have n3':=f3.n
 have n4':=f4.n
 have n5':=f5.n
 have q4:G4.get H.n = .cells (aW m vl vs vi):=(f4.same _ (by omega)).trans q3
 have q5:G5.get H.n = .cells (aW m vl vs vi):=(f5.same _ (by omega)).trans q4
 have u1:¬ H.n=G8.n:=by omega
 have u2:G8.n<G9.n:=by omega
 have w9:=f9.wf
 have z4:=λ{d:Nat} {k:K}=>z4 d k
 have z5:=λ{d:Nat} {k:K}=>z5 d k
 have z7:=λ{d:Nat} {k:K}=>z7 d k
 have zc:=λ{d:Nat} {k:K}=>zc d k
 have g3:G3.mark.get H.n = .cells (aW m vl vs vi):=q3
 simp only [YH,YO,YK,Le]at z4 z7 zc z5 z8 hA
 simp only [aW,bq]at hG1 p1 q2 z2 q3 q4 q5 q7 q8 hGa pa g3
 have hAe:A=bj (m.live.length :: (m.live ++ (m.aa.length :: m.aa.flatMap uT))):=by
  rw [<- hA]
  simp only [bj,Wb,Wj,QD,YR,WA]
 have hNe:bj (nB m)=A ++ bj (OC m.tok):=by
  rw [hAe,<- lF]
  simp only [nB,YL,WA]
 by_cases ct:m.tok.t=(0,0)
 .have zb:=λ{d:Nat} {k:K}=>wH (cp:=cp) (fuel:=fuel) (H:=Ga) (q:=false) T d k
  have hd:decide (m.tok.t=(0,0))=true:=decide_eq_true ct
  rw [if_pos ct]at hGb zc
  have hTx:A ++ bj [0]=bj (nB m):=by rw [hNe,OC,if_pos ct]
  rw [hTx]at zc
  have hTl:(bj (nB m)).length<100000:=by rw [<- hTx,YC];have:=cz [0];simp only [YH,YO]at this;omega
  have zs:=λ{d:Nat} {k:K}=>Ba (cp:=cp) (fuel:=fuel) (H:=Gc) (a:=bj (nB m)) T (by omega) d k
  have nsz:nn (((bj (nB m)).length+37)/32):=by unfold nn;omega
  refine ⟨Gc,λd k=>?_,f07.trans (f8.trans (fa.trans (fb.trans fc)))⟩
  rw [aJ T.Vr rfl rfl]
  simp only [go_sem,UR,aW,bq,hw,↓i1,↓i2,↓i3,hG1,p1,↓s1,e1,↓z2,c1,q2,w2,hG3,↓z4,hu4,hl4,q4,↓z5,q5,↓s2,e2,w5,hG6,↓z7,q7]
  refine z8 (d+2) _ _ _ ?_ ?_ ?_ ?_ ?_ λe' h1 h5=>?_
  .rfl
  .rfl
  .rfl
  .rfl
  .rfl
  simp only [go_sem,ZE,h1,h5,q8,w8,hG9,p9,u2,w9,hGa,pa,↓bh,↓hz,hd,↓zb,wa,hGb,↓zc,↓zs,nsz,↓i3]
  by_cases c48:48<((bj (nB m)).length+37)/32
  .simp only [pH,c1,c48,if_true,Le]
  .simp only [pH,c1,c48,if_true,if_false]
 .have zb:=λ{d:Nat} {k:K}=>wH (cp:=cp) (fuel:=fuel) (H:=Ga) (q:=true) T d k
  have hd:decide (m.tok.t=(0,0))=false:=decide_eq_false ct
  rw [if_neg ct]at hGb zc
  have wc:=fc.wf
  have ac:=fb.trans fc
  have b6:=cz [1]
  have b7:=cz [m.tok.b.1,m.tok.b.2]
  have b8:=cz [m.tok.t.1,m.tok.t.2]
  have b9:=cz [m.tok.next,m.tok.all]
  have b10:=cz m.tok.cF
  simp only [YH,YO]at b6 b7 b8 b9
  obtain ⟨Gmd,Gd,zd,hud,hld,fd⟩:=pG (nF (cp:=cp) (fuel:=fuel) (H:=Gc.mark) (a:=A ++ bj [1]) (g:=m.tok.b) T (by rw [Heap.dm];exact wc) kb (by rw [YC];omega) hfu)
  have wd:=fd.wf
  obtain ⟨Gme,Ge,ze,hue,hle,fe⟩:=pG (nF (cp:=cp) (fuel:=fuel) (H:=Gd.mark) (a:=A ++ bj [1] ++ bj [m.tok.b.1,m.tok.b.2]) (g:=m.tok.t) T (by rw [Heap.dm];exact wd) kt (by simp only [YC];omega) hfu)
  have we:=fe.wf
  obtain ⟨Gf,hGf,ff,pf,nf⟩:=Heap.aO we (.cells [.int 3 m.tok.next,.int 3 m.tok.all])
  have wf':=ff.wf
  have kx':=kx
  have ka':=ka
  unfold nn at kx' ka'
  obtain ⟨Gmg,Gg,zg,hug,hlg,fg⟩:=pG (kO (cp:=cp) (fuel:=fuel) (H:=Gf.mark) (b:=Ge.n) (c:=3) (s:=0) (l:=[m.tok.next,m.tok.all]) (a:=A ++ bj [1] ++ bj [m.tok.b.1,m.tok.b.2] ++ bj [m.tok.t.1,m.tok.t.2]) T (by rw [Heap.dm];exact wf') pf (by show Ge.n<Gf.n;omega) (by simp) (λp hp=>by simp only [Yb,Wa,or_false]at hp;rcases hp with rfl|rfl<;>omega) (by simp only [YC];omega) hfu)
  have fcg:=fd.trans (fe.trans (ff.trans fg))
  obtain ⟨Gh,zh,fh⟩:=qt (cp:=cp) (fuel:=fuel) (a:=A ++ bj [1] ++ bj [m.tok.b.1,m.tok.b.2] ++ bj [m.tok.t.1,m.tok.t.2] ++ bj [m.tok.next,m.tok.all]) T fcg.wf (((Mi.fresh f07).fresh (f8.trans (fa.trans ac))).fresh fcg) (by omega) (λp hp=>by have:=ki.2 p hp;unfold nn at this;omega) (by simp only [YC];omega) hfu
  have hTx:A ++ bj [1] ++ bj [m.tok.b.1,m.tok.b.2] ++ bj [m.tok.t.1,m.tok.t.2] ++ bj [m.tok.next,m.tok.all] ++ bj m.tok.cF=bj (nB m):=by
   rw [hNe,OC,if_neg ct]
   simp only [bj,Wb,QD,YR,WA]
  have hTl:(bj (nB m)).length<100000:=by rw [<- hTx];simp only [YC];omega
  rw [hTx]at zh
  have zs:=λ{d:Nat} {k:K}=>Ba (cp:=cp) (fuel:=fuel) (H:=Gh) (a:=bj (nB m)) T (by omega) d k
  have nsz:nn (((bj (nB m)).length+37)/32):=by unfold nn;omega
  have zd:=λ{d:Nat} {k:K}=>zd d k
  have ze:=λ{d:Nat} {k:K}=>ze d k
  have zg:=λ{d:Nat} {k:K}=>zg d k
  have zh:=λ{d:Nat} {k:K}=>zh d k
  simp only [aS]at zd ze
  simp only [YH,YO]at zg
  have nc:=fc.n
  have nd:=fd.n
  have ne:=fe.n
  have ng:=fg.n
  have rc:Gc.get G8.n = .cells [.int 7 m.tok.b.1,.int 7 m.tok.b.2,.int 7 m.tok.t.1,.int 7 m.tok.t.2,.int 3 m.tok.next,.int 3 m.tok.all,vi]:=(ac.same _ (by omega)).trans pa
  have rd:Gd.get G8.n = .cells [.int 7 m.tok.b.1,.int 7 m.tok.b.2,.int 7 m.tok.t.1,.int 7 m.tok.t.2,.int 3 m.tok.next,.int 3 m.tok.all,vi]:=(fd.same _ (by omega)).trans rc
  have re:Ge.get G8.n = .cells [.int 7 m.tok.b.1,.int 7 m.tok.b.2,.int 7 m.tok.t.1,.int 7 m.tok.t.2,.int 3 m.tok.next,.int 3 m.tok.all,vi]:=(fe.same _ (by omega)).trans rd
  have rg:Gg.get G8.n = .cells [.int 7 m.tok.b.1,.int 7 m.tok.b.2,.int 7 m.tok.t.1,.int 7 m.tok.t.2,.int 3 m.tok.next,.int 3 m.tok.all,vi]:=by rw [fg.same _ (by omega),ff.same _ (by omega)];exact re
  refine ⟨Gh,λd k=>?_,f07.trans (f8.trans (fa.trans (ac.trans (fcg.trans fh))))⟩
  rw [aJ T.Vr rfl rfl]
  simp only [go_sem,UR,aW,bq,hw,↓i1,↓i2,↓i3,hG1,p1,↓s1,e1,↓z2,c1,q2,w2,hG3,↓z4,hu4,hl4,q4,↓z5,q5,↓s2,e2,w5,hG6,↓z7,q7]
  refine z8 (d+2) _ _ _ ?_ ?_ ?_ ?_ ?_ λe' h1 h5=>?_
  .rfl
  .rfl
  .rfl
  .rfl
  .rfl
  simp only [go_sem,ZE,h1,h5,q8,w8,hG9,p9,u2,w9,hGa,pa,↓bh,↓hz,hd,↓zb,wa,hGb,↓zc,rc,↓zd,hud,hld,rd,↓ze,hue,hle,re,we,hGf,↓zg,hug,hlg,rg,↓zh,↓zs,nsz,↓i3]
  by_cases c48:48<((bj (nB m)).length+37)/32
  .simp only [pH,c1,c48,if_true,Le]
  .simp only [pH,c1,c48,if_true,if_false]
end
end Go.Ev
end
section
namespace Go.Ev
theorem Step.or {H H':Heap} {A B O:Nat->Prop} (s:Step H A H' B):Step H (λb=>O b\/A b) H' (λb=>O b\/B b):=
 ⟨s.wf,s.n,λb hb ho=>⟨(s.same b hb λh=>ho (YE h)).1,λh=>h.elim (λh=>ho (YG h)) λh=>(s.same b hb λh=>ho (YE h)).2 h⟩,
  λlo h1 h2 h3=>⟨(s.lo lo h1 h2 λb hb=>h3 b (YE hb)).1,λb hb=>hb.elim (λhb=>h3 b (YG hb)) λhb=>(s.lo lo h1 h2 λb hb=>h3 b (YE hb)).2 b hb⟩⟩
theorem Step.fB {H:Heap} {r:Nat} {x:eK} (hw:H.wf) (hr:r<H.n):Step H (λb=>b=r) (H.put r x) (λb=>b=r):=
 ⟨by rw [Heap.bF];exact hw,by rw [Heap.aR];exact YB _,λb hb ho=>⟨by rw [Heap.aE hw hr,if_neg ho],ho⟩,λlo h1 h2 h3=>⟨Heap.eY h1 (h3 r rfl),h3⟩⟩
structure RI (all:List UInt8) (b r kb:Nat) (H G:Heap) (l:List Nat):Prop where
 f:af H G
 rr:∃ pos,G.get r=bN b all pos/\all.drop pos=bj l
 bb:G.get b = .bytes all.length (enc all)
 gR:G.get (r+1) = .cells [.ptr r 0]
 gN:G.get (r+2) = .cells [.func 244 [.ptr (r+1) 0]]
 gQ:G.get (r+3) = .cells [.func 248 [.ptr (r+1) 0]]
 gK:G.get (r+4) = .cells [.int 7 kb]
 gP:G.get (r+5) = .cells [.func 250 [.ptr (r+4) 0,.ptr (r+2) 0]]
 hr:H.n<=r
 n:r+5<G.n
 br:b<r
 al:all.length<1000000
theorem RI.fresh {all:List UInt8} {b r kb:Nat} {H G G':Heap} {l:List Nat} (h:RI all b r kb H G l) (f:af G G'):RI all b r kb H G' l:=by
 obtain ⟨f0,⟨pos,h1,h2⟩,h3,h4,h5,h6,h7,h8,h9,h10,h11,h12⟩:=h
 have n:=f.n
 exact ⟨f0.trans f,⟨pos,(f.same _ (by omega)).trans h1,h2⟩,(f.same _ (by omega)).trans h3,(f.same _ (by omega)).trans h4,(f.same _ (by omega)).trans h5,(f.same _ (by omega)).trans h6,(f.same _ (by omega)).trans h7,(f.same _ (by omega)).trans h8,h9,by omega,h11,h12⟩
section
variable {cp:RC->ah} {t:Nat->Option cP} {fuel:Nat} {all:List UInt8} {b r kb:Nat} {H G:Heap} {l:List Nat}
theorem RI.num (T:aA t) {n:Nat} (h:RI all b r kb H G (n :: l)) (hn:n<18446744073709551616) (hfu:8<fuel):
 ∃ G',RI all b r kb H G' l/\Step G (λb=>b=r) G' (λb=>b=r)/\∀ {d:Nat} {k:K},aj (aN cp t fuel (d+2)) (.func 246 []) [.ptr r 0] G k=k (.int 7 n) G':=by
 obtain ⟨f0,⟨pos,h1,h2⟩,h3,h4,h5,h6,h7,h8,h9,h10,h11,h12⟩:=h
 have h2:all.drop pos=bE n ++ bj l:=h2
 have hw:=f0.wf
 obtain ⟨G1,hG1,f1,p1,n1,w1,o1⟩:=Heap.aU (b:=r) f0 h9 (by omega) (bN b all (pos+(bE n).length))
 refine ⟨G1,⟨f1,⟨_,p1,j8 h2⟩,(o1 _ (by omega)).trans h3,(o1 _ (by omega)).trans h4,(o1 _ (by omega)).trans h5,(o1 _ (by omega)).trans h6,(o1 _ (by omega)).trans h7,(o1 _ (by omega)).trans h8,h9,by omega,h11,h12⟩,by rw [<- hG1];exact Step.fB hw (by omega),λ{d k}=>?_⟩
 rw [kQ T hw h1 (by omega) h3 (by omega) h12 hn h2 hfu,hG1]
theorem jZ (T:aA t) {n} (h:RI all b r kb H G (n :: l)) (hn:n<=1024) (hfu:8<fuel):
 ∃ G',RI all b r kb H G' l/\Step G (λb=>b=r) G' (λb=>b=r)/\∀ {d} {k},aj (aN cp t fuel (d+3)) (.func 244 [.ptr (r+1) 0]) [] G k=k (.int 3 n) G':=by
 obtain ⟨G',h',s,z⟩:=h.num (cp:=cp) T (by omega) hfu
 refine ⟨G',h',s,λ{d k}=>?_⟩
 have g:=h.gR
 have e1:sJ false 0 18446744073709551616 n 1024=n:=by
  unfold sJ
  rw [if_neg (by simp),WL,WL,WE (by omega),WE (by omega)]
  simp_all
 have e2:n%18446744073709551616=n:=by omega
 rw [ax T.adL rfl rfl,YK]
 simp only [go_sem,ach,g,↓z,e1,e2]
theorem rb (T:aA t) {g} (h:RI all b r kb H G (g.1 :: g.2 :: l)) (hg:ld g) (hfu:8<fuel):
 ∃ G',RI all b r kb H G' l/\Step G (λb=>b=r) G' (λb=>b=r)/\∀ {d} {k},aj (aN cp t fuel (d+3)) (.func 248 [.ptr (r+1) 0]) [] G k=k (.agg (aS g)) G':=by
 have hw:=h.f.wf
 obtain ⟨G1,hG1,f1,p1,n1⟩:=Heap.aO hw (.cells [.int 7 0,.int 7 0])
 obtain ⟨G2,h2,s2,z2⟩:=(h.fresh f1).num (cp:=cp) T hg.1 hfu
 obtain ⟨G3,h3,s3,z3⟩:=h2.num (cp:=cp) T hg.2 hfu
 have r1:=(h.fresh f1).gR
 have r2:=h2.gR
 have hn:=h.n
 have m2:=s2.n
 have m3:=s3.n
 have q3:G3.get G.n = .cells [.int 7 0,.int 7 0]:=by rw [(s3.same _ (by omega) (by omega)).1,(s2.same _ (by omega) (by omega)).1];omega
 obtain ⟨G4,hG4,f4,p4,n4,w4,o4⟩:=Heap.aU (b:=G.n) h3.f (by have:=h.hr;omega) (by omega) (.cells (aS g))
 have w3:=h3.f.wf
 have u3:G.n<G3.n:=by omega
 refine ⟨G4,?_,?_,λ{d k}=>?_⟩
 .obtain ⟨a0,⟨pos,a1,a2⟩,a3,a4,a5,a6,a7,a8,a9,a10,a11,a12⟩:=h3
  exact ⟨f4,⟨pos,(o4 _ (by omega)).trans a1,a2⟩,(o4 _ (by omega)).trans a3,(o4 _ (by omega)).trans a4,(o4 _ (by omega)).trans a5,(o4 _ (by omega)).trans a6,(o4 _ (by omega)).trans a7,(o4 _ (by omega)).trans a8,a9,by omega,a11,a12⟩
 .have s13:=f1.step.trans (s2.trans s3)
  refine ⟨w4,by omega,λj hj ho=>⟨by rw [o4 _ (by omega)];exact (s13.same j hj ho).1,ho⟩,λlo a1 a2 a3=>⟨?_,a3⟩⟩
  rw [<- hG4]
  exact Heap.eY (s13.lo lo a1 a2 a3).1 a2
 simp only [aS]at hG4
 rw [ax T.adN rfl rfl,YK]
 simp only [go_sem,acj,hw,hG1,r1,↓z2,r2,↓z3,q3,w3,u3,hG4,↓dW,p4,aS]
end
end Go.Ev
end
section
namespace Go.Ev
theorem Step.grow {H0 H G G':Heap} {A:Nat->Prop} {v:V} {sz n:Nat} {row:List V} (s:Step H0 A G A) (h:Own H G v sz n row) (hn:H0.n<=H.n) (hA:∀ j,A j->js v j) (hAn:∀ j,A j->j<G.n) (hw:G'.wf) (hg:∀ j,j<G.n->js v j->G'.get j=G.get j) (hnn:G.n<=G'.n) (hlo:∀ lo,lo<=G.bz->lo<=H.n->lo<=G'.bz):Step H0 A G' A:=
 ⟨hw,Yr s.n hnn,λb hb ho=>⟨(hg b (YD hb s.n) (h.off (YD hb hn))).trans (s.same b hb ho).1,ho⟩,λlo h1 h2 h3=>⟨hlo lo (s.lo lo h1 h2 h3).1 (Yr h2 hn),h3⟩⟩
theorem RI.grow {all:List UInt8} {b r kb:Nat} {H0 H G G':Heap} {l:List Nat} {v:V} {sz n:Nat} {row:List V} (h:RI all b r kb H0 G l) (o:Own H G v sz n row) (hr:r+5<H.n) (hw:G'.wf) (hg:∀ j,j<G.n->js v j->G'.get j=G.get j) (hnn:G.n<=G'.n) (hlo:∀ lo,lo<=G.bz->lo<=H.n->lo<=G'.bz):RI all b r kb H0 G' l:=by
 obtain ⟨a0,⟨pos,a1,a2⟩,a3,a4,a5,a6,a7,a8,a9,a10,a11,a12⟩:=h
 have e:∀ j,j<H.n->j<G.n->G'.get j=G.get j:=λj h1 h2=>hg j h2 (o.off h1)
 exact ⟨⟨hw,Yr a0.n hnn,λj hj=>(e j (by omega) (YD hj a0.n)).trans (a0.same j hj),λlo h1 h2=>hlo lo (a0.lo lo h1 h2) (by omega)⟩,⟨pos,(e _ (by omega) (by omega)).trans a1,a2⟩,(e _ (by omega) (by omega)).trans a3,(e _ (by omega) (by omega)).trans a4,(e _ (by omega) (by omega)).trans a5,(e _ (by omega) (by omega)).trans a6,(e _ (by omega) (by omega)).trans a7,(e _ (by omega) (by omega)).trans a8,a9,by omega,a11,a12⟩
section
variable {cp:RC->ah} {t:Nat->Option cP} {fuel:Nat} {all:List UInt8} {b r kb:Nat} {H G:Heap} {l:List Nat}
theorem Vz {a b} (ha:a<18446744073709551616) (hb:b<18446744073709551616):(dA (.lt 0 18446744073709551616) a b=true)=(a<b):=AL ha hb
theorem Jy (T:aA t) {cF:List Nat} (h:RI all b r kb H G (cF ++ l)) (him:cF.length<=8) (hi:∀ p ∈ cF,p<=1024) (hfu:1000<fuel):
 ∃ G' v,RI all b r kb H G' l/\Step G (λb=>b=r) G' (λb=>b=r)/\Own G G' v 1 cF.length (cF.map (V.int 3))/\∀ {d:Nat} {k:K},aj (aN cp t fuel (d+4)) (.func 252 []) [.int 7 cF.length,.int 3 8,.func 244 [.ptr (r+1) 0]] G k=k v G':=by
 have hw:=h.f.wf
 have hrn:=h.n
 obtain ⟨v,G',⟨hR,hS,hO⟩,z⟩:=bA (c:=BD) (fuel:=fuel) (ph:=λd=>aN cp t fuel (d+3))
  (I:=λi v G1=>RI all b r kb H G1 (cF.drop i ++ l)/\Step G (λb=>b=r) G1 (λb=>b=r)/\Own G G1 v 1 i ((cF.take i).map (V.int 3)))
  (S:=λi v e=>ae s002 e = .func 244 [.ptr (r+1) 0]/\ae s007 e=v/\ae s014 e = .int 7 cF.length/\ae s015 e = .int 7 i) (λi v G1 hil ⟨hR,hS,hO⟩=>by
   rw [Ws hil]at hR
   have hp:=hi _ (YW hil)
   have ht:(cF.take (i+1)).map (V.int 3)=(cF.take i).map (V.int 3) ++ [.int 3 cF[i]]:=by rw [WO hil,WB];rfl
   generalize cF[i]=p at hR hp ht
   obtain ⟨G2,hR2,s2,z2⟩:=jZ (cp:=cp) (fuel:=fuel) T hR hp (by omega)
   have w2:=hR2.f.wf
   have m1:=hS.n
   have m2:=s2.n
   obtain ⟨G3,hG3,f3,p3,n3⟩:=Heap.aO w2 (.cells [.int 3 p])
   have o2:=hO.step s2 λj hj _=>by omega
   have o3:=o2.fresh f3
   obtain ⟨v',G4,z4,o4,w4,k4,n4,-,lo4⟩:=Own.grow (w:=v) (x:=.slice G2.n 0 1 2 0) f3.wf (by omega) o3 (λ{id f}=>iN p3 rfl) rfl (by simp [V.one]) (by omega)
   have s3:=(hS.trans s2).trans f3.step
   have e1:i<18446744073709551616:=by omega
   have e2:cF.length<18446744073709551616:=by omega
   have e3:=Vz e1 e2
   have e5:(i+1)%18446744073709551616=i+1:=by omega
   refine ⟨v',G4,⟨(hR2.fresh f3).grow o3 hrn w4 k4 n4 lo4,s3.grow o3 (YB _) (λj hj=>o3.off (by omega)) (λj hj=>by omega) w4 k4 n4 lo4,by rw [ht];exact o4⟩,λd kx rr e x ⟨q2,q7,q14,q15⟩ hk=>?_⟩
   have z2:=λ{d} {k}=>z2 (d:=d) (k:=k)
   rw [ak]
   simp only [go_sem,BD,q2,q7,q14,q15,e3,hil,↓z2,w2,hG3,↓z4,e5]
   exact hk _ (by simp only [go_sem,q2,q14])) cF.length 0 .az G (by omega) ⟨h,Step.refl hw,by simpa using Own.nil⟩
 rw [Qq,YK]at hR
 rw [WZ]at hO
 refine ⟨G',v,hR,hS,hO,λ{d k}=>?_⟩
 have e1:cF.length<18446744073709551616:=by omega
 have e3:=Vz e1 e1
 have e4:=nU e1 (show 8<18446744073709551616 by omega)
 have e5:¬ 8<cF.length:=by omega
 have e6:¬ cF.length<cF.length:=by omega
 rw [aJ T.adP rfl rfl]
 simp only [go_sem,acm,e4,e5]
 refine z d _ fuel _ _ (by omega) ⟨by simp only [go_sem],by simp only [go_sem],by simp only [go_sem],by simp only [go_sem]⟩ λrr e' ⟨q2,q7,q14,q15⟩=>?_
 rw [ak]
 simp only [go_sem,BD,q7,q14,q15,e3,e6]
theorem np (T:aA t) {cF} (h:RI all b r kb H G (cF ++ l)) (hk:cF.length=kb) (him:cF.length<=8) (hi:∀ p ∈ cF,p<=1024) (hfu:1000<fuel):
 ∃ G' v,RI all b r kb H G' l/\Step G (λb=>b=r) G' (λb=>b=r)/\Own G G' v 1 cF.length (cF.map (V.int 3))/\∀ {d} {k},aj (aN cp t fuel (d+5)) (.func 250 [.ptr (r+4) 0,.ptr (r+2) 0]) [] G k=k v G':=by
 obtain ⟨G',v,h1,h2,h3,z⟩:=Jy (cp:=cp) T h him hi hfu
 refine ⟨G',v,h1,h2,h3,λ{d k}=>?_⟩
 have gK:=h.gK
 have gN:=h.gN
 rw [<- hk]at gK
 rw [ax T.adO rfl rfl,YK]
 simp only [go_sem,ack,gK,gN,↓z]
theorem RI.put {j:Nat} {y:eK} (h:RI all b r kb H G l) (hj:r+5<j) (hn:j<G.n):RI all b r kb H (G.put j y) l:=by
 obtain ⟨a0,⟨pos,a1,a2⟩,a3,a4,a5,a6,a7,a8,a9,a10,a11,a12⟩:=h
 have e:∀ i,i<=r+5->(G.put j y).get i=G.get i:=λi hi=>by rw [Heap.aE a0.wf hn,if_neg (by omega)]
 exact ⟨a0.put (by omega) hn,⟨pos,(e _ (by omega)).trans a1,a2⟩,(e _ (by omega)).trans a3,(e _ (by omega)).trans a4,(e _ (by omega)).trans a5,(e _ (by omega)).trans a6,(e _ (by omega)).trans a7,(e _ (by omega)).trans a8,a9,by rw [Heap.aR];exact a10,a11,a12⟩
theorem Step.qw {H G:Heap} {A:Nat->Prop} {j:Nat} {y:eK} (s:Step H A G A) (hj:H.n<=j) (hn:j<G.n):Step H A (G.put j y) A:=
 ⟨by rw [Heap.bF];exact s.wf,by rw [Heap.aR];exact s.n,λb hb ho=>⟨by rw [Heap.aE s.wf hn,if_neg (by omega)];exact (s.same b hb ho).1,ho⟩,λlo h1 h2 h3=>⟨Heap.eY (s.lo lo h1 h2 h3).1 (by omega),h3⟩⟩
theorem Jz (T:aA t) {s:Sn} (h:RI all b r kb H G (uT s ++ l)) (hk:s.cF.length=kb) (hg:ld s.g) (him:s.cF.length<=8) (hi:∀ p ∈ s.cF,p<=1024) (hfu:1000<fuel):
 ∃ G' x,RI all b r kb H G' l/\Step G (λb=>b=r) G' (λb=>b=r)/\Own G G' x 1 s.cF.length (s.cF.map (V.int 3))/\∀ {d:Nat} {k:K},aj (aN cp t fuel (d+6)) (.func 256 [.ptr (r+3) 0,.ptr (r+2) 0,.ptr (r+5) 0]) [] G k=k (.agg (bJ s x)) G':=by
 have hrn:=h.n
 have hw:=h.f.wf
 have hb1:(if s.hid=true then 1 else 0)<=1024:=by split<;>omega
 obtain ⟨G1,hG1,f1,p1,n1⟩:=Heap.aO hw (.cells [.int 7 0,.int 7 0,.az,.bool false])
 have h1:=h.fresh f1
 obtain ⟨G2,h2,s2,z2⟩:=rb (cp:=cp) (fuel:=fuel) T h1 hg (by omega)
 have w2:=h2.f.wf
 obtain ⟨G3,hG3,f3,p3,n3⟩:=Heap.aO w2 (.cells [.int 7 0,.int 7 0,.az,.bool false])
 have h3:=h2.fresh f3
 have m2:=s2.n
 have s3:=f1.step.trans (s2.trans f3.step)
 have h4:=h3.put (y:=.cells [.int 7 s.g.1,.int 7 s.g.2,.az,.bool false]) (j:=G2.n) (by omega) (by omega)
 have s4:=s3.qw (y:=.cells [.int 7 s.g.1,.int 7 s.g.2,.az,.bool false]) (j:=G2.n) (by omega) (by omega)
 have p4:(G3.put G2.n (.cells [.int 7 s.g.1,.int 7 s.g.2,.az,.bool false])).get G2.n = .cells [.int 7 s.g.1,.int 7 s.g.2,.az,.bool false]:=by rw [Heap.aE f3.wf (by omega),if_pos rfl]
 have x4:(G3.put G2.n (.cells [.int 7 s.g.1,.int 7 s.g.2,.az,.bool false])).get G.n = .cells [.int 7 0,.int 7 0,.az,.bool false]:=by rw [Heap.aE f3.wf (by omega),if_neg (by omega),f3.same _ (by omega),(s2.same _ (by omega) (by omega)).1];exact p1
 have n4:(G3.put G2.n (.cells [.int 7 s.g.1,.int 7 s.g.2,.az,.bool false])).n=G3.n:=Heap.aR
 generalize hG4:G3.put G2.n (.cells [.int 7 s.g.1,.int 7 s.g.2,.az,.bool false])=G4 at h4 s4 p4 x4 n4
 obtain ⟨G5,h5,s5,z5⟩:=jZ (cp:=cp) (fuel:=fuel) T h4 hb1 (by omega)
 have m5:=s5.n
 have p5:=(s5.same _ (by omega:G2.n<G4.n) (by omega)).1.trans p4
 have x5:=(s5.same _ (by omega:G.n<G4.n) (by omega)).1.trans x4
 have w5:=h5.f.wf
 have h6:=h5.put (y:=.cells [.int 7 s.g.1,.int 7 s.g.2,.az,.bool s.hid]) (j:=G2.n) (by omega) (by omega)
 have s6:=(s4.trans s5).qw (y:=.cells [.int 7 s.g.1,.int 7 s.g.2,.az,.bool s.hid]) (j:=G2.n) (by omega) (by omega)
 have p6:(G5.put G2.n (.cells [.int 7 s.g.1,.int 7 s.g.2,.az,.bool s.hid])).get G2.n = .cells [.int 7 s.g.1,.int 7 s.g.2,.az,.bool s.hid]:=by rw [Heap.aE w5 (by omega),if_pos rfl]
 have x6:(G5.put G2.n (.cells [.int 7 s.g.1,.int 7 s.g.2,.az,.bool s.hid])).get G.n = .cells [.int 7 0,.int 7 0,.az,.bool false]:=by rw [Heap.aE w5 (by omega),if_neg (by omega)];exact x5
 have n6:(G5.put G2.n (.cells [.int 7 s.g.1,.int 7 s.g.2,.az,.bool s.hid])).n=G5.n:=Heap.aR
 generalize hG6:G5.put G2.n (.cells [.int 7 s.g.1,.int 7 s.g.2,.az,.bool s.hid])=G6 at h6 s6 p6 x6 n6
 obtain ⟨G7,x,h7,s7,o7,z7⟩:=np (cp:=cp) T h6 hk him hi hfu
 have m7:=s7.n
 have p7:=(s7.same _ (by omega:G2.n<G6.n) (by omega)).1.trans p6
 have x7:=(s7.same _ (by omega:G.n<G6.n) (by omega)).1.trans x6
 have w7:=h7.f.wf
 have h8:=h7.put (y:=.cells (bJ s x)) (j:=G2.n) (by omega) (by omega)
 have s8:=(s6.trans s7).qw (y:=.cells (bJ s x)) (j:=G2.n) (by omega) (by omega)
 have o8:=(o7.sub (H:=G) (by omega)).mK (x:=.cells (bJ s x)) (j:=G2.n) w7 (by omega) (o7.off (by omega))
 have p8:(G7.put G2.n (.cells (bJ s x))).get G2.n = .cells (bJ s x):=by rw [Heap.aE w7 (by omega),if_pos rfl]
 have x8:(G7.put G2.n (.cells (bJ s x))).get G.n = .cells [.int 7 0,.int 7 0,.az,.bool false]:=by rw [Heap.aE w7 (by omega),if_neg (by omega)];exact x7
 have n8:(G7.put G2.n (.cells (bJ s x))).n=G7.n:=Heap.aR
 have w8:(G7.put G2.n (.cells (bJ s x))).wf:=by rw [Heap.bF];exact w7
 generalize hG8:G7.put G2.n (.cells (bJ s x))=G8 at h8 s8 o8 p8 x8 n8 w8
 have h9:=h8.put (y:=.cells (bJ s x)) (by omega) (by omega)
 have s9:=s8.qw (y:=.cells (bJ s x)) (YB _) (by omega)
 have o9:=o8.mK (x:=.cells (bJ s x)) (j:=G.n) w8 (by omega) (o7.off (by omega))
 have p9:(G8.put G.n (.cells (bJ s x))).get G.n = .cells (bJ s x):=by rw [Heap.aE w8 (by omega),if_pos rfl]
 generalize hG9:G8.put G.n (.cells (bJ s x))=G9 at h9 s9 o9 p9
 have hx:=λ{id} {k}=>aI o7.one (id:=id) (k:=k)
 have e1:decide ((if s.hid=true then 1 else 0)=1)=s.hid:=by cases s.hid<;>rfl
 have gQ:=h1.gQ
 have gN:=h4.gN
 have gP:=h6.gP
 have w3:=f3.wf
 have u1:G2.n<G3.n:=by omega
 have u2:G2.n<G5.n:=by omega
 have u3:G2.n<G7.n:=by omega
 have u4:G.n<G8.n:=by omega
 have z5:=λ{d} {k}=>z5 (d:=d) (k:=k)
 simp only [bJ]at hG8 hG9 p8 p9
 simp only [aS]at z2
 refine ⟨G9,x,h9,s9,o9,λ{d k}=>?_⟩
 rw [ax T.adR rfl rfl,YK]
 cases hq:s.hid with
 | true=>
  simp only [hq,if_true]at z5 hG6 hG8 hG9 p8 p9 p6 p7
  simp only [go_sem,ZW,hw,hG1,gQ,↓z2,w2,hG3,p3,w3,u1,hG4,gN,↓z5,p5,w5,u2,hG6,gP,↓z7,↓hx,p7,w7,u3,hG8,p8,x8,w8,u4,hG9,↓dW,p9,bJ,hq]
 | false=>
  simp only [hq,Bool.false_eq_true,if_false]at z5 hG6 hG8 hG9 p8 p9 p6 p7
  simp only [go_sem,ZW,hw,hG1,gQ,↓z2,w2,hG3,p3,w3,u1,hG4,gN,↓z5,p5,w5,u2,hG6,gP,↓z7,↓hx,p7,w7,u3,hG8,p8,x8,w8,u4,hG9,↓dW,p9,bJ,hq]
end
end Go.Ev
end
section
namespace Go.Ev
theorem Own.Kk {H G:Heap} {v:V} {sz n j:Nat} {row:List V} (h:Own H G v sz n row) (hj:G.n<=j):js v j:=by
 obtain ⟨_,_,⟨rfl,_⟩|⟨b,c,s,r,rfl,_,_,_,g⟩⟩:=h<;>intro b' o n' c' s' e<;>cases e
 omega
theorem Own.jk {H G G':Heap} {x v:V} {sz n:Nat} {row:List V} (h:Own H G x sz n row) (hn:G.n<=G'.n) (hg:∀ j,j<G.n->js v j->G'.get j=G.get j) (ho:∀ b o n c s,x = .slice b o n c s->js v b):Own H G' x sz n row:=by
 obtain ⟨h1,h2,h|⟨b,c,s,r,g1,g2,g3,g4,g5⟩⟩:=h
 .exact ⟨h1,h2,YG h⟩
 .exact ⟨h1,h2,YE ⟨b,c,s,r,g1,(hg b g5 (ho _ _ _ _ _ g1)).trans g2,g3,g4,by omega⟩⟩
theorem Own.db {H G:Heap} {x:V} {sz n b o n' c s:Nat} {row:List V} (h:Own H G x sz n row) (e:x = .slice b o n' c s):H.n<=b/\b<G.n:=by
 subst e
 obtain ⟨_,_,⟨h,_⟩|⟨_,_,_,_,h,_,_,h1,h2⟩⟩:=h
 .cases h
 .cases h;exact ⟨h1,h2⟩
theorem xz:∀ {ss} {xs} {s} {x},ss.length=xs.length->dU (ss ++ [s]) (xs ++ [x])=dU ss xs ++ bJ s x
 | [],[],s,x,_=>by rfl
 | [],_ :: _,_,_,h=>by simp_all
 | _ :: _,[],_,_,h=>by simp_all
 | a :: ss,y :: xs,s,x,h=>by
  show bJ a y ++ dU (ss ++ [s]) (xs ++ [x])=_
  rw [xz (by simp_all),<- WA]
  rfl
def yZ (H G:Heap) (v:V) (ss:List Sn) (xs:List V):Prop:=Own H G v 4 ss.length (dU ss xs)/\xs.length=ss.length/\∀ (i:Nat) (s:Sn),ss[i]? = some s->∃ x,xs[i]? = some x/\Own H G x 1 s.cF.length (s.cF.map (V.int 3))/\∀ b o n c s,x = .slice b o n c s->js v b
theorem yZ.at_ {H G:Heap} {v:V} {ss:List Sn} {xs:List V} {O:Nat->Prop} (h:yZ H G v ss xs) (hO:∀ b,O b->b<H.n):fV G O v ss:=
 ⟨xs,h.1.toRow hO,h.2.1,λi s hs=>let ⟨x,h1,h2,_⟩:=h.2.2 i s hs; ⟨x,h1,by have:=h2.toRow hO;exact this⟩⟩
section
variable {cp:RC->ah} {t:Nat->Option cP} {fuel:Nat} {all:List UInt8} {b r kb:Nat} {H G:Heap} {l:List Nat}
theorem Nk {s} {x} (h:x.one=true):∀ v ∈ bJ s x,v.one=true:=by
 intro v hv
 simp only [bJ,Yb,Wa,or_false]at hv
 rcases hv with rfl|rfl|rfl|rfl
 .rfl
 .rfl
 .omega
 rfl
theorem Fx (T:aA t) {ss:List Sn} (h:RI all b r kb H G (ss.flatMap uT ++ l)) (hn:ss.length<=20) (hs:∀ s ∈ ss,s.cF.length=kb/\ld s.g/\∀ p ∈ s.cF,p<=1024) (hkb:kb<=8) (hfu:1000<fuel):
 ∃ G' v xs,RI all b r kb H G' l/\Step G (λb=>b=r) G' (λb=>b=r)/\yZ G G' v ss xs/\∀ {d:Nat} {k:K},aj (aN cp t fuel (d+7)) (.func 254 []) [.int 7 ss.length,.int 3 20,.func 256 [.ptr (r+3) 0,.ptr (r+2) 0,.ptr (r+5) 0]] G k=k v G':=by
 have hw:=h.f.wf
 have hrn:=h.n
 obtain ⟨⟨v,xs⟩,G',⟨hR,hS,hO⟩,z⟩:=bA (c:=BE) (fuel:=fuel) (ph:=λd=>aN cp t fuel (d+6)) (n:=ss.length)
  (I:=λi q G1=>RI all b r kb H G1 ((ss.drop i).flatMap uT ++ l)/\Step G (λb=>b=r) G1 (λb=>b=r)/\yZ G G1 q.1 (ss.take i) q.2)
  (S:=λi q e=>ae s002 e = .func 256 [.ptr (r+3) 0,.ptr (r+2) 0,.ptr (r+5) 0]/\ae s007 e=q.1/\ae s014 e = .int 7 ss.length/\ae s015 e = .int 7 i) (λi q G1 hil ⟨hR,hS,hO⟩=>by
   obtain ⟨v,xs⟩:=q
   obtain ⟨ho1,ho2,ho3⟩:=hO
   rw [Ws hil,Wb,WA]at hR
   obtain ⟨hk,hg,hp⟩:=hs _ (YW hil)
   have ht:=WO hil
   have htl:(ss.take i).length=i:=by rw [WI];omega
   have hxl:xs.length=i:=YY ho2 htl
   generalize ss[i]=s at hR hk hg hp ht
   obtain ⟨G2,x,hR2,s2,ox,z2⟩:=Jz (cp:=cp) T hR hk hg (by omega) hp hfu
   have w2:=hR2.f.wf
   have m1:=hS.n
   have m2:=s2.n
   obtain ⟨G3,hG3,f3,p3,n3⟩:=Heap.aO w2 (.cells (bJ s x))
   have o2:=(ho1.step s2 λj hj _=>by omega).fresh f3
   obtain ⟨v',G4,z4,o4,w4,k4,n4,f4,lo4⟩:=Own.grow (w:=v) (x:=.slice G2.n 0 1 2 0) f3.wf (by omega) o2 (λ{id f}=>iN p3 rfl) rfl (Nk ox.one) (by omega)
   have s3:=(hS.trans s2).trans f3.step
   have e1:i<18446744073709551616:=by omega
   have e2:ss.length<18446744073709551616:=by omega
   have e3:=Vz e1 e2
   have e5:(i+1)%18446744073709551616=i+1:=by omega
   have hxv:∀ b o n c s,x = .slice b o n c s->js v b:=λb o n c s e=>ho1.Kk (ox.db e).1
   refine ⟨(v',xs ++ [x]),G4,⟨(hR2.fresh f3).grow o2 hrn w4 k4 n4 lo4,s3.grow o2 (YB _) (λj hj=>o2.off (by omega)) (λj hj=>by omega) w4 k4 n4 lo4,?_,?_,?_⟩,λd kx rr e y ⟨q2,q7,q14,q15⟩ hk=>?_⟩
   .rw [ht,xz (by omega),YC,htl]
    rw [htl]at o4
    exact o4
   .rw [ht];simp only [YC,YH,YO];omega
   .intro j s' hj
    rw [ht]at hj
    by_cases hji:j<i
    .rw [Yp (by omega)]at hj
     obtain ⟨y,a1,a2,a3⟩:=ho3 j s' hj
     have hy:=(a2.step s2 λj hj _=>by omega).fresh f3
     refine ⟨y,by rw [Yp (by omega)];exact a1,hy.jk n4 k4 a3,λb o n c z e=>f4 b (hy.db e).2 (a3 b o n c z e)⟩
    .have hji2:j=i:=by
      have:=(Yo.1 hj).1
      simp only [YC,YH,YO]at this
      omega
     subst hji2
     rw [Ym (by omega),htl,QR]at hj
     simp only [List.getElem?_cons_zero,Option.some.injEq]at hj
     subst hj
     have hy:=(ox.sub (by omega)).fresh f3
     refine ⟨x,by rw [Ym (by omega),show j-xs.length=0 by omega];rfl,hy.jk n4 k4 hxv,λb o n c z e=>f4 b (hy.db e).2 (hxv b o n c z e)⟩
   have z2:=λ{d} {k}=>z2 (d:=d) (k:=k)
   have hx:=λ{id} {k}=>aI ox.one (id:=id) (k:=k)
   simp only [bJ]at hG3 z2
   rw [ak]
   simp only [go_sem,BE,q2,q7,q14,q15,e3,hil,↓z2,↓hx,w2,hG3,↓z4,e5]
   exact hk _ (by simp only [go_sem,q2,q14])) ss.length 0 (.az,[]) G (by omega) ⟨h,Step.refl hw,by simpa [dU] using Own.nil,rfl,λi s hi=>by simp at hi⟩
 rw [Qq,QD,YK]at hR
 rw [WZ]at hO
 refine ⟨G',v,xs,hR,hS,hO,λ{d k}=>?_⟩
 have e1:ss.length<18446744073709551616:=by omega
 have e3:=Vz e1 e1
 have e4:=nU e1 (show 20<18446744073709551616 by omega)
 have e5:¬ 20<ss.length:=by omega
 have e6:¬ ss.length<ss.length:=by omega
 rw [aJ T.adQ rfl rfl]
 simp only [go_sem,acn,e4,e5]
 refine z d _ fuel _ _ (by omega) ⟨by simp only [go_sem],by simp only [go_sem],by simp only [go_sem],by simp only [go_sem]⟩ λrr e' ⟨q2,q7,q14,q15⟩=>?_
 rw [ak]
 simp only [go_sem,BE,q7,q14,q15,e3,e6]
end
end Go.Ev
end
section
namespace Go.Ev
open Go.Proofs
section
variable {ph:cU} {e:Env} {H:Heap} {k:K} {fuel:Nat} {kn:KE} {kx:Nat->KE}
noncomputable def RF (g:Arg) (ps:List Slot) (sa bo:RC) (fuel:Nat) (ph:cU) (e:Env) (H:Heap) (kn:KE) (kx:Nat->KE):R:=eR (.kT g ps sa bo) fuel ph e H kn kx
theorem vB {g} {ps} {sa bo}:eR (.kT g ps sa bo) fuel ph e H kn kx=RF g ps sa bo fuel ph e H kn kx:=YY rfl rfl
@[congr] theorem ab1 {g} {ps} {sa bo} {e'} {H'} (h:e=e') (h2:H=H'):RF g ps sa bo fuel ph e H kn kx=RF g ps sa bo fuel ph e' H' kn kx:=by simp_all
theorem OY {g} {ps} {sa bo} {G} {F:Env->Heap} {S:Env->Prop} {f y} {caps} {v} {ph:Nat->cU} (hw:G.wf) (hy:G.n+1=y) (hf:f%2=0)
 (hF:∀ e,S e->(F e).get y = .loop 0 0 e ps sa bo/\(F e).wf/\y<(F e).n/\∀ (d) (k),aj (ph d) (.func f caps) [.td y] ((G.new .mark).new (.loop 0 0 e ps sa bo)) k=k v (F e)) {e} (hs:S e) (hg:ay g e = .func f caps) (d) {x}
 (hk:∀ e',e'=e->S e'->kn e' ((F e').put y (.loop 3 0 e' ps sa bo))=x):RF g ps sa bo fuel (ph d) e G kn kx=x:=by
 subst hy
 obtain ⟨h1,h2,h3,h4⟩:=hF e hs
 exact (JI hw hg hf (h4 d) h1 h2 h3).trans (hk e rfl hs)
theorem xE {g} {ps} {sa bo} {f} {caps} (hw:H.wf) (hg:ay g e = .func f caps) (hf:f%2=0) {G} {v}
 (hcall:∀ k:K,aj ph (.func f caps) [.td (H.n+1)] ((H.new .mark).new (.loop 0 0 e ps sa bo)) k=k v G) {n} {e'} {ps'} {sa' bo'} (hG:G.get (H.n+1) = .loop 2 (n+1) e' ps' sa' bo') (hGw:G.wf) (hGn:H.n+1<G.n):
 eR (.kT g ps sa bo) fuel ph e H kn kx=kx n e (G.put (H.n+1) (.loop 3 (n+1) e' ps' sa' bo')):=by
 show aG g e (λg=>yQ 0 g λf caps=>Nat.rec (cB H .mark λ_ H=>cB H (.loop 0 0 e ps sa bo) λb H=>ph (.func f caps) [.td b] H λ_ H=>
  dC H b λbl=>eZ bl λst j e' ps' sa' bo'=>Nat.rec (da 0 H b (.loop 3 j e' ps' sa' bo') λH=>Nat.rec (kn e H) (λm _=>kx m e H) j) (λs _=>Nat.rec (no 10) (λ_ _=>da 0 H b (.loop 3 j e' ps' sa' bo') λH=>Nat.rec (kn e H) (λm _=>kx m e H) j) s) st) (λ_ _=>no 14) (Yq f 2))=_
 rw [aq,hg]
 show Nat.rec (motive:=λ_=>R) _ _ (Yq f 2)=_
 have hf':Yq f 2=0:=hf
 rw [hf']
 rw [cE hw,cE (by rw [Heap.aX];omega),Heap.aM]
 refine (hcall _).trans ?_
 rw [aV,hG]
 show da 0 G (H.n+1) (.loop 3 (n+1) e' ps' sa' bo') (λH=>kx n e H)=_
 rw [fm hGw hGn]
theorem Zr {g} {ps} {sa bo} {G} {F:Env->Heap} {S:Env->Prop} {f y n} {caps} {v} {ph:Nat->cU} (hw:G.wf) (hy:G.n+1=y) (hf:f%2=0)
 (hF:∀ e,S e->(F e).get y = .loop 2 (n+1) e ps sa bo/\(F e).wf/\y<(F e).n/\∀ (d) (k),aj (ph d) (.func f caps) [.td y] ((G.new .mark).new (.loop 0 0 e ps sa bo)) k=k v (F e)) {e} (hs:S e) (hg:ay g e = .func f caps) (d) {x}
 (hk:∀ e',e'=e->S e'->kx n e' ((F e').put y (.loop 3 (n+1) e' ps sa bo))=x):RF g ps sa bo fuel (ph d) e G kn kx=x:=by
 subst hy
 obtain ⟨h1,h2,h3,h4⟩:=hF e hs
 exact (xE hw hg hf (h4 d) h1 h2 h3).trans (hk e rfl hs)
theorem rm {cp} {b} {args} {e0 e1 e2} {ps} {sa bo} {H2 H3} (hb:H.get b = .loop 0 0 e0 ps sa bo) (hps:∀ f:Env->R,gj ps args e0 f=f e1)
 (has:∀ (kn) (kx),eR (cp sa) fuel ph e1 H kn kx=kn e2 H2) (h2:H2.get b = .loop 0 0 e0 ps sa bo) (hw2:H2.wf) (hn2:b<H2.n)
 (hbo:∀ (kn) (kx) (x),(∀ e3,kn e3 H3=x)->eR (cp bo) fuel ph e2 (H2.put b (.loop 1 0 e0 ps sa bo)) kn kx=x) (h3:H3.get b = .loop 1 0 e0 ps sa bo) (hw3:H3.wf) (hn3:b<H3.n):
 X9 cp fuel ph b args H k=k (.bool true) (H3.put b (.loop 0 0 e0 ps sa bo)):=by
 unfold X9
 rw [aV,hb]
 show gj ps args e0 _=_
 rw [hps,has,aV,h2]
 show da 0 H2 b (.loop 1 0 e0 ps sa bo) (λH=>eR (cp bo) fuel ph e2 H
  (λ_ H=>dC H b λbl=>eZ bl λ_ _ e' ps' as' bo'=>da 0 H b (.loop 0 0 e' ps' as' bo') λH=>k (.bool true) H)
  λn _ H=>dC H b λbl=>eZ bl λ_ _ e' ps' as' bo'=>da 0 H b (.loop 2 (WN n) e' ps' as' bo') λH=>k (.bool false) H)=_
 rw [fm hw2 hn2]
 refine hbo _ _ _ λe3=>?_
 rw [aV,h3]
 show da 0 H3 b (.loop 0 0 e0 ps sa bo) (λH=>k (.bool true) H)=_
 rw [fm hw3 hn3]
theorem RG {cp} {b} {args} {e0 e1 e2} {ps} {sa bo} {H2 H3} {n} (hb:H.get b = .loop 0 0 e0 ps sa bo) (hps:∀ f:Env->R,gj ps args e0 f=f e1)
 (has:∀ (kn) (kx),eR (cp sa) fuel ph e1 H kn kx=kn e2 H2) (h2:H2.get b = .loop 0 0 e0 ps sa bo) (hw2:H2.wf) (hn2:b<H2.n)
 (hbo:∀ (kn) (kx) (x),(∀ e3,kx n e3 H3=x)->eR (cp bo) fuel ph e2 (H2.put b (.loop 1 0 e0 ps sa bo)) kn kx=x) (h3:H3.get b = .loop 1 0 e0 ps sa bo) (hw3:H3.wf) (hn3:b<H3.n):
 X9 cp fuel ph b args H k=k (.bool false) (H3.put b (.loop 2 (n+1) e0 ps sa bo)):=by
 unfold X9
 rw [aV,hb]
 show gj ps args e0 _=_
 rw [hps,has,aV,h2]
 show da 0 H2 b (.loop 1 0 e0 ps sa bo) (λH=>eR (cp bo) fuel ph e2 H
  (λ_ H=>dC H b λbl=>eZ bl λ_ _ e' ps' as' bo'=>da 0 H b (.loop 0 0 e' ps' as' bo') λH=>k (.bool true) H)
  λn _ H=>dC H b λbl=>eZ bl λ_ _ e' ps' as' bo'=>da 0 H b (.loop 2 (WN n) e' ps' as' bo') λH=>k (.bool false) H)=_
 rw [fm hw2 hn2]
 refine hbo _ _ _ λe3=>?_
 rw [aV,h3]
 show da 0 H3 b (.loop 2 (WN n) e0 ps sa bo) (λH=>k (.bool false) H)=_
 rw [fm hw3 hn3]
end
theorem vF {A B:Type} {S:A->Prop} {Q:A->B->Prop} (b0:B) (h:∀ a,S a->∃ b,Q a b):∃ F:A->B,∀ a,S a->Q a (F a):=by
 refine ⟨λa=>@dite _ (S a) (YH2 _) (λhs=>(h a hs).choose) λ_=>b0,λa hs=>?_⟩
 grind
def OU (H:Heap) (O:Nat->Prop) (v:V) (ims:List (List Nat)):Prop:=∃ vis,Row H O v 1 ims.length vis/\∀ (i:Nat) (l:List Nat),ims[i]? = some l->∃ x,vis[i]? = some x/\ee H O x l
def nz (l:List Nat):List Nat:=l.filter λx=>decide (x≠0)
section
variable {cp:RC->ah} {t:Nat->Option cP} {fuel:Nat} {H:Heap} {O:Nat->Prop}
theorem VK {l:List Nat} {i} (h):nz (l.take (i+1))=nz (l.take i) ++ (if l[i]=0 then [] else [l[i]]):=by
 rw [nz,WO h,YF0]
 by_cases h0:l[i]=0<;>simp [nz,h0]
theorem Oa (T:aA t) {y vi} {c ni ii} {P:List Nat->Heap->Prop} {v} {l pre all} (hpre:pre ++ nz l <+: all) (hI:ee H O v l) (hl:l.length<1000000) (hfu:l.length<fuel) (hP:∀ xs G,P xs G->af H G)
 (hy:∀ xs a G,a ∈ l->a≠0->xs ++ [a] <+: all->P xs G->∃ G',P (xs ++ [a]) G'/\∀ (d) (k),aj (aN cp t fuel (d+c)) y [.int 3 a] G k=k (.bool true) G') {G} (h:P pre G):
 ∃ G',P (pre ++ nz l) G'/\∀ (d) (kx) (r) (e) (x),l.length<r->ae s000 e=y->ae s007 e=vi->ae s010 e = .int 3 ni->ae s011 e = .int 3 ii->ae s015 e=v->ae s016 e = .int 3 l.length->ae s017 e = .int 3 0->
  (∀ e',ae s000 e'=y->ae s007 e'=vi->ae s010 e' = .int 3 ni->ae s011 e' = .int 3 ii->kx 3 e' G'=x)->jQ tA fuel (aN cp t fuel (d+c)) kx r e G=x:=by
 have nl:nn l.length:=by unfold nn;omega
 obtain ⟨_,G',h',z⟩:=bA (c:=tA) (ph:=λd=>aN cp t fuel (d+c)) (I:=λi _ G=>P (pre ++ nz (l.take i)) G)
  (S:=λi _ e=>ae s000 e=y/\ae s007 e=vi/\ae s010 e = .int 3 ni/\ae s011 e = .int 3 ii/\ae s015 e=v/\ae s016 e = .int 3 l.length/\ae s017 e = .int 3 i) (λi _ G hil hG=>by
   obtain ⟨b,o,cc,z,rfl,hbn,hbO,hrd⟩:=hI.open hil
   have hrd:=λ{id} {k}=>@hrd G ((hP _ _ hG).same b hbn) id k
   have hm:=YW hil
   have hz:=VK hil
   generalize l[i]=a at hrd hm hz
   have e3:nn i:=by unfold nn;omega
   have e4:i<9223372036854775808:=by omega
   have e5:(i+1)%18446744073709551616=i+1:=by omega
   by_cases h0:a=0
   .refine ⟨(),G,by grind,λd kx r e x ⟨q0,q7,q10,q11,q15,q16,q17⟩ hk=>?_⟩
    rw [ak]
    simp only [go_sem,tA,q15,q16,q17,hil,nl,e3,e4,e5,↓hrd,h0]
    exact hk _ (by simp only [go_sem,q0,q7,q10,q11,q15,q16])
   .rw [if_neg h0]at hz
    obtain ⟨G1,h1,z1⟩:=hy _ a G hm h0 (by rw [WA,<- hz];exact (List.prefix_append_right_inj _ |>.2 ((List.take_prefix _ _).filter _)).trans hpre) hG
    have z1':=λ{d} {k}=>z1 d k
    refine ⟨(),G1,by grind,λd kx r e x ⟨q0,q7,q10,q11,q15,q16,q17⟩ hk=>?_⟩
    rw [ak]
    simp only [go_sem,tA,q0,q15,q16,q17,hil,nl,e3,e4,e5,↓hrd,h0,z1']
    exact hk _ (by simp only [go_sem,q0,q7,q10,q11,q15,q16])) l.length 0 () G (by omega) (by simpa [nz] using h)
 rw [WZ]at h'
 refine ⟨G',h',λd kx r e x hr q0 q7 q10 q11 q15 q16 q17 hk=>z d kx r e x hr ⟨q0,q7,q10,q11,q15,q16,q17⟩ λr e' ⟨q0,q7,q10,q11,q15,q16,q17⟩=>?_⟩
 have e6:¬ l.length<l.length:=by omega
 rw [ak]
 simp only [go_sem,tA,q16,q17,nl,e6]
 exact hk _ q0 q7 q10 q11
theorem NW (a b):nz (a ++ b)=nz a ++ nz b:=YF0 ..
theorem OA {ims:List (List Nat)} {i} (h):nz (ims.take (i+1)).flatten=nz (ims.take i).flatten ++ nz ims[i]:=by
 rw [WO h,YL1,NW]
 simp
theorem uj {ims:List (List Nat)} {i}:nz (ims.take i).flatten <+: nz ims.flatten:=by
 refine List.IsPrefix.filter _ ?_
 conv=>rhs;rw [<- List.take_append_drop i ims,YL1]
 simp
theorem N9 (T:aA t) {y:V} {c B:Nat} {P:List Nat->Heap->Prop} {v:V} {ims:List (List Nat)} (hI:OU H O v ims) (hn:ims.length<1000000) (hl:∀ l ∈ ims,l.length<1000000) (hfu:1000000<fuel) (hP:∀ xs G,P xs G->af H G/\G.get B = .cells [v])
 (hy:∀ xs a G,a ∈ ims.flatten->a≠0->xs ++ [a] <+: nz ims.flatten->P xs G->∃ G',P (xs ++ [a]) G'/\∀ (d:Nat) (k:K),aj (aN cp t fuel (d+c)) y [.int 3 a] G k=k (.bool true) G') {G:Heap} (h:P [] G):
 ∃ G',P (nz ims.flatten) G'/\∀ (d:Nat) (k:K),aj (aN cp t fuel (d+c+1)) (.func 452 [.ptr B 0]) [y] G k=k (.cH []) G':=by
 have nl:nn ims.length:=by unfold nn;omega
 obtain ⟨vis,hR,hE⟩:=hI
 obtain ⟨_,G',h',z⟩:=bA (c:=BK) (ph:=λd=>aN cp t fuel (d+c)) (I:=λi _ G=>P (nz (ims.take i).flatten) G)
  (S:=λi _ e=>ae s000 e=y/\ae s007 e=v/\ae s010 e = .int 3 ims.length/\ae s011 e = .int 3 i) (λi _ G hil hG=>by
   obtain ⟨b,o,cc,z,rfl,hbn,hbO,hrd⟩:=hR.open hil
   obtain ⟨w,hw1,hw2⟩:=hE i ims[i] (YA hil)
   have hrd:=λ{id} {k}=>(@hrd G ((hP _ _ hG).1.same b hbn)).2 (by rw [WS];exact hw1) (id:=id) (k:=k)
   simp only [WS]at hrd
   have hm:=YW hil
   have hz:=OA hil
   generalize ims[i]=l at hw2 hm hz
   have hll:=hl l hm
   have e3:nn i:=by unfold nn;omega
   have e4:i<9223372036854775808:=by omega
   have e5:(i+1)%18446744073709551616=i+1:=by omega
   have e6:l.length<9223372036854775808:=by omega
   obtain ⟨G1,h1,z1⟩:=Oa (vi:=.slice b o ims.length cc z) (ni:=ims.length) (ii:=i) T (by rw [<- hz];exact uj) hw2 hll (by omega) (λxs G h=>(hP xs G h).1) (λxs a G ha=>hy xs a G (YH3.2 ⟨l,hm,ha⟩)) hG
   have hsn:=λ{id} {f}=>hw2.sn (id:=id) (f:=f)
   rw [<- hz]at h1
   refine ⟨(),G1,h1,λd kx r e x ⟨q0,q7,q10,q11⟩ hk=>?_⟩
   rw [ak]
   simp only [go_sem,BK,q7,q10,q11,hil,nl,e3,e4,↓hrd,↓hsn,e6]
   refine z1 d _ fuel _ _ (by omega) ?_ ?_ ?_ ?_ ?_ ?_ ?_ λe' q0 q7 q10 q11=>?_
   .exact q0
   .exact q7
   .exact q10
   .exact q11
   .rfl
   .rfl
   .rfl
   simp only [go_sem,q11,e5]
   exact hk _ (by simp only [go_sem,q0,q7,q10])) ims.length 0 () G (by omega) (by simpa [nz] using h)
 rw [WZ]at h'
 refine ⟨G',h',λd k=>?_⟩
 have hB:=(hP _ _ h).2
 have hsn:=λ{id} {f}=>hR.sn (id:=id) (f:=f)
 have e1:ims.length<9223372036854775808:=by omega
 have e6:¬ ims.length<ims.length:=by omega
 rw [ax T.aeC rfl rfl,YL,YK]
 simp only [go_sem,acP,hB,↓hsn,e1]
 refine z d _ fuel _ _ (by omega) ⟨by simp only [go_sem],by simp only [go_sem],by simp only [go_sem],by simp only [go_sem]⟩ λr e' ⟨q0,q7,q10,q11⟩=>?_
 rw [ak]
 simp only [go_sem,BK,q10,q11,nl,e6]
def qE (n:Nat) (xs:List Nat):List Nat:=(WX n).map λj=>xs.count j
theorem dF (n) (xs):(qE n xs).length=n:=by simp [qE]
theorem oR {n i} {xs} (h:i<n):(qE n xs)[i]? = some (xs.count i):=by simp [qE,h]
theorem M8 {n a} {xs} (h:a<n):qE n (xs ++ [a])=(qE n xs).set a (xs.count a+1):=by
 refine Qc λi=>?_
 rw [List.getElem?_set]
 by_cases hi:i<n
 .rw [oR hi,dF,List.count_append]
  by_cases he:a=i
  .simp_all
  .rw [if_neg he,oR hi]
   simp_all
 .rw [WY (by rw [dF];omega)]
  split
  .omega
  .rw [WY (by rw [dF];omega)]
theorem Hp (T:aA t) {v} (hw:H.wf) (h1:v.one=true) (h2:v = .az\/∃ b o n c s,v = .slice b o n c s) (d) (k):aj (aN cp t fuel (d+1)) (.func 394 []) [v] H k=k (.func 452 [.ptr H.n 0]) (H.new (.cells [v])):=by
 rw [aJ T.aeo rfl rfl]
 rcases h2 with rfl|⟨b,o,n,c,s,rfl⟩<;>simp only [go_sem,acI,hw]
theorem Row.form {v:V} {sz n:Nat} {row:List V} (h:Row H O v sz n row):v = .az\/∃ b o n c s,v = .slice b o n c s:=by
 obtain ⟨_,_,⟨rfl|⟨_,_,_,_,rfl⟩,_⟩|⟨_,_,_,_,_,rfl,_⟩⟩:=h
 .exact YG rfl
 .exact YE ⟨_,_,_,_,_,rfl⟩
 .exact YE ⟨_,_,_,_,_,rfl⟩
structure CI (H:Heap) (v:V) (n y:Nat) (lp:eK) (xs:List Nat) (G:Heap):Prop where
 f:af H G
 g0:G.get H.n = .cells [.int 3 n]
 g1:G.get (H.n+1) = .cells [.az]
 g2:G.get (H.n+2) = .cells [.int 3 0]
 g3:G.get (H.n+3) = .cells ((qE n xs).map (V.int 3))
 g4:G.get (H.n+4) = .cells [.slice (H.n+3) 0 n (n+1) 0]
 g5:G.get (H.n+5) = .cells [v]
 gy:G.get (H.n+7)=lp
 n:H.n+7<G.n
theorem BV {v:V} {n a:Nat} {xs:List Nat} {e0:Env} {G:Heap} (h3:ae s003 e0 = .ptr H.n 0) (h6:ae s006 e0 = .ptr (H.n+4) 0) (hn:n<=1024) (ha:193<=a/\a<n) (hx:xs.length<1000000)
 (I:CI H v n (H.n+7) (.loop 0 0 e0 [s022] lr.1 lr.2) xs G):
 ∃ G',CI H v n (H.n+7) (.loop 0 0 e0 [s022] lr.1 lr.2) (xs ++ [a]) G'/\∀ (d:Nat) (k:K),aj (aN (aP Tryz.prog) t fuel (d+1)) (.td (H.n+7)) [.int 3 a] G k=k (.bool true) G':=by
 obtain ⟨f,g0,g1,g2,g3,g4,g5,gy,gn⟩:=I
 obtain ⟨ha1,ha2⟩:=ha
 have hw:=f.wf
 obtain ⟨G1,hG1,f1,p1,m1,w1,o1⟩:=Heap.aU f (by omega) gn (.loop 1 0 e0 [s022] lr.1 lr.2)
 have e1:nn a:=by unfold nn;omega
 have e2:nn n:=by unfold nn;omega
 have e3:¬ a<193:=by omega
 have e4:¬ n<=a:=by omega
 have e5:a<9223372036854775808:=by omega
 have hnl:a<(qE n xs).length:=by rw [dF];omega
 have e6:((xs.count a)+1)%18446744073709551616=xs.count a+1:=by
  grind
 have hnt:∀ {id} {k},nth id ((qE n xs).map (V.int 3)) a k=k (.int 3 (xs.count a)):=jT (by rw [List.getElem?_map,oR ha2];rfl)
 have q0:=(o1 H.n (by omega)).trans g0
 have q3:=(o1 (H.n+3) (by omega)).trans g3
 have q4:=(o1 (H.n+4) (by omega)).trans g4
 have n3:H.n+3<G1.n:=by omega
 have hs:(List.map (V.int 3) (qE n xs)).set a (.int 3 (xs.count a+1))=(qE n (xs ++ [a])).map (V.int 3):=by rw [M8 ha2,List.map_set]
 obtain ⟨G2,hG2,f2,p2,m2,w2,o2⟩:=Heap.aU f1 (by omega) n3 (.cells ((qE n (xs ++ [a])).map (V.int 3)))
 obtain ⟨G3,hG3,f3,p3,m3,w3,o3⟩:=Heap.aU (b:=H.n+7) f2 (by omega) (by omega) (.loop 0 0 e0 [s022] lr.1 lr.2)
 refine ⟨G3,⟨f3,?_,?_,?_,?_,?_,?_,p3,by omega⟩,λd k=>?_⟩
 .grind
 .grind
 .grind
 .grind
 .grind
 .grind
 rw [qd,rm (e1:=lk s022 (.int 3 a) e0) (e2:=lk s007 (.int 3 a) (lk s022 (.int 3 a) e0)) gy (λf=>by simp only [go_sem]) (λkn kx=>by rw [Zg.1];simp only [go_sem,XA]) gy hw gn (λkn kx x hk=>by
  rw [Zg.2,hG1]
  simp only [go_sem,ZE,XB,h3,h6,e1,e2,e3,e4,e5,e6,ha2,q0,q4,q3,↓hnt,hnl,n3,hs,w1,hG2]
  exact hk _) ((o2 _ (by omega)).trans p1) w2 (by omega),hG3]
theorem EN (T:aA t) {v:V} {ims:List (List Nat)} {n:Nat} (hw:H.wf) (hI:OU H O v ims) (hm:ims.length<1000000) (hl:∀ l ∈ ims,l.length<1000000) (hfu:1000000<fuel) (hn:n<=1024) (hok:∀ l ∈ ims,∀ a ∈ l,a≠0->193<=a/\a<n) (hc:ims.flatten.length<1000000):
 ∃ H' v',(∀ (d:Nat) (k:K),aj (aN (aP Tryz.prog) t fuel (d+3)) (.func 280 []) [v,.int 3 n] H k=k (.cH [v',.int 3 0]) H')/\af H H'/\Own H H' v' 1 n ((qE n (nz ims.flatten)).map (V.int 3)):=by
 obtain ⟨vis,hR⟩:∃ vis,Row H O v 1 ims.length vis:=hI.imp λ_ h=>h.1
 obtain ⟨G1,hG1,f1,p1,n1⟩:=Heap.aO hw (.cells [.int 3 n])
 obtain ⟨G2,hG2,f2,p2,n2⟩:=Heap.jS (by omega) f1.wf (.cells [.az])
 obtain ⟨G3,hG3,f3,p3,n3⟩:=Heap.jS (by omega) f2.wf (.cells [.int 3 0])
 obtain ⟨G4,f4,-,p4,n4,z4⟩:=Cv (x:=.int 3 0) (n:=n) (a:=.s s016) (by omega) f3.wf rfl (by omega) (YB _)
 obtain ⟨G5,hG5,f5,p5,n5⟩:=Heap.jS (by omega) f4.wf (.cells [.az])
 obtain ⟨G6,hG6,f6,p6,n6,w6,o6⟩:=Heap.aU (b:=H.n+4) f5 (by omega) (by omega) (.cells [.slice (H.n+3) 0 n (n+1) 0])
 obtain ⟨G7,hG7,f7,p7,n7⟩:=Heap.jS (m:=H.n+5) (by omega) w6 (.cells [v])
 have key:∀ e0,ae s003 e0 = .ptr H.n 0->ae s006 e0 = .ptr (H.n+4) 0->∃ G',CI H v n (H.n+7) (.loop 0 0 e0 [s022] lr.1 lr.2) (nz ims.flatten) G'/\∀ (d) (k),aj (aN (aP Tryz.prog) t fuel (d+2)) (.func 452 [.ptr (H.n+5) 0]) [.td (H.n+7)] ((G7.new .mark).new (.loop 0 0 e0 [s022] lr.1 lr.2)) k=k (.cH []) G':=λe0 h3 h6=>by
  obtain ⟨G8,hG8,f8,p8,n8⟩:=Heap.aO f7.wf .mark
  obtain ⟨G9,hG9,f9,p9,n9⟩:=Heap.aO f8.wf (.loop 0 0 e0 [s022] lr.1 lr.2)
  rw [hG8,hG9]
  have f79:=f8.trans f9
  have e79:=f79.same
  have e69:=λb hb=>(e79 b (by omega)).trans (f7.same b hb)
  have e49:=λb hb=>(e69 b (by omega)).trans (f6.same b hb)
  have f09:=f1.trans (f2.trans (f3.trans (f4.trans (f6.trans (f7.trans f79)))))
  refine N9 T hI hm hl hfu (λxs G I=>⟨I.f,I.g5⟩) (λxs a G ha h0 hp I=>?_) ⟨f09,?_,?_,?_,?_,?_,?_,?_,by omega⟩
  .obtain ⟨l,hl1,hl2⟩:=YH3.1 ha
   have h1:=hp.length_le
   have h2:(nz ims.flatten).length<=ims.flatten.length:=YJ3 _ _
   rw [YC]at h1
   exact BV h3 h6 hn (hok l hl1 a hl2 h0) (by omega) I
  .rw [e49 _ (by omega),f4.same _ (by omega),f3.same _ (by omega),f2.same _ (by omega)];exact p1
  .rw [e49 _ (by omega),f4.same _ (by omega),f3.same _ (by omega)];exact p2
  .rw [e49 _ (by omega),f4.same _ (by omega)];exact p3
  .rw [e49 _ (by omega),p4]
   congr 1
   refine Qc λi=>?_
   by_cases hi:i<n
   .simp [hi,qE]
   .rw [WY (by simp;omega),WY (by simp [qE];omega)]
  .rw [e69 _ (by omega),p6]
  .rw [e79 _ (by omega)];exact p7
  .rw [show H.n+7=G8.n by omega];exact p9
 obtain ⟨F,hF⟩:=vF (S:=λe0=>ae s003 e0 = .ptr H.n 0/\ae s006 e0 = .ptr (H.n+4) 0/\ae s004 e0 = .ptr (H.n+1) 0/\ae s005 e0 = .ptr (H.n+2) 0) H λe0 h=>key e0 h.1 h.2.1
 obtain ⟨e0,z,s0⟩:∃ e0:Env,(∀ (d) (k),aj (aN (aP Tryz.prog) t fuel (d+3)) (.func 280 []) [v,.int 3 n] H k=k (.cH [.slice (H.n+3) 0 n (n+1) 0,.int 3 0]) ((((F e0).put (H.n+7) (.loop 3 0 e0 [s022] lr.1 lr.2)).put (H.n+1) (.cells [.slice (H.n+3) 0 n (n+1) 0])).put (H.n+2) (.cells [.int 3 0])))/\ae s003 e0 = .ptr H.n 0/\ae s006 e0 = .ptr (H.n+4) 0/\ae s004 e0 = .ptr (H.n+1) 0/\ae s005 e0 = .ptr (H.n+2) 0:=by
  have z5:=λ{d} {k}=>Hp (cp:=aP Tryz.prog) (fuel:=fuel) T w6 hR.one hR.form d k
  have e1:nn n:=by unfold nn;omega
  have e2:¬ 1024<n:=by omega
  have e3:H.n+4<G5.n:=by omega
  have m2:=f1.wf
  have m3:=f2.wf
  have m5:=f4.wf
  have m6:=f5.wf
  have q1:G3.get H.n = .cells [.int 3 n]:=by rw [f3.same _ (by omega),f2.same _ (by omega)];exact p1
  have N2:G2.n=H.n+2:=by omega
  have N4:G4.n=H.n+4:=by omega
  have N6:G6.n=H.n+5:=by omega
  apply Exists.intro
  refine ⟨λd k=>?_,?_,?_⟩
  .rw [aJ T.adU rfl rfl]
   simp only [go_sem,ZE,acp,↓vB,hw,hG1,n1,m2,hG2,N2,m3,hG3,q1,e1,e2,↓z4,m5,hG5,N4,e3,p5,m6,hG6,z5,N6,hG7,Wm]
   refine OY f7.wf (by omega) rfl (λe he=>⟨(hF e he).1.gy,(hF e he).1.f.wf,(hF e he).1.n,(hF e he).2⟩) ⟨by simp only [go_sem],by simp only [go_sem],by simp only [go_sem],by simp only [go_sem]⟩ rfl d λe' he hs=>?_
   obtain ⟨⟨g,g0,g1,g2,g3,g4,g5,gy,gn⟩,-⟩:=hF e' hs
   obtain ⟨h3,h6,h4,h5⟩:=hs
   have gw:=g.wf
   have u1:H.n+1<(F e').n:=by omega
   have u2:H.n+2<(F e').n:=by omega
   have u4:¬ H.n+4=H.n+7:=by omega
   have u5:¬ H.n+1=H.n+7:=by omega
   have u6:¬ H.n+2=H.n+7:=by omega
   have u7:¬ H.n+2=H.n+1:=by omega
   have u8:¬ H.n+1=H.n+2:=by omega
   simp only [go_sem,h4,h5,h6,gw,gn,g1,g2,g4,u1,u2,u4,u5,u6,u7,u8,↓W8]
   subst he
   rfl
  .rfl
  .exact ⟨by simp only [go_sem],by simp only [go_sem],by simp only [go_sem]⟩
 obtain ⟨⟨g,g0,g1,g2,g3,g4,g5,gy,gn⟩,-⟩:=hF e0 s0
 obtain ⟨A1,hA1,a1,b1,c1,d1,r1⟩:=Heap.aU g (by omega) gn (.loop 3 0 e0 [s022] lr.1 lr.2)
 obtain ⟨A2,hA2,a2,b2,c2,d2,r2⟩:=Heap.aU (b:=H.n+1) a1 (by omega) (by omega) (.cells [.slice (H.n+3) 0 n (n+1) 0])
 obtain ⟨A3,hA3,a3,b3,c3,d3,r3⟩:=Heap.aU (b:=H.n+2) a2 (by omega) (by omega) (.cells [.int 3 0])
 rw [hA1,hA2,hA3]at z
 refine ⟨A3,_,z,a3,by simp [dF],by simp [V.one],YE ⟨H.n+3,n+1,0,[],rfl,?_,YG rfl,by omega,by omega⟩⟩
 rw [r3 _ (by omega),r2 _ (by omega),r1 _ (by omega),YR]
 exact g3
def cZ (cs:List Nat):List Nat:=(WX cs.length).filter λi=>decide (193<=i/\cs[i]? = some 0)
def pw (cs:List Nat) (i:Nat):List Nat:=(WX i).filter λi=>decide (193<=i/\cs[i]? = some 0)
theorem F4 {cs} {i} (h1:193<=i) (h2):pw cs (i+1)=pw cs i ++ (if cs[i]=0 then [i] else []):=by
 rw [pw,List.range_succ,YF0]
 by_cases h0:cs[i]=0<;>simp [pw,h0,h1,h2]
theorem JT {cs}:pw cs 193=[]:=by
 rfl
theorem zG {cs} {i} (h:i<=cs.length):pw cs i <+: cZ cs:=by
 refine List.IsPrefix.filter _ ?_
 rw [show cs.length=i+(cs.length-i) by omega,List.range_add]
 simp
theorem FZ {cs} (h:cs.length<=193):cZ cs=[]:=by
 rw [cZ,List.filter_eq_nil_iff]
 grind
theorem JU {cs}:pw cs (max 193 cs.length)=cZ cs:=by
 by_cases h:cs.length<=193
 .rw [FZ h,Nat.max_eq_left h,JT]
 .rw [Nat.max_eq_right (by omega)];rfl
theorem Cc (T:aA t) {y:V} {c B:Nat} {P Z:List Nat->Heap->Prop} {v:V} {cs:List Nat} (hI:ee H O v cs) (hl:cs.length<1000000) (hfu:1000000<fuel) (hP:∀ xs G,P xs G->af H G/\G.get B = .cells [v])
 (hy:∀ xs a G,xs ++ [a] <+: cZ cs->P xs G->(∃ G',P (xs ++ [a]) G'/\∀ (d:Nat) (k:K),aj (aN cp t fuel (d+c)) y [.int 3 a] G k=k (.bool true) G')\/∃ G',Z xs G'/\∀ (d:Nat) (k:K),aj (aN cp t fuel (d+c)) y [.int 3 a] G k=k (.bool false) G') {G:Heap} (h:P [] G):
 ∃ G',(P (cZ cs) G'\/∃ xs a,xs ++ [a] <+: cZ cs/\Z xs G')/\∀ (d:Nat) (k:K),aj (aN cp t fuel (d+c+1)) (.func 454 [.ptr B 0]) [y] G k=k (.cH []) G':=by
 have nl:nn cs.length:=by unfold nn;omega
 have e1:cs.length<9223372036854775808:=by omega
 have hsn:=λ{id} {f}=>hI.sn (id:=id) (f:=f)
 have n0:=by omega
 have n1:=by omega
 have n2:=by omega
 have n3:¬ max 193 cs.length<cs.length:=by omega
 have hmx:=JU (cs:=cs)
 generalize hN:max 193 cs.length=N at n0 n1 n2 n3 hmx
 rcases nw (c:=tB) (ph:=λd=>aN cp t fuel (d+c)) (n:=N) (j:=λ_=>0) (I:=λi _ G=>P (pw cs i) G/\193<=i)
  (S:=λi _ e=>ae s000 e=y/\ae s001 e = .ptr B 0/\ae s003 e = .int 3 i) (J:=λ_ G=>∃ xs a,xs ++ [a] <+: cZ cs/\Z xs G) (Q:=λ_ _=>True) (λi _ G hil ⟨hG,hi⟩=>by
   have hlt:i<cs.length:=by omega
   obtain ⟨b,o,cc,z,rfl,hbn,hbO,hrd⟩:=hI.open hlt
   obtain ⟨hf,hB⟩:=hP _ _ hG
   have hrd:=λ{id} {k}=>@hrd G (hf.same b hbn) id k
   have hz:=F4 hi hlt
   have hpf:=zG hlt
   generalize cs[i]=q at hrd hz
   have e3:nn i:=by unfold nn;omega
   have e4:i<9223372036854775808:=by omega
   have e5:(i+1)%18446744073709551616=i+1:=by omega
   by_cases h0:q=0
   .rw [if_pos h0]at hz
    rcases hy _ i G (by grind) hG with ⟨G1,h1,z1⟩|⟨G1,h1,z1⟩
    .have z1':=λ{d} {k}=>z1 d k
     refine YG ⟨(),G1,⟨by grind,by omega⟩,λd kx r e x ⟨q0,q1,q3⟩ hk=>?_⟩
     rw [ak]
     simp only [go_sem,tB,q0,q1,q3,hB,↓hsn,hlt,e1,nl,e3,e4,e5,↓hrd,h0,↓z1']
     exact hk _ (by simp only [go_sem,q0,q1])
    .have z1':=λ{d} {k}=>z1 d k
     refine YE ⟨(),G1,⟨_,i,by grind,h1⟩,λd kx r e x ⟨q0,q1,q3⟩ hk=>?_⟩
     rw [ak]
     simp only [go_sem,tB,q0,q1,q3,hB,↓hsn,hlt,e1,nl,e3,e4,↓hrd,h0,↓z1']
     grind
   .rw [if_neg h0,YR]at hz
    refine YG ⟨(),G,⟨by grind,by omega⟩,λd kx r e x ⟨q0,q1,q3⟩ hk=>?_⟩
    rw [ak]
    simp only [go_sem,tB,q1,q3,hB,↓hsn,hlt,e1,nl,e3,e4,e5,↓hrd,h0]
    exact hk _ (by simp only [go_sem,q0,q1])) (N-193) 193 () G (by omega) ⟨by exact h,YB _⟩ with ⟨_,G',⟨hG',_⟩,z⟩|⟨_,G',hG',z⟩
 .rw [hmx]at hG'
  have hB:=(hP _ _ hG').2
  refine ⟨G',YG hG',λd k=>?_⟩
  rw [ax T.aaS rfl rfl,YL,YK]
  simp only [go_sem,Z8]
  refine z d _ fuel _ _ (by omega) ⟨by simp only [go_sem],by simp only [go_sem],by simp only [go_sem]⟩ λr e' ⟨q0,q1,q3⟩=>?_
  have e3:nn N:=by unfold nn;omega
  rw [ak]
  simp only [go_sem,tB,q1,q3,hB,↓hsn,e1,nl,e3,n3]
 .refine ⟨G',YE hG',λd k=>?_⟩
  rw [ax T.aaS rfl rfl,YL,YK]
  simp only [go_sem,Z8]
  exact z d _ fuel _ _ (by omega) ⟨by simp only [go_sem],by simp only [go_sem],by simp only [go_sem]⟩ λe' _=>by grind
end
end Go.Ev
end
section
namespace Go.Ev
open Go.Proofs
section
variable {cp:RC->ah} {t:Nat->Option cP} {fuel:Nat} {H:Heap} {O:Nat->Prop}
theorem Av (T:aA t) {v} (hw:H.wf) (h1:v.one=true) (h2:v = .az\/∃ b o n c s,v = .slice b o n c s) (d) (k):aj (aN cp t fuel (d+1)) (.func 398 []) [v] H k=k (.func 454 [.ptr H.n 0]) (H.new (.cells [v])):=by
 rw [aJ T.aeq rfl rfl]
 rcases h2 with rfl|⟨b,o,n,c,s,rfl⟩<;>simp only [go_sem,acK,hw]
theorem FW (cs):(cZ cs).length<=cs.length:=by
 have:=YJ3 (λi=>decide (193<=i/\cs[i]? = some 0)) (WX cs.length)
 rw [QI]at this
 exact this
structure FI (H:Heap) (v:V) (lp:eK) (xs:List Nat) (G:Heap):Prop where
 f:af H G
 g0:G.get H.n = .cells [.int 3 xs.length]
 g1:G.get (H.n+1) = .cells [v]
 gy:G.get (H.n+3)=lp
 n:H.n+3<G.n
theorem JS (T:aA t) {v:V} {cs:List Nat} (hw:H.wf) (hI:ee H O v cs) (hl:cs.length<1000000) (hfu:1000000<fuel):
 ∃ H',(∀ (d:Nat) (k:K),aj (aN (aP Tryz.prog) t fuel (d+3)) (.func 396 []) [v] H k=k (.int 3 (cZ cs).length) H')/\af H H':=by
 obtain ⟨G0,hG0,f0,p0,n0⟩:=Heap.aO hw (.cells [.int 3 0])
 obtain ⟨G1,hG1,f1,p1,n1,w1,-⟩:=Heap.aU (b:=H.n) f0 (by omega) (by omega) (.cells [.int 3 0])
 obtain ⟨G2,hG2,f2,p2,n2⟩:=Heap.jS (m:=H.n+1) (by omega) f1.wf (.cells [v])
 have key:∀ e0,ae s003 e0 = .ptr H.n 0->∃ G',FI H v (.loop 0 0 e0 [s006] oq.1 oq.2) (cZ cs) G'/\∀ (d) (k),aj (aN (aP Tryz.prog) t fuel (d+2)) (.func 454 [.ptr (H.n+1) 0]) [.td (H.n+3)] ((G2.new .mark).new (.loop 0 0 e0 [s006] oq.1 oq.2)) k=k (.cH []) G':=λe0 h3=>by
  obtain ⟨G3,hG3,f3,p3,n3⟩:=Heap.jS (by omega) f2.wf .mark
  obtain ⟨G4,hG4,f4,p4,n4⟩:=Heap.jS (by omega) f3.wf (.loop 0 0 e0 [s006] oq.1 oq.2)
  rw [hG3,hG4]
  obtain ⟨G',hG',z⟩:=Cc (cp:=aP Tryz.prog) (P:=λxs G=>FI H v (.loop 0 0 e0 [s006] oq.1 oq.2) xs G) (Z:=λ_ _=>False) T hI hl hfu (λxs G I=>⟨I.f,I.g1⟩) (λxs a G hp ⟨f,g0,g1,gy,gn⟩=>by
   obtain ⟨A1,hA1,a1,b1,c1,w1,o1⟩:=Heap.aU f (by omega) gn (.loop 1 0 e0 [s006] oq.1 oq.2)
   obtain ⟨A2,hA2,a2,b2,c2,w2,o2⟩:=Heap.aU (b:=H.n) a1 (by omega) (by omega) (.cells [.int 3 (xs ++ [a]).length])
   obtain ⟨A3,hA3,a3,b3,c3,w3,o3⟩:=Heap.aU (b:=H.n+3) a2 (by omega) (by omega) (.loop 0 0 e0 [s006] oq.1 oq.2)
   have e1:(xs.length+1)%18446744073709551616=xs.length+1:=by
    have h1:=hp.length_le
    have h2:=FW cs
    grind
   have q0:=(o1 H.n (by omega)).trans g0
   have u1:H.n<A1.n:=by omega
   rw [YC,YH,YO]at hA2
   refine YG ⟨A3,⟨a3,(o3 _ (by omega)).trans b2,by grind,b3,by omega⟩,λd k=>?_⟩
   rw [qd,rm (e1:=lk s006 (.int 3 a) e0) (e2:=lk s006 (.int 3 a) e0) gy (λf=>by simp only [go_sem]) (λkn kx=>by rw [Zh.1];simp only [go_sem,XC]) gy f.wf gn (λkn kx x hk=>by
    rw [Zh.2,hA1]
    simp only [go_sem,XD,h3,q0,w1,u1,e1,hA2]
    exact hk _) ((o2 _ (by omega)).trans b1) w2 (by omega),hA3])
   ⟨f1.trans (f2.trans (f3.trans f4)),by rw [f4.same _ (by omega),f3.same _ (by omega),f2.same _ (by omega)];exact p1,by rw [f4.same _ (by omega),f3.same _ (by omega)];exact p2,p4,by omega⟩
  grind
 obtain ⟨F,hF⟩:=vF H key
 obtain ⟨e0,z,s0⟩:∃ e0:Env,(∀ (d) (k),aj (aN (aP Tryz.prog) t fuel (d+3)) (.func 396 []) [v] H k=k (.int 3 (cZ cs).length) ((F e0).put (H.n+3) (.loop 3 0 e0 [s006] oq.1 oq.2)))/\ae s003 e0 = .ptr H.n 0:=by
  have w0:=f0.wf
  have N1:G1.n=H.n+1:=by omega
  have z5:=λ{d} {k}=>Av (cp:=aP Tryz.prog) (fuel:=fuel) T w1 hI.one hI.form d k
  have u1:H.n<H.n+1:=by omega
  apply Exists.intro
  refine ⟨λd k=>?_,?_⟩
  .rw [aJ T.aep rfl rfl]
   simp only [go_sem,acJ,↓vB,hw,hG0,n0,p0,w0,u1,hG1,z5,N1,hG2]
   refine OY f2.wf (by omega) rfl (λe he=>⟨(hF e he).1.gy,(hF e he).1.f.wf,(hF e he).1.n,(hF e he).2⟩) rfl rfl d λe' he h3=>?_
   obtain ⟨⟨g,g0,g1,gy,gn⟩,-⟩:=hF e' h3
   have gw:=g.wf
   have u1:¬ H.n=H.n+3:=by omega
   simp only [go_sem,h3,gw,gn,g0,u1]
   subst he
   rfl
  .rfl
 obtain ⟨⟨g,g0,g1,gy,gn⟩,-⟩:=hF e0 s0
 exact ⟨_,z,g.put (by omega) gn⟩
structure TI (H:Heap) (v:V) (n B:Nat) (lp:eK) (xs:List Nat) (G:Heap):Prop where
 f:af H G
 b:H.n<B
 g0:G.get H.n = .cells [.int 3 n]
 g1:∃ w,G.get (B) = .cells [w]/\Own H G w 1 xs.length (xs.map (V.int 3))/\js w H.n/\js w (B)/\js w (B+1)/\js w (B+3)
 g2:G.get (B+1) = .cells [v]
 gy:G.get (B+3)=lp
 n:B+3<G.n
theorem yL {v:V} {n a B:Nat} {xs:List Nat} {e0:Env} {G:Heap} (h3:ae s003 e0 = .ptr H.n 0) (h6:ae s006 e0 = .ptr (B) 0) (hx:xs.length<100000) (hn:nn n)
 (I:TI H v n B (.loop 0 0 e0 [s020] eB.1 eB.2) xs G):
 (xs.length≠n/\∃ G',TI H v n B (.loop 0 0 e0 [s020] eB.1 eB.2) (xs ++ [a]) G'/\∀ (d:Nat) (k:K),aj (aN (aP Tryz.prog) t fuel (d+1)) (.td (B+3)) [.int 3 a] G k=k (.bool true) G')\/
 (xs.length=n/\∃ G',TI H v n B (.loop 2 2 e0 [s020] eB.1 eB.2) xs G'/\∀ (d:Nat) (k:K),aj (aN (aP Tryz.prog) t fuel (d+1)) (.td (B+3)) [.int 3 a] G k=k (.bool false) G'):=by
 obtain ⟨f,hB,g0,⟨w,g1,ow,o0,o1,o2,o4⟩,g2,gy,gn⟩:=I
 have hw:=f.wf
 obtain ⟨A1,hA1,a1,b1,c1,w1,r1⟩:=Heap.aU f (by omega) gn (.loop 1 0 e0 [s020] eB.1 eB.2)
 have q0:=(r1 H.n (by omega)).trans g0
 have q1:=(r1 (B) (by omega)).trans g1
 have ow1:Own H A1 w 1 xs.length (xs.map (V.int 3)):=by rw [<- hA1];exact ow.mK hw gn o4
 have hsn:=λ{id} {f}=>ow.sn (id:=id) (f:=f)
 have e1:xs.length<9223372036854775808:=by omega
 have e3:(dA .eq xs.length n=true)=(xs.length=n):=X6
 by_cases he:xs.length=n
 .obtain ⟨A3,hA3,a3,b3,c3,w3,o3⟩:=Heap.aU (b:=B+3) a1 (by omega) (by omega) (.loop 2 2 e0 [s020] eB.1 eB.2)
  refine YE ⟨he,A3,⟨a3,hB,(o3 _ (by omega)).trans q0,⟨w,(o3 _ (by omega)).trans q1,by rw [<- hA3];exact ow1.mK w1 (by omega) o4,o0,o1,o2,o4⟩,by grind,b3,by omega⟩,λd k=>?_⟩
  rw [qd,RG (e1:=lk s020 (.int 3 a) e0) (e2:=lk s007 (.int 3 a) (lk s020 (.int 3 a) e0)) gy (λf=>by simp only [go_sem]) (λkn kx=>by rw [Mx.1];simp only [go_sem,Pr]) gy hw gn (λkn kx x hk=>by
   rw [Mx.2,hA1]
   simp only [go_sem,↓cW,Ps,h3,h6,q0,q1,↓hsn,e1,e3]
   simp only [go_sem,he]
   exact hk _) b1 w1 (by omega),hA3]
 .obtain ⟨A2,hA2,a2,b2,n2⟩:=Heap.aO w1 (.cells [.int 3 a])
  obtain ⟨v',A3,z3,ow3,a3,k3,m3,off3⟩:=Own.app (w:=w) (x:=.slice A1.n 0 1 2 0) (a1.trans a2) (ow1.fresh a2) (λ{id f}=>iN b2 rfl) rfl (by simp [V.one]) (by omega)
  have w3:=a3.wf
  have k1:=λj hj ho=>(k3 j (by omega) ho).trans (a2.same j hj)
  obtain ⟨A4,hA4,a4,b4,n4,w4,r4⟩:=Heap.aU (b:=B) a3 (by omega) (by omega) (.cells [v'])
  obtain ⟨A5,hA5,a5,b5,n5,w5,r5⟩:=Heap.aU (b:=B+3) a4 (by omega) (by omega) (.loop 0 0 e0 [s020] eB.1 eB.2)
  have hf1:=off3 (B) (by omega) o1
  have hf4:=off3 (B+3) (by omega) o4
  have ow5:Own H A5 v' 1 (xs ++ [a]).length ((xs ++ [a]).map (V.int 3)):=by
   rw [YC,WB,<- hA5,<- hA4]
   exact (ow3.mK w3 (by omega) hf1).mK (by grind) (by grind) hf4
  refine YG ⟨he,A5,⟨a5,hB,?_,⟨v',(r5 _ (by omega)).trans b4,ow5,off3 _ (by omega) o0,hf1,off3 _ (by omega) o2,hf4⟩,?_,b5,by omega⟩,λd k=>?_⟩
  .grind
  .grind
  have q3:=(a2.same _ (by omega)).trans q1
  have q4:=(k1 _ (by omega) o1).trans q1
  have hi:=λ{id} {k}=>aI ow3.one (id:=id) (k:=k)
  have u1:B<A3.n:=by omega
  rw [qd,rm (e1:=lk s020 (.int 3 a) e0) (e2:=lk s007 (.int 3 a) (lk s020 (.int 3 a) e0)) gy (λf=>by simp only [go_sem]) (λkn kx=>by rw [Mx.1];simp only [go_sem,Pr]) gy hw gn (λkn kx x hk=>by
   rw [Mx.2,hA1]
   simp only [go_sem,Ps,h3,h6,q0,q1,↓hsn,e1,e3,he,w1,hA2,↓z3,q4,↓hi,w3,u1,hA4]
   exact hk _) ((r4 _ (by omega)).trans ((k1 _ (by omega) o4).trans b1)) w4 (by omega),hA5]
theorem Xq (T:aA t) {v:V} {cs:List Nat} {n:Nat} (hw:H.wf) (hI:ee H O v cs) (hl:cs.length<100000) (hfu:1000000<fuel) (hn:n<1000000):
 ∃ H' v',(∀ (d:Nat) (k:K),aj (aN (aP Tryz.prog) t fuel (d+4)) (.func 282 []) [v,.int 3 n] H k=k (.cH [v',.int 3 (if (cZ cs).length<n then 7 else 0)]) H')/\af H H'/\(¬ (cZ cs).length<n->Own H H' v' 1 n (((cZ cs).take n).map (V.int 3))):=by
 have hnn:nn n:=by unfold nn;omega
 have hfl:=FW cs
 have RY:nn (cZ cs).length:=by unfold nn;omega
 obtain ⟨G1,hG1,f1,p1,n1⟩:=Heap.aO hw (.cells [.int 3 n])
 obtain ⟨G2m,z2,f2m⟩:=JS (H:=G1.mark) T (by rw [Heap.dm];exact f1.wf) ((hI.fresh f1).fresh ⟨by rw [Heap.dm];exact f1.wf,YB _,λ_ _=>rfl,λlo h1 h2=>h2⟩) (by omega) hfu
 obtain ⟨f2,hlo⟩:=f2m.dX
 generalize hG2:G2m.dX G1.bz=G2 at f2
 have z2':=λ{d} {k}=>z2 d k
 have w1:=f1.wf
 by_cases hs:(cZ cs).length<n
 .refine ⟨G2,.az,λd k=>?_,f1.trans f2,λh=>absurd hs h⟩
  rw [if_pos hs,aJ T.Vt rfl rfl]
  simp only [go_sem,ZE,UT,hw,hG1,p1,hnn,Wm,z2',hlo,hG2,RY,hs]
 have q2:=(f2.same _ (by omega)).trans p1
 have n2:=f2.n
 have w2:=f2.wf
 generalize hB:G2.n=B at n2
 have hHB:H.n<B:=by omega
 obtain ⟨G3,hG3,f3,p3,n3⟩:=Heap.jS hB w2 (.cells [.az])
 obtain ⟨G4,hG4,f4,p4,n4⟩:=Heap.jS n3 f3.wf (.cells [v])
 have f04:=f1.trans (f2.trans (f3.trans f4))
 have q4:G4.get H.n = .cells [.int 3 n]:=by rw [f4.same _ (by omega),f3.same _ (by omega)];exact q2
 have u1:=by omega
 have w3:=f3.wf
 have z5:=λ{d} {k}=>Av (cp:=aP Tryz.prog) (fuel:=fuel) T w3 hI.one hI.form d k
 have off:∀ j,js .az j:=λj b o n c s e=>by cases e
 have start:∀ (e0) (xs),xs=[]->TI H v n B (.loop 0 0 e0 [s020] eB.1 eB.2) xs ((G4.new .mark).new (.loop 0 0 e0 [s020] eB.1 eB.2)):=λe0 xs hx=>by
  subst hx
  obtain ⟨G5,hG5,f5,p5,n5⟩:=Heap.jS n4 f4.wf .mark
  obtain ⟨G6,hG6,f6,p6,n6⟩:=Heap.jS n5 f5.wf (.loop 0 0 e0 [s020] eB.1 eB.2)
  rw [hG5,hG6]
  refine ⟨f04.trans (f5.trans f6),hHB,?_,⟨.az,?_,Own.nil,off _,off _,off _,off _⟩,?_,p6,by omega⟩
  .rw [f6.same _ (by omega),f5.same _ (by omega)];exact q4
  .rw [f6.same _ (by omega),f5.same _ (by omega),f4.same _ (by omega)];exact p3
  .rw [f6.same _ (by omega),f5.same _ (by omega)];exact p4
 have fin:∀ (st j) (xs) (F:Env->Heap) (e0),TI H v n B (.loop st j e0 [s020] eB.1 eB.2) xs (F e0)->∃ w,(F e0).get B = .cells [w]/\w.one=true/\af H ((F e0).put (B+3) (.loop 3 j e0 [s020] eB.1 eB.2))/\Own H ((F e0).put (B+3) (.loop 3 j e0 [s020] eB.1 eB.2)) w 1 xs.length (xs.map (V.int 3)):=λst j xs F e0 ⟨f,hB,g0,⟨w,g1,ow,o0,o1,o2,o4⟩,g2,gy,gn⟩=>
  ⟨w,g1,ow.one,f.put (by omega) gn,ow.mK f.wf gn o4⟩
 by_cases hx:(cZ cs).length=n
 .have key:∀ e0,(ae s003 e0 = .ptr H.n 0/\ae s006 e0 = .ptr B 0)->∃ G',TI H v n B (.loop 0 0 e0 [s020] eB.1 eB.2) (cZ cs) G'/\∀ (d) (k),aj (aN (aP Tryz.prog) t fuel (d+3)) (.func 454 [.ptr (B+1) 0]) [.td (B+3)] ((G4.new .mark).new (.loop 0 0 e0 [s020] eB.1 eB.2)) k=k (.cH []) G':=λe0 ⟨h3,h6⟩=>by
   obtain ⟨G',hG',z⟩:=Cc (c:=2) (Z:=λ_ _=>False) T hI (by omega) hfu (λxs G I=>⟨I.f,I.g2⟩) (λxs a G hp I=>by
    have h1:=hp.length_le
    rw [YC,YH,YO]at h1
    rcases yL h3 h6 (by omega) hnn I with ⟨_,G1,i1,z1⟩|⟨h2,_⟩
    .exact YG ⟨G1,i1,λd k=>z1 (d+1) k⟩
    .omega) (start e0 [] rfl)
   grind
  obtain ⟨F,hF⟩:=vF H key
  obtain ⟨e0,z,s0⟩:∃ e0:Env,(∀ (d) (k) (w),(F e0).get B = .cells [w]->aj (aN (aP Tryz.prog) t fuel (d+4)) (.func 282 []) [v,.int 3 n] H k=k (.cH [w,.int 3 0]) ((F e0).put (B+3) (.loop 3 0 e0 [s020] eB.1 eB.2)))/\ae s003 e0 = .ptr H.n 0/\ae s006 e0 = .ptr B 0:=by
   apply Exists.intro
   refine ⟨λd k w g1=>?_,?_⟩
   .rw [aJ T.Vt rfl rfl]
    simp only [go_sem,ZE,UT,↓vB,hw,hG1,p1,hnn,Wm,z2',hlo,hG2,RY,hs,hB,w2,hG3,z5,n3,hG4]
    refine OY f4.wf (by omega) rfl (λe he=>⟨(hF e he).1.gy,(hF e he).1.f.wf,(hF e he).1.n,(hF e he).2⟩) ⟨by simp only [go_sem],by simp only [go_sem]⟩ rfl d λe' he hs=>?_
    have gn:=(hF e' hs).1.n
    have gw:=(hF e' hs).1.f.wf
    have u1:¬ B=B+3:=by omega
    subst he
    simp only [go_sem,hs.2,gw,gn,u1]
    rw [g1]
    simp only [go_sem]
   .exact ⟨by simp only [go_sem],by simp only [go_sem]⟩
  obtain ⟨w,h1,h2,h3,h4⟩:=fin _ 0 _ F e0 (hF e0 s0).1
  grind
 .have key:∀ e0,(ae s003 e0 = .ptr H.n 0/\ae s006 e0 = .ptr B 0)->∃ G',∃ xs,TI H v n B (.loop 2 2 e0 [s020] eB.1 eB.2) xs G'/\xs=(cZ cs).take n/\∀ (d) (k),aj (aN (aP Tryz.prog) t fuel (d+3)) (.func 454 [.ptr (B+1) 0]) [.td (B+3)] ((G4.new .mark).new (.loop 0 0 e0 [s020] eB.1 eB.2)) k=k (.cH []) G':=λe0 ⟨h3,h6⟩=>by
   obtain ⟨G',hG',z⟩:=Cc (c:=2) (P:=λxs G=>TI H v n B (.loop 0 0 e0 [s020] eB.1 eB.2) xs G/\xs.length<=n) (Z:=λxs G=>TI H v n B (.loop 2 2 e0 [s020] eB.1 eB.2) xs G/\xs.length=n) T hI (by omega) hfu (λxs G I=>⟨I.1.f,I.1.g2⟩) (λxs a G hp I=>by
    rcases yL h3 h6 (by omega) hnn I.1 with ⟨h2,G1,i1,z1⟩|⟨h2,G1,i1,z1⟩
    .exact YG ⟨G1,⟨i1,by grind⟩,λd k=>z1 (d+1) k⟩
    grind) ⟨start e0 [] rfl,Yf _⟩
   rcases hG' with hG'|⟨xs,a,hp,hz⟩
   .omega
   .refine ⟨G',xs,hz.1,?_,z⟩
    have:=(List.prefix_append xs [a]).trans hp
    rw [List.prefix_iff_eq_take.1 this,hz.2]
  obtain ⟨F,hF⟩:=vF H key
  obtain ⟨e0,z,s0⟩:∃ e0:Env,(∀ (d) (k) (w),(F e0).get B = .cells [w]->aj (aN (aP Tryz.prog) t fuel (d+4)) (.func 282 []) [v,.int 3 n] H k=k (.cH [w,.int 3 0]) ((F e0).put (B+3) (.loop 3 2 e0 [s020] eB.1 eB.2)))/\ae s003 e0 = .ptr H.n 0/\ae s006 e0 = .ptr B 0:=by
   apply Exists.intro
   refine ⟨λd k w g1=>?_,?_⟩
   .rw [aJ T.Vt rfl rfl]
    simp only [go_sem,ZE,UT,↓vB,hw,hG1,p1,hnn,Wm,z2',hlo,hG2,RY,hs,hB,w2,hG3,z5,n3,hG4]
    refine Zr f4.wf (by omega) rfl (λe he=>⟨(hF e he).choose_spec.1.gy,(hF e he).choose_spec.1.f.wf,(hF e he).choose_spec.1.n,(hF e he).choose_spec.2.2⟩) ⟨by simp only [go_sem],by simp only [go_sem]⟩ rfl d λe' he hs=>?_
    have gn:=(hF e' hs).choose_spec.1.n
    have gw:=(hF e' hs).choose_spec.1.f.wf
    have u1:¬ B=B+3:=by omega
    subst he
    simp only [go_sem,hs.2,gw,gn,u1]
    rw [g1]
    simp only [go_sem]
   .exact ⟨by simp only [go_sem],by simp only [go_sem]⟩
  obtain ⟨xs,i1,i2,-⟩:=hF e0 s0
  obtain ⟨w,h1,h2,h3,h4⟩:=fin _ 2 _ F e0 i1
  grind
end
end Go.Ev
end
section
namespace Go.Ev
theorem Mq (p) (l):nz (p :: l)=if p=0 then nz l else p :: nz l:=by
 unfold nz
 rw [List.filter_cons]
 simp
theorem xN {n}:∀ {l seen} {tw},(tT n l seen tw=some false)↔(tw=false/\(∀ p ∈ l,p=0\/193<=p/\p<n)/\(nz l).Nodup/\∀ p ∈ nz l,p ∉ seen)
 | [],seen,tw=>by simp [tT,nz]
 | p :: l,seen,tw=>by
  rw [tT,Mq]
  by_cases p0:p=0
  .rw [if_pos p0,xN,if_pos p0]
   simp_all
  .rw [if_neg p0,if_neg p0]
   by_cases p1:p<193\/n<=p
   .rw [if_pos p1]
    constructor
    .simp
    .rintro ⟨a,b,c,d⟩
     have:=b p (YJ ..)
     omega
   .rw [if_neg p1,xN]
    constructor
    .rintro ⟨a,b,c,d⟩
     have ht:=by simpa using a
     rw [if_neg ht.2]at d
     refine ⟨ht.1,λq hq=>(Yb.1 hq).elim (λe=>YE (by omega)) (b q),?_,?_⟩
     .rw [Wg]
      exact ⟨λh=>d p h (by simp),c⟩
     simp_all
    .rintro ⟨a,b,c,d⟩
     rw [Wg]at c
     refine ⟨by simp_all,λq hq=>b q (YI _ hq),c.2,λq hq=>?_⟩
     intro h
     simp_all
structure gV (l:List Nat) (b n:Nat):Prop where
 lo:1<=b
 hi:b<=8
 len:l.length=b
 pl:∀ p ∈ l,p=0\/193<=p/\p<n
 nd:(nz l).Nodup
theorem mC {l} {b n}:pz l b n=0↔gV l b n:=by
 unfold pz
 by_cases h:b<1\/8<b\/l.length≠b
 .rw [if_pos h]
  constructor
  .simp
  .rintro ⟨h1,h2,h3,_,_⟩;omega
 .rw [if_neg h]
  have hi:=xN (n:=n) (l:=l) (seen:=[]) (tw:=false)
  constructor
  .intro h'
   have:tT n l [] false=some false:=by
    cases hr:tT n l [] false with
    | none=>simp_all
    | some tw=>simp_all
   obtain ⟨_,h1,h2,_⟩:=hi.1 this
   exact ⟨by omega,by omega,by omega,h1,h2⟩
  .rintro ⟨_,_,_,h1,h2⟩
   simp_all
def oe (b n:Nat):Gd->List Sn->Prop
 | _,[]=>True
 | last,s :: ss=>JW s.g last/\gV s.cF b n/\oe b n s.g ss
def AH:Gd->List Sn->Gd
 | last,[]=>last
 | _,s :: ss=>AH s.g ss
theorem Dc {b n}:∀ {ss} {last},(zN b n last ss).1=0↔oe b n last ss
 | [],last=>by simp [zN,oe]
 | s :: ss,last=>by
  rw [zN,oe]
  by_cases h1:JW s.g last
  .rw [if_pos h1]
   by_cases h2:pz s.cF b n=0
   .rw [if_pos h2,Dc]
    exact ⟨λh=>⟨h1,mC.1 h2,h⟩,λh=>h.2.2⟩
   .rw [if_neg h2]
    exact ⟨λh=>absurd h h2,λh=>absurd (mC.2 h.2.1) h2⟩
  simp_all
theorem Il {b n}:∀ {ss} {last},oe b n last ss->(zN b n last ss).2=AH last ss
 | [],last,_=>rfl
 | s :: ss,last,h=>by
  rw [zN,if_pos h.1,if_pos (mC.2 h.2.1),Il h.2.2]
  rfl
def qD (t:Tk) (last:Gd) (b n:Nat):Prop:=if t.t=(0,0) then t.b=(0,0)/\t.next=0/\t.all=0/\t.cF=[] else t.b=last/\JW t.t last/\1<=t.next/\t.next<t.all/\t.all<=b/\gV t.cF b n
theorem TW {t} {last} {b n}:lu t last b n=0↔qD t last b n:=by
 unfold lu qD
 by_cases h:t.t=(0,0)
 .simp_all
 .rw [if_neg h,if_neg h]
  by_cases h2:t.b=last/\JW t.t last/\1<=t.next/\t.next<t.all/\t.all<=b
  .rw [if_pos h2,mC]
   simp_all
  .rw [if_neg h2]
   exact ⟨λh=>(by omega),λg=>absurd ⟨g.1,g.2.1,g.2.2.1,g.2.2.2.1,g.2.2.2.2.1⟩ h2⟩
structure iX (m:MT) (b n:Nat):Prop where
 live:gV m.live b n
 num:m.aa.length<=20
 aa:oe b n (0,0) m.aa
 tok:qD m.tok (AH (0,0) m.aa) b n
theorem Mm {m} {b n}:NO m b n=0↔iX m b n:=by
 unfold NO
 by_cases h1:pz m.live b n=0
 .rw [if_pos h1]
  by_cases h2:20<m.aa.length
  .rw [if_pos h2]
   exact ⟨λh=>(by omega),λh=>absurd h.num (by omega)⟩
  .rw [if_neg h2]
   by_cases h3:(zN b n (0,0) m.aa).1=0
   .have h4:=Dc.1 h3
    rw [if_pos h3,Il h4,TW]
    exact ⟨λh=>⟨mC.1 h1,by omega,h4,h⟩,λh=>h.tok⟩
   .rw [if_neg h3]
    exact ⟨λh=>absurd h h3,λh=>absurd (Dc.2 h.aa) h3⟩
 .rw [if_neg h1]
  exact ⟨λh=>absurd h h1,λh=>absurd (mC.2 h.live) h1⟩
theorem oe.mem {b n:Nat}:∀ {ss:List Sn} {last:Gd} {s:Sn},oe b n last ss->s ∈ ss->gV s.cF b n
 | a :: ss,last,s,h,hs=>by
  rcases Yb.1 hs with rfl|hs
  .exact h.2.1
  .exact oe.mem h.2.2 hs
theorem iX.rP {m:MT} {b n:Nat} (h:iX m b n) (hn:n<=1024) (hs:∀ s ∈ m.aa,ld s.g) (hb:ld m.tok.b) (ht:ld m.tok.t):rP m:=by
 have im:∀ {l:List Nat},gV l b n->Hf l:=λ{l} g=>⟨by have:=g.len;have:=g.hi;omega,λp hp=>by have:=g.pl p hp;unfold nn;omega⟩
 obtain ⟨h1,h2,h3,h4⟩:=h
 refine ⟨im h1,by omega,λs hm=>⟨hs s hm,im (h3.mem hm)⟩,hb,ht,?_⟩
 unfold qD at h4
 split at h4
 .obtain ⟨_,a,b,c⟩:=h4
  exact ⟨by rw [a];unfold nn;omega,by rw [b];unfold nn;omega,by rw [c];exact ⟨by simp,λp hp=>by cases hp⟩⟩
 .obtain ⟨_,_,a1,a2,a3,a4⟩:=h4
  have:=h1.hi
  exact ⟨by unfold nn;omega,by unfold nn;omega,im a4⟩
theorem He (k):∀ {l},(∀ p ∈ l,p<256 ^ k)->(bj l).length<=l.length*(k+1)
 | [],_=>Yf _
 | n :: l,h=>by
  have h1:=jm k n (h n (YJ ..))
  have h2:=He k λp hp=>h p (YI _ hp)
  have e:bj (n :: l)=bE n ++ bj l:=rfl
  rw [e,YC,YH,Wi,YB0]
  omega
theorem gV.bj {l:List Nat} {b n:Nat} (h:gV l b n) (hn:n<=1024):(bj l).length<=24:=by
 have:=He 2 (l:=l) λp hp=>by have:=h.pl p hp;omega
 have:=h.len
 have:=h.hi
 omega
theorem Bc {b n} (hn:n<=1024):∀ {ss} {last},oe b n last ss->(bj (ss.flatMap uT)).length<=ss.length*44
 | [],_,_=>Yf _
 | s :: ss,last,h=>by
  have h1:=Bc hn h.2.2
  have h2:=h.2.1.bj hn
  have h3:=bI s.g.1
  have h4:=bI s.g.2
  have h5:=jm 1 (if s.hid=true then 1 else 0) (by split<;>omega)
  have e:bj ((s :: ss).flatMap uT)=bE s.g.1 ++ (bE s.g.2 ++ (bE (if s.hid=true then 1 else 0) ++ (Go.Ev.bj s.cF ++ bj (ss.flatMap uT)))):=by
   rw [Wb,lF]
   simp only [uT,Go.Ev.bj,Wb,WA]
  rw [e]
  simp only [YC,YH]
  omega
theorem iX.text {m:MT} {b n:Nat} (h:iX m b n) (hn:n<=1024):(bj (nB m)).length<=1010:=by
 obtain ⟨h1,h2,h3,h4⟩:=h
 have a1:=h1.bj hn
 have a2:=Bc hn h3
 have a3:=bI m.live.length
 have a4:=bI m.aa.length
 have a5:(Go.Ev.bj (OC m.tok)).length<=80:=by
  unfold qD at h4
  unfold OC
  by_cases ht:m.tok.t=(0,0)
  .rw [if_pos ht]
   have:=cz [0]
   simp only [YH,YO]at this
   omega
  .rw [if_neg ht]at h4 ⊢
   obtain ⟨_,_,c1,c2,c3,c4⟩:=h4
   have d1:=c4.bj hn
   have d2:=jm 1 1 (by omega)
   have d3:=bI m.tok.b.1
   have d4:=bI m.tok.b.2
   have d5:=bI m.tok.t.1
   have d6:=bI m.tok.t.2
   have d7:=jm 1 m.tok.next (by have:=h1.hi;omega)
   have d8:=jm 1 m.tok.all (by have:=h1.hi;omega)
   have e:Go.Ev.bj (1 :: m.tok.b.1 :: m.tok.b.2 :: m.tok.t.1 :: m.tok.t.2 :: m.tok.next :: m.tok.all :: m.tok.cF)=bE 1 ++ (bE m.tok.b.1 ++ (bE m.tok.b.2 ++ (bE m.tok.t.1 ++ (bE m.tok.t.2 ++ (bE m.tok.next ++ (bE m.tok.all ++ Go.Ev.bj m.tok.cF)))))):=rfl
   rw [e]
   simp only [YC]
   omega
 have e:Go.Ev.bj (nB m)=bE m.live.length ++ (Go.Ev.bj m.live ++ (bE m.aa.length ++ (Go.Ev.bj (m.aa.flatMap uT) ++ Go.Ev.bj (OC m.tok)))):=by
  simp only [nB,Go.Ev.bj,Wb,Wj]
 rw [e]
 simp only [YC]
 omega
theorem iX.enc {m:MT} (h:iX m m.live.length 1024):pH m=(bj (nB m),0):=by
 unfold pH
 have:=h.text (YB _)
 rw [if_pos (Mm.2 h),if_neg (by omega)]
theorem iX.mono {m:MT} {b n n':Nat} (h:iX m b n) (hn:n<=n'):iX m b n':=by
 have im:∀ {l:List Nat},gV l b n->gV l b n':=λ{l} g=>⟨g.lo,g.hi,g.len,λp hp=>(g.pl p hp).imp id λq=>by omega,g.nd⟩
 have sn:∀ {ss:List Sn} {last:Gd},oe b n last ss->oe b n' last ss:=λ{ss}=>by
  induction ss with
  | nil=>intro _ _;trivial
  | cons s ss ih=>intro last h;exact ⟨h.1,im h.2.1,ih h.2.2⟩
 refine ⟨im h.live,h.num,sn h.aa,?_⟩
 have h4:=h.tok
 unfold qD at h4 ⊢
 split at h4
 .rename_i ht;rw [if_pos ht];exact h4
 .rename_i ht;rw [if_neg ht];exact ⟨h4.1,h4.2.1,h4.2.2.1,h4.2.2.2.1,h4.2.2.2.2.1,im h4.2.2.2.2.2⟩
end Go.Ev
end
section
namespace Go.Ev
section
variable {cp:RC->ah} {t:Nat->Option cP} {fuel:Nat} {H:Heap}
theorem oe.all {b n:Nat}:∀ {ss:List Sn} {last:Gd},oe b n last ss->∀ s ∈ ss,gV s.cF b n
 | _,_,h,s,hs=>h.mem hs
theorem ID {v} (h:v.one=true) {id} {f}:dO id v f=f [v]:=by
 revert h;cases v<;>intro h<;>first|rfl|cases h
theorem iV {k} {e} {H} {s s'} {n}:mL [.gD s n,.tmp s'] k e H=dQ 0 (ae s e) λb o=>ec 0 H b o n λl=>k (.cH [.agg l,ae s' e]) H:=by
 show ik s e (λv=>dQ 0 v λb o=>ec 0 H b o n λl=>ik s' e λv'=>k (.cH [.agg l,v']) H)=_
 simp only [dY]
theorem yZ.step {H G G':Heap} {A B:Nat->Prop} {v:V} {ss:List Sn} {xs:List V} (h:yZ H G v ss xs) (s:Step G A G' B) (hA:∀ j,H.n<=j->j<G.n->¬ A j):yZ H G' v ss xs:=
 ⟨h.1.step s hA,h.2.1,λi s' hs=>let ⟨x,h1,h2,h3⟩:=h.2.2 i s' hs; ⟨x,h1,h2.step s hA,h3⟩⟩
theorem ee.pM {H G:Heap} {O:Nat->Prop} {v:V} {l:List Nat} (h:Own H G v 1 l.length (l.map (V.int 3))) (hO:∀ b,O b->b<H.n):ee G O v l:=h.toRow hO
set_option maxRecDepth 4000 in
theorem Fw (T:aA t) {m:MT} (hw:H.wf) (Y:iX m m.live.length 1024) (Z:rP m) (hfu:1000<fuel):
 ∃ H' vl vs vi,(∀ (d:Nat) (k:K),aj (aN cp t fuel (d+8)) (.func 92 []) [tv (bj (nB m))] H k=k (.cH [.agg (aW m vl vs vi),.int 3 0]) H')/\af H H'/\∀ O:Nat->Prop,(∀ b,O b->b<H.n)->ku H' O m vl vs vi:=by
 have htx:=Y.text (YB _)
 have Y2:=Y
 obtain ⟨yl,yn,ys,yt⟩:=Y
 have hll:=yl.hi
 have hl0:=yl.lo
 have il:∀ p ∈ m.live,p<=1024:=λp hp=>by have:=yl.pl p hp;omega
 have is:∀ s ∈ m.aa,s.cF.length=m.live.length/\ld s.g/\∀ p ∈ s.cF,p<=1024:=λs hs=>by
  have h:=ys.all s hs
  exact ⟨h.len,(Z.aa s hs).1,λp hp=>by have:=h.pl p hp;omega⟩
 obtain ⟨G1,hG1,f1,p1,n1⟩:=Heap.aO hw (.cells [.az,.az,.int 7 0,.int 7 0,.int 7 0,.int 7 0,.int 3 0,.int 3 0,.az])
 have w1:=f1.wf
 have zr:=λ{d:Nat} {k:K}=>kP (cp:=cp) (fuel:=fuel) (H:=G1) (l:=bj (nB m)) (d:=d) (k:=k) T w1 (by omega)
 generalize hA:bj (nB m)=A at htx zr
 obtain ⟨G2,hG2,f2,p2,n2⟩:=Heap.jS (m:=H.n+1) (by omega) w1 (.bytes A.length (enc A))
 obtain ⟨G3,hG3,f3,p3,n3⟩:=Heap.jS (m:=H.n+2) (by omega) f2.wf (bN (H.n+1) A 0)
 rw [n1,hG2,hG3,show H.n+1+1=H.n+2 by omega]at zr
 obtain ⟨G4,hG4,f4,p4,n4⟩:=Heap.jS (m:=H.n+3) (by omega) f3.wf (.cells [.pK])
 obtain ⟨G5,hG5,f5,p5,n5,w5,-⟩:=Heap.aU (b:=H.n+3) f4 (by omega) (by omega) (.cells [.ptr (H.n+2) 0])
 obtain ⟨G6,hG6,f6,p6,n6⟩:=Heap.jS (m:=H.n+4) (by omega) w5 (.cells [.lV])
 obtain ⟨G7,hG7,f7,p7,n7,w7,-⟩:=Heap.aU (b:=H.n+4) f6 (by omega) (by omega) (.cells [.func 244 [.ptr (H.n+3) 0]])
 obtain ⟨G8,hG8,f8,p8,n8⟩:=Heap.jS (m:=H.n+5) (by omega) w7 (.cells [.lV])
 obtain ⟨G9,hG9,f9,p9,n9,w9,-⟩:=Heap.aU (b:=H.n+5) f8 (by omega) (by omega) (.cells [.func 248 [.ptr (H.n+3) 0]])
 have hdrop:A.drop 0=bE m.live.length ++ bj (m.live ++ (m.aa.length :: (m.aa.flatMap uT ++ OC m.tok))):=by rw [<- hA];rfl
 have g9r:G9.get (H.n+2)=bN (H.n+1) A 0:=by rw [f9.same _ (by omega),f7.same _ (by omega),f5.same _ (by omega)];exact p3
 have g9b:G9.get (H.n+1) = .bytes A.length (enc A):=by rw [f9.same _ (by omega),f7.same _ (by omega),f5.same _ (by omega),f3.same _ (by omega)];exact p2
 have zn:=λ{d:Nat} {k:K}=>kQ (cp:=cp) (fuel:=fuel) (d:=d) (k:=k) T w9 g9r (by omega) g9b (by omega) (by omega) (by omega) hdrop (by omega)
 obtain ⟨Ga,hGa,fa,pa,na,wa,oa⟩:=Heap.aU (b:=H.n+2) (H0:=G1) ((f2.trans f3).trans (f5.trans (f7.trans f9))) (by omega) (by omega) (bN (H.n+1) A (0+(bE m.live.length).length))
 rw [hGa]at zn
 obtain ⟨Gb,hGb,fb,pb,nb⟩:=Heap.jS (m:=H.n+6) (by omega) wa (.cells [.int 7 0])
 obtain ⟨Gc,hGc,fc,pc,nc,wc,-⟩:=Heap.aU (b:=H.n+6) fb (by omega) (by omega) (.cells [.int 7 m.live.length])
 obtain ⟨Gd,hGd,fd,pd,nd⟩:=Heap.jS (m:=H.n+7) (by omega) wc (.cells [.lV])
 obtain ⟨E0,hE0,f0,p0,n0,w0,-⟩:=Heap.aU (b:=H.n+7) fd (by omega) (by omega) (.cells [.func 250 [.ptr (H.n+6) 0,.ptr (H.n+4) 0]])
 have fae:af Ga E0:=fc.trans f0
 have ga:∀ j,j<Ga.n->E0.get j=Ga.get j:=fae.same
 have R0:RI A (H.n+1) (H.n+2) m.live.length G1 E0 (m.live ++ (m.aa.length :: (m.aa.flatMap uT ++ OC m.tok))):=by
  refine ⟨fa.trans fae,⟨_,(ga _ (by omega)).trans pa,j8 hdrop⟩,?_,?_,?_,?_,?_,?_,by omega,by omega,by omega,by omega⟩
  .rw [ga _ (by omega),oa _ (by omega)];exact g9b
  .rw [ga _ (by omega),oa _ (by omega),f9.same _ (by omega),f7.same _ (by omega)];exact p5
  .rw [ga _ (by omega),oa _ (by omega),f9.same _ (by omega)];exact p7
  .rw [ga _ (by omega),oa _ (by omega)];exact p9
  .rw [f0.same _ (by omega)];exact pc
  .exact p0
 obtain ⟨E1,vl,R1,s1,o1,z1⟩:=np (cp:=cp) (fuel:=fuel) T R0 rfl hll il hfu
 have m1:=s1.n
 obtain ⟨E2,hE2,e2,y2,n2'⟩:=Heap.aO R1.f.wf (.cells [.az,.az,.int 7 0,.int 7 0,.int 7 0,.int 7 0,.int 3 0,.int 3 0,.az])
 generalize hY:E1.n=Y at y2 n2'
 have R2:=R1.fresh e2
 have w2:=R2.f.wf
 have R3:=R2.put (j:=Y) (y:=.cells [vl,.az,.int 7 0,.int 7 0,.int 7 0,.int 7 0,.int 3 0,.int 3 0,.az]) (by omega) (by omega)
 have t3:=Step.fB (r:=Y) (x:=.cells [vl,.az,.int 7 0,.int 7 0,.int 7 0,.int 7 0,.int 3 0,.int 3 0,.az]) w2 (by omega)
 have y3:(E2.put Y (.cells [vl,.az,.int 7 0,.int 7 0,.int 7 0,.int 7 0,.int 3 0,.int 3 0,.az])).get Y = .cells [vl,.az,.int 7 0,.int 7 0,.int 7 0,.int 7 0,.int 3 0,.int 3 0,.az]:=by rw [Heap.aE w2 (by omega),if_pos rfl]
 have k3:(E2.put Y (.cells [vl,.az,.int 7 0,.int 7 0,.int 7 0,.int 7 0,.int 3 0,.int 3 0,.az])).n=E2.n:=Heap.aR
 generalize hE3:E2.put Y (.cells [vl,.az,.int 7 0,.int 7 0,.int 7 0,.int 7 0,.int 3 0,.int 3 0,.az])=E3 at R3 t3 y3 k3
 obtain ⟨E4,R4,s4,z4⟩:=R3.num (cp:=cp) (fuel:=fuel) T (by omega) (by omega)
 have m4:=s4.n
 have y4:=(s4.same Y (by omega) (by omega)).1.trans y3
 obtain ⟨E5,vs,xs,R5,s5,O5,z5⟩:=Fx (cp:=cp) (fuel:=fuel) T R4 yn is hll hfu
 have m5:=s5.n
 have y5:=(s5.same Y (by omega) (by omega)).1.trans y4
 have w5':=R5.f.wf
 have R6:=R5.put (j:=Y) (y:=.cells [vl,vs,.int 7 0,.int 7 0,.int 7 0,.int 7 0,.int 3 0,.int 3 0,.az]) (by omega) (by omega)
 have t6:=Step.fB (r:=Y) (x:=.cells [vl,vs,.int 7 0,.int 7 0,.int 7 0,.int 7 0,.int 3 0,.int 3 0,.az]) w5' (by omega)
 have y6:(E5.put Y (.cells [vl,vs,.int 7 0,.int 7 0,.int 7 0,.int 7 0,.int 3 0,.int 3 0,.az])).get Y = .cells [vl,vs,.int 7 0,.int 7 0,.int 7 0,.int 7 0,.int 3 0,.int 3 0,.az]:=by rw [Heap.aE w5' (by omega),if_pos rfl]
 have k6:(E5.put Y (.cells [vl,vs,.int 7 0,.int 7 0,.int 7 0,.int 7 0,.int 3 0,.int 3 0,.az])).n=E5.n:=Heap.aR
 generalize hE6:E5.put Y (.cells [vl,vs,.int 7 0,.int 7 0,.int 7 0,.int 7 0,.int 3 0,.int 3 0,.az])=E6 at R6 t6 y6 k6
 have O6:=O5.step t6 λj hj _=>by omega
 have l6:Own E0 E6 vl 1 m.live.length (m.live.map (V.int 3)):=by
  have a2:=o1.fresh e2
  have a3:Own E0 E3 vl 1 m.live.length (m.live.map (V.int 3)):=by rw [<- hE3];exact a2.mK w2 (by omega) (o1.Kk (by omega))
  have a4:=a3.step s4 λj hj _=>by omega
  have a5:=a4.step s5 λj hj _=>by omega
  rw [<- hE6];exact a5.mK w5' (by omega) (o1.Kk (by omega))
 have ix:=λ{id:Nat} {k:R}=>aI o1.one (id:=id) (k:=k)
 have cx:=λ{id:Nat} {f:List V->R}=>ID o1.one (id:=id) (f:=f)
 have iy:=λ{id:Nat} {k:R}=>aI O5.1.one (id:=id) (k:=k)
 have zenc:∀ (F0:Heap) (vi:V),af H F0->F0.get Y = .cells (aW m vl vs vi)->Own E0 F0 vl 1 m.live.length (m.live.map (V.int 3))->yZ E4 F0 vs m.aa xs->Own E0 F0 vi 1 m.tok.cF.length (m.tok.cF.map (V.int 3))->Y<F0.n->F0.get H.n = .cells [.az,.az,.int 7 0,.int 7 0,.int 7 0,.int 7 0,.int 3 0,.int 3 0,.az]->
  ∃ F1 F2,(∀ {d:Nat} {k:K},aj (aN cp t fuel (d+6)) (.func 202 []) [.agg (aW m vl vs vi)] F0 k=k (.cH [tv A,.int 3 0]) F1)/\F1.get Y = .cells (aW m vl vs vi)/\F1.wf/\H.n<F1.n/\F1.get H.n = .cells [.az,.az,.int 7 0,.int 7 0,.int 7 0,.int 7 0,.int 3 0,.int 3 0,.az]/\F1.put H.n (.cells (aW m vl vs vi))=F2/\F2.get H.n = .cells (aW m vl vs vi)/\af H F2/\∀ O:Nat->Prop,(∀ b,O b->b<H.n)->ku F2 O m vl vs vi:=λF0 vi ff gy ol os ov yn gx=>by
  obtain ⟨F1,z,f⟩:=uB (cp:=cp) (fuel:=fuel) (O:=λ_=>False) T ff.wf ⟨ee.pM ol λ_ h=>h.elim,os.at_ λ_ h=>h.elim,ee.pM ov λ_ h=>h.elim⟩ Z hfu
  rw [Y2.enc,hA]at z
  have fn:=f.n
  have hx:H.n<F1.n:=by omega
  obtain ⟨F2,hF2,f2',q2,r2,w2',o2⟩:=Heap.aU (b:=H.n) (ff.trans f) (YB _) hx (.cells (aW m vl vs vi))
  refine ⟨F1,F2,λ{d k}=>z d k,(f.same _ yn).trans gy,f.wf,hx,(f.same _ (by omega)).trans gx,hF2,q2,f2',λO hO=>?_⟩
  have st:Step F1 (λb=>b=H.n) F2 (λb=>b=H.n):=by rw [<- hF2];exact Step.fB f.wf hx
  exact ⟨ee.pM ((ol.fresh f).step st λj hj _=>by omega) λb hb=>by have:=hO b hb;omega,((os.step f.step λj hj _ h=>h).step st λj hj _=>by omega).at_ λb hb=>by have:=hO b hb;omega,ee.pM ((ov.fresh f).step st λj hj _=>by omega) λb hb=>by have:=hO b hb;omega⟩
 have x0:∀ (F:Heap),af G1 F->F.get H.n = .cells [.az,.az,.int 7 0,.int 7 0,.int 7 0,.int 7 0,.int 3 0,.int 3 0,.az]:=λF f=>(f.same _ (by omega)).trans p1
 have n3':G3.n=H.n+3:=by omega
 have n5':G5.n=H.n+4:=by omega
 have n7':G7.n=H.n+5:=by omega
 have na':Ga.n=H.n+6:=by omega
 have nc':Gc.n=H.n+7:=by omega
 have u4:H.n+3<G4.n:=by omega
 have u6:H.n+4<G6.n:=by omega
 have u8:H.n+5<G8.n:=by omega
 have ub:H.n+6<Gb.n:=by omega
 have ud:H.n+7<Gd.n:=by omega
 have u2:Y<E2.n:=by omega
 have uy5:Y<E5.n:=by omega
 have w3:=f3.wf
 have w4:=f4.wf
 have w6:=f6.wf
 have w8:=f8.wf
 have wb':=fb.wf
 have wd':=fd.wf
 have w1':=R1.f.wf
 have g5R:G9.get (H.n+3) = .cells [.ptr (H.n+2) 0]:=by rw [f9.same _ (by omega),f7.same _ (by omega)];exact p5
 have gR3:=R3.gR
 have gN6:=R6.gN
 have z1:=λ{d:Nat} {k:K}=>z1 (d:=d) (k:=k)
 by_cases ht:m.tok.t=(0,0)
 .have hN:OC m.tok=[0]:=by unfold OC;rw [if_pos ht]
  rw [hN]at R6
  obtain ⟨E7,R7,s7,z7⟩:=jZ (cp:=cp) (fuel:=fuel) T R6 (by omega) (by omega)
  unfold qD at yt
  rw [if_pos ht]at yt
  obtain ⟨t1,t2,t3',t4⟩:=yt
  have hT:aW m vl vs .az=[vl,vs,.int 7 0,.int 7 0,.int 7 0,.int 7 0,.int 3 0,.int 3 0,.az]:=by
   simp only [aW,bq,ht,t1,t2,t3']
  have y7:=(s7.same Y (by omega) (by omega)).1.trans y6
  have m7:=s7.n
  obtain ⟨F1,F2,ze,gy,fw,fx,gx,hF2,g2,ff,M⟩:=zenc E7 .az (f1.trans R7.f) (by rw [hT];exact y7) (l6.step s7 λj hj _=>by omega) (O6.step s7 λj hj _=>by omega) (by rw [t4];exact Own.nil) (by omega) (x0 _ R7.f)
  rw [hT]at gy hF2 g2 ze
  refine ⟨F2,vl,vs,.az,λd k=>?_,ff,M⟩
  have z7:=λ{d:Nat} {k:K}=>z7 (d:=d) (k:=k)
  rw [hT,aJ T.k46 rfl rfl]
  simp only [go_sem,c46,PA,hw,hG1,↓zr,n3',w3,hG4,p4,u4,w4,hG5]
  simp only [go_sem,PB,w5,n5',hG6,p6,u6,w6,hG7]
  simp only [go_sem,PC,w7,n7',hG8,p8,u8,w8,hG9]
  simp only [go_sem,PE,g5R,↓zn,wa,na',hGb,pb,ub,wb',hGc]
  simp only [go_sem,PF,wc,nc',hGd,pd,ud,wd',hE0]
  simp only [go_sem,PG,p0,↓z1,↓ix,↓cx,w1',hY,hE2,y2,u2,w2,hE3]
  simp only [go_sem,PH,gR3,↓z4,↓z5,↓iy,y5,uy5,w5',hE6]
  simp only [go_sem,PI,gN6,↓z7]
  simp only [go_sem,PJ,y7,↓ze]
  simp only [go_sem,Jj,tv]
  simp only [go_sem,Jk,Jl,gy,gx,fw,fx,hF2,↓iV,g2,↓ix,↓iy]
 .have hN:OC m.tok=1 :: m.tok.b.1 :: m.tok.b.2 :: m.tok.t.1 :: m.tok.t.2 :: m.tok.next :: m.tok.all :: (m.tok.cF ++ []):=by unfold OC;rw [if_neg ht,YR]
  rw [hN]at R6
  unfold qD at yt
  rw [if_neg ht]at yt
  obtain ⟨-,-,t1,t2,t3,t4⟩:=yt
  have it:∀ p ∈ m.tok.cF,p<=1024:=λp hp=>by have:=t4.pl p hp;omega
  obtain ⟨E7,R7,s7,z7⟩:=jZ (cp:=cp) (fuel:=fuel) T R6 (by omega) (by omega)
  obtain ⟨E8,R8,s8,z8⟩:=rb (cp:=cp) (fuel:=fuel) T R7 Z.tok.1 (by omega)
  have s68:=s7.trans s8
  have m8:=s68.n
  have y8:=(s68.same Y (by omega) (by omega)).1.trans y6
  obtain ⟨E9,hE9,e9,p9',n9'⟩:=Heap.aO R8.f.wf (.cells [.int 7 0,.int 7 0,.int 7 0,.int 7 0,.int 3 0,.int 3 0,.az])
  generalize hZ:E8.n=Zb at p9' n9'
  have R9:=R8.fresh e9
  have w9':=R9.f.wf
  have w8':=R8.f.wf
  have v9:Zb<E9.n:=by omega
  have R10:=R9.put (j:=Zb) (y:=.cells [.int 7 m.tok.b.1,.int 7 m.tok.b.2,.int 7 0,.int 7 0,.int 3 0,.int 3 0,.az]) (by omega) v9
  have t10:=Step.fB (r:=Zb) (x:=.cells [.int 7 m.tok.b.1,.int 7 m.tok.b.2,.int 7 0,.int 7 0,.int 3 0,.int 3 0,.az]) w9' v9
  have q10:(E9.put Zb (.cells [.int 7 m.tok.b.1,.int 7 m.tok.b.2,.int 7 0,.int 7 0,.int 3 0,.int 3 0,.az])).get Zb = .cells [.int 7 m.tok.b.1,.int 7 m.tok.b.2,.int 7 0,.int 7 0,.int 3 0,.int 3 0,.az]:=by rw [Heap.aE w9' v9,if_pos rfl]
  have k10:(E9.put Zb (.cells [.int 7 m.tok.b.1,.int 7 m.tok.b.2,.int 7 0,.int 7 0,.int 3 0,.int 3 0,.az])).n=E9.n:=Heap.aR
  generalize hE10:E9.put Zb (.cells [.int 7 m.tok.b.1,.int 7 m.tok.b.2,.int 7 0,.int 7 0,.int 3 0,.int 3 0,.az])=E10 at R10 t10 q10 k10
  obtain ⟨E11,R11,s11,z11⟩:=rb (cp:=cp) (fuel:=fuel) T R10 Z.tok.2.1 (by omega)
  have m11:=s11.n
  have q11:=(s11.same Zb (by omega) (by omega)).1.trans q10
  have w11:=R11.f.wf
  have v11:Zb<E11.n:=by omega
  have R12:=R11.put (j:=Zb) (y:=.cells [.int 7 m.tok.b.1,.int 7 m.tok.b.2,.int 7 m.tok.t.1,.int 7 m.tok.t.2,.int 3 0,.int 3 0,.az]) (by omega) v11
  have t12:=Step.fB (r:=Zb) (x:=.cells [.int 7 m.tok.b.1,.int 7 m.tok.b.2,.int 7 m.tok.t.1,.int 7 m.tok.t.2,.int 3 0,.int 3 0,.az]) w11 v11
  have q12:(E11.put Zb (.cells [.int 7 m.tok.b.1,.int 7 m.tok.b.2,.int 7 m.tok.t.1,.int 7 m.tok.t.2,.int 3 0,.int 3 0,.az])).get Zb = .cells [.int 7 m.tok.b.1,.int 7 m.tok.b.2,.int 7 m.tok.t.1,.int 7 m.tok.t.2,.int 3 0,.int 3 0,.az]:=by rw [Heap.aE w11 v11,if_pos rfl]
  have k12:(E11.put Zb (.cells [.int 7 m.tok.b.1,.int 7 m.tok.b.2,.int 7 m.tok.t.1,.int 7 m.tok.t.2,.int 3 0,.int 3 0,.az])).n=E11.n:=Heap.aR
  generalize hE12:E11.put Zb (.cells [.int 7 m.tok.b.1,.int 7 m.tok.b.2,.int 7 m.tok.t.1,.int 7 m.tok.t.2,.int 3 0,.int 3 0,.az])=E12 at R12 t12 q12 k12
  obtain ⟨E13,R13,s13,z13⟩:=jZ (cp:=cp) (fuel:=fuel) T R12 (by omega) (by omega)
  have m13:=s13.n
  have q13:=(s13.same Zb (by omega) (by omega)).1.trans q12
  have w13:=R13.f.wf
  have v13:Zb<E13.n:=by omega
  have R14:=R13.put (j:=Zb) (y:=.cells [.int 7 m.tok.b.1,.int 7 m.tok.b.2,.int 7 m.tok.t.1,.int 7 m.tok.t.2,.int 3 m.tok.next,.int 3 0,.az]) (by omega) v13
  have t14:=Step.fB (r:=Zb) (x:=.cells [.int 7 m.tok.b.1,.int 7 m.tok.b.2,.int 7 m.tok.t.1,.int 7 m.tok.t.2,.int 3 m.tok.next,.int 3 0,.az]) w13 v13
  have q14:(E13.put Zb (.cells [.int 7 m.tok.b.1,.int 7 m.tok.b.2,.int 7 m.tok.t.1,.int 7 m.tok.t.2,.int 3 m.tok.next,.int 3 0,.az])).get Zb = .cells [.int 7 m.tok.b.1,.int 7 m.tok.b.2,.int 7 m.tok.t.1,.int 7 m.tok.t.2,.int 3 m.tok.next,.int 3 0,.az]:=by rw [Heap.aE w13 v13,if_pos rfl]
  have k14:(E13.put Zb (.cells [.int 7 m.tok.b.1,.int 7 m.tok.b.2,.int 7 m.tok.t.1,.int 7 m.tok.t.2,.int 3 m.tok.next,.int 3 0,.az])).n=E13.n:=Heap.aR
  generalize hE14:E13.put Zb (.cells [.int 7 m.tok.b.1,.int 7 m.tok.b.2,.int 7 m.tok.t.1,.int 7 m.tok.t.2,.int 3 m.tok.next,.int 3 0,.az])=E14 at R14 t14 q14 k14
  obtain ⟨E15,R15,s15,z15⟩:=jZ (cp:=cp) (fuel:=fuel) T R14 (by omega) (by omega)
  have m15:=s15.n
  have q15:=(s15.same Zb (by omega) (by omega)).1.trans q14
  have w15:=R15.f.wf
  have v15:Zb<E15.n:=by omega
  have R16:=R15.put (j:=Zb) (y:=.cells [.int 7 m.tok.b.1,.int 7 m.tok.b.2,.int 7 m.tok.t.1,.int 7 m.tok.t.2,.int 3 m.tok.next,.int 3 m.tok.all,.az]) (by omega) v15
  have t16:=Step.fB (r:=Zb) (x:=.cells [.int 7 m.tok.b.1,.int 7 m.tok.b.2,.int 7 m.tok.t.1,.int 7 m.tok.t.2,.int 3 m.tok.next,.int 3 m.tok.all,.az]) w15 v15
  have q16:(E15.put Zb (.cells [.int 7 m.tok.b.1,.int 7 m.tok.b.2,.int 7 m.tok.t.1,.int 7 m.tok.t.2,.int 3 m.tok.next,.int 3 m.tok.all,.az])).get Zb = .cells [.int 7 m.tok.b.1,.int 7 m.tok.b.2,.int 7 m.tok.t.1,.int 7 m.tok.t.2,.int 3 m.tok.next,.int 3 m.tok.all,.az]:=by rw [Heap.aE w15 v15,if_pos rfl]
  have k16:(E15.put Zb (.cells [.int 7 m.tok.b.1,.int 7 m.tok.b.2,.int 7 m.tok.t.1,.int 7 m.tok.t.2,.int 3 m.tok.next,.int 3 m.tok.all,.az])).n=E15.n:=Heap.aR
  generalize hE16:E15.put Zb (.cells [.int 7 m.tok.b.1,.int 7 m.tok.b.2,.int 7 m.tok.t.1,.int 7 m.tok.t.2,.int 3 m.tok.next,.int 3 m.tok.all,.az])=E16 at R16 t16 q16 k16
  obtain ⟨E17,vi,R17,s17,o17,z17⟩:=np (cp:=cp) (fuel:=fuel) T R16 t4.len (by have:=t4.len;omega) it hfu
  have m17:=s17.n
  have q17:=(s17.same Zb (by omega) (by omega)).1.trans q16
  have w17:=R17.f.wf
  have v17:Zb<E17.n:=by omega
  have R18:=R17.put (j:=Zb) (y:=.cells (bq m.tok vi)) (by omega) v17
  have t18:=Step.fB (r:=Zb) (x:=.cells (bq m.tok vi)) w17 v17
  have q18:(E17.put Zb (.cells (bq m.tok vi))).get Zb = .cells (bq m.tok vi):=by rw [Heap.aE w17 v17,if_pos rfl]
  have k18:(E17.put Zb (.cells (bq m.tok vi))).n=E17.n:=Heap.aR
  generalize hE18:E17.put Zb (.cells (bq m.tok vi))=E18 at R18 t18 q18 k18
  have sw:∀ {B C:Heap} {a:Nat},Step B (λb=>b=a) C (λb=>b=a)->(a=Zb\/a=H.n+2)->Step B (λb=>b=Zb\/b=H.n+2) C (λb=>b=Zb\/b=H.n+2):=λ{B C a} s ha=>
   ⟨s.wf,s.n,λb hb ho=>⟨(s.same b hb λe=>ho (by rw [e];exact ha)).1,ho⟩,λlo h1 h2 h3=>⟨(s.lo lo h1 h2 λb hb=>h3 b (by rw [hb];exact ha)).1,h3⟩⟩
  have big:Step E6 (λb=>b=Zb\/b=H.n+2) E18 (λb=>b=Zb\/b=H.n+2):=(sw s68 (YE rfl)).trans (e9.step.trans ((sw t10 (YG rfl)).trans ((sw s11 (YE rfl)).trans ((sw t12 (YG rfl)).trans ((sw s13 (YE rfl)).trans ((sw t14 (YG rfl)).trans ((sw s15 (YE rfl)).trans ((sw t16 (YG rfl)).trans ((sw s17 (YE rfl)).trans (sw t18 (YG rfl)))))))))))
  have y18:=(big.same Y (by omega) (by omega)).1.trans y6
  have w18:=R18.f.wf
  have v18:Y<E18.n:=by omega
  obtain ⟨E19,hE19,t19,g19,n19⟩:∃ E19,E18.put Y (.cells (aW m vl vs vi))=E19/\Step E18 (λb=>b=Y) E19 (λb=>b=Y)/\E19.get Y = .cells (aW m vl vs vi)/\E19.n=E18.n:=⟨_,rfl,Step.fB w18 v18,by rw [Heap.aE w18 v18,if_pos rfl],Heap.aR⟩
  have l18:=l6.step big λj hj hj2=>by omega
  have O18:=O6.step big λj hj hj2=>by omega
  have l19:Own E0 E19 vl 1 m.live.length (m.live.map (V.int 3)):=by rw [<- hE19];exact l18.mK w18 v18 (o1.Kk (by omega))
  have O19:=O18.step t19 λj hj _=>by omega
  have v19:Own E0 E19 vi 1 m.tok.cF.length (m.tok.cF.map (V.int 3)):=((o17.step t18 λj hj _=>by omega).step t19 λj hj _=>by omega).sub (by omega)
  have f19:af G1 E19:=by rw [<- hE19];exact R18.f.put (by omega) v18
  have iz:=λ{id:Nat} {k:R}=>aI o17.one (id:=id) (k:=k)
  obtain ⟨F1,F2,ze,gy,fw,fx,gx,hF2,g2,ff,M⟩:=zenc E19 vi (f1.trans f19) g19 l19 O19 v19 (by omega) (x0 _ f19)
  refine ⟨F2,vl,vs,vi,λd k=>?_,ff,M⟩
  have z7:=λ{d:Nat} {k:K}=>z7 (d:=d) (k:=k)
  have z8:=λ{d:Nat} {k:K}=>z8 (d:=d) (k:=k)
  have z11:=λ{d:Nat} {k:K}=>z11 (d:=d) (k:=k)
  have gQ7:=R7.gQ
  have gQ10:=R10.gQ
  have gN12:=R12.gN
  have gN14:=R14.gN
  have gP16:=R16.gP
  simp only [aS]at z8 z11
  simp only [bq]at hE18 q18
  simp only [aW,bq]at hE19 g19 gy hF2 g2 ze
  rw [aJ T.k46 rfl rfl]
  simp only [go_sem,c46,PA,hw,hG1,↓zr,n3',w3,hG4,p4,u4,w4,hG5]
  simp only [go_sem,PB,w5,n5',hG6,p6,u6,w6,hG7]
  simp only [go_sem,PC,w7,n7',hG8,p8,u8,w8,hG9]
  simp only [go_sem,PE,g5R,↓zn,wa,na',hGb,pb,ub,wb',hGc]
  simp only [go_sem,PF,wc,nc',hGd,pd,ud,wd',hE0]
  simp only [go_sem,PG,p0,↓z1,↓ix,↓cx,w1',hY,hE2,y2,u2,w2,hE3]
  simp only [go_sem,PH,gR3,↓z4,↓z5,↓iy,y5,uy5,w5',hE6]
  simp only [go_sem,PI,gN6,↓z7,gQ7,↓z8,w8',hZ,hE9,p9',v9,w9',hE10,gQ10,↓z11,q11,w11,v11,hE12,gN12,↓z13,q13,w13,v13,hE14,gN14,↓z15,q15,w15,v15,hE16,gP16,↓z17,↓iz,q17,w17,v17,hE18,q18,y18,w18,v18,hE19]
  simp only [go_sem,PJ,g19,↓ze]
  simp only [go_sem,Jj,tv]
  simp only [go_sem,Jk,Jl,gy,gx,fw,fx,hF2,↓iV,g2,↓ix,↓iy,↓iz,aW,bq]
end
end Go.Ev
end
section
namespace Go.Ev
theorem Ao:∀ {ss} {xs} {i} {x},i<ss.length->i<xs.length->(dU ss xs).set (i*4+2) x=dU ss (xs.set i x)
 | [],_,i,_,h,_=>by rfl
 | _ :: _,[],i,_,_,h=>by rfl
 | a :: ss,b :: xs,0,x,_,_=>rfl
 | a :: ss,b :: xs,i+1,x,h,h'=>by
  rw [show (i+1)*4+2=(i*4+2)+4 by omega]
  show bJ a b ++ (dU ss xs).set (i*4+2) x=_
  rw [Ao (by simp_all) (by simp_all)]
  rfl
theorem An:∀ {ss} {xs},xs.length=ss.length->(dU ss xs).length=ss.length*4
 | [],[],_=>rfl
 | [],_ :: _,h=>by rfl
 | _ :: _,[],h=>by simp_all
 | a :: ss,b :: xs,h=>by
  have:=An (by simpa using h)
  simp only [dU,bJ,YC,YH,YO,this]
  omega
section
variable {cp:RC->ah} {t:Nat->Option cP} {fuel:Nat} {H:Heap} {O:Nat->Prop}
theorem EK (T:aA t) {n} {v} {row} (hw:H.wf) (h:Row H O v 4 n row) (hn:n<1000000):
 ∃ H' v',(∀ (d) (k),aj (aN cp t fuel (d+1)) (.func 400 []) [v] H k=k v' H')/\af H H'/\Own H H' v' 4 n row:=tG T.aer hw h hn
theorem SY (T:aA t) {v:V} {ss:List Sn} {xs:List V} {B:Nat} {bc:List V} {G0:Heap} (hn:ss.length<1000) (him:∀ s ∈ ss,Hf s.cF) (hxl:xs.length=ss.length) (hx:∀ (i:Nat) (s:Sn),ss[i]? = some s->∃ x,xs[i]? = some x/\ee H O x s.cF) (f0:af H G0) {H1:Heap} (hH1:H.n<=H1.n) (hH2:H1.n<=G0.n)
 (o0:Own H1 G0 v 4 ss.length (dU ss xs)) (gB:G0.get B = .cells bc) {v0:V} (hv0:v=v0) (hB:B<G0.n) (hb1:bc[1]? = some v0) (hHB:H.n<=B) (oB:js v B) (hfu:1000<fuel) {C:Nat} {cc:List V} (gC:G0.get C = .cells cc) (hC:C<G0.n) (oC:js v C) (b8:List V):
 ∃ G' ns,af H G'/\yZ H1 G' v ss ns/\G'.get B = .cells bc/\G'.get C = .cells cc/\G0.n<=G'.n/\(∀ j,j<G0.n->js v j->G'.get j=G0.get j)/\∀ (d:Nat) (kx:Nat->KE) (e:Env) (x:R),ae s001 e = .ptr B 0->ae s002 e = .ptr C 0->ae s016 e=v->ae s017 e = .int 3 ss.length->ae s020 e = .int 3 0->
  (∀ e',ae s001 e' = .ptr B 0->ae s002 e' = .ptr C 0->kx 1 e' G'=x)->jQ wM fuel (aN cp t fuel (d+2)) kx fuel e G0=x:=by
 have nl:nn ss.length:=by unfold nn;omega
 obtain ⟨ns,G',⟨f',o',nl',ho',gB',gC',hn',hk'⟩,z⟩:=bA (c:=wM) (ph:=λd=>aN cp t fuel (d+2))
  (I:=λi ns G=>af H G/\Own H1 G v 4 ss.length (dU ss (ns ++ xs.drop i))/\ns.length=i/\(∀ (j) (s),j<i->ss[j]? = some s->∃ x,ns[j]? = some x/\Own H1 G x 1 s.cF.length (s.cF.map (V.int 3))/\∀ b o n c s,x = .slice b o n c s->js v b)/\G.get B = .cells bc/\G.get C = .cells cc/\G0.n<=G.n/\∀ j,j<G0.n->js v j->G.get j=G0.get j)
  (S:=λi ns e=>ae s001 e = .ptr B 0/\ae s002 e = .ptr C 0/\ae s016 e=v/\ae s017 e = .int 3 ss.length/\ae s020 e = .int 3 i) (λi ns G hil ⟨f,o,hnl,hov,gB,gC,hGn,hGk⟩=>by
   have hw:=f.wf
   have hsi:ss[i]? = some ss[i]:=YA hil
   have hmem:=him _ (YW hil)
   obtain ⟨x,hxi,hI⟩:=hx i _ hsi
   generalize ss[i]=s at hsi hmem hI
   have hli:i<(ns ++ xs.drop i).length:=by grind
   have hgx:(ns ++ xs.drop i)[i]? = some x:=by grind
   have hel:(dU ss (ns ++ xs.drop i)).length=ss.length*4:=An (by grind)
   obtain ⟨bs,c,z,l,rfl,gbs,hbs,hbn,hll,hput⟩:=o.put hw (by intro e;rw [e]at hel;simp at hel;omega)
   have hrow:(l.drop (i*4)).take 4=bJ s x:=by
    have h1:=sA hsi hgx
    obtain ⟨_,_,⟨h,_⟩|⟨b',c',s',rest,h,g',_⟩⟩:=o
    .cases h
    grind
   obtain ⟨G1,hG1,f1,p1,n1⟩:=Heap.aO hw (.cells [.int 7 0,.int 7 0,.az,.bool false])
   obtain ⟨G2,hG2,f2,p2,n2,w2,-⟩:=Heap.aU f1 (YB _) (by omega) (.cells (bJ s x))
   obtain ⟨Gm,G3,x',z3,hu3,hl3,f3,ox⟩:=aeI (gH (cp:=cp) (fuel:=fuel) T (by rw [Heap.dm];exact w2) (((hI.fresh f).fresh f2).fresh (af.Sr w2)) (by have:=hmem.1;omega))
   have f03:=f.trans (f2.trans f3)
   have m3:=f3.n
   have w3:=f3.wf
   have k3:∀ j,j<G.n->G3.get j=G.get j:=λj hj=>(f3.same _ (by omega)).trans (f2.same _ hj)
   have gb3:=(k3 _ hbn).trans gbs
   have o3:=(o.fresh f2).fresh f3
   obtain ⟨b3,c3,z3',l3,e3,gb3',hbs3,hbn3,hll3,hput3⟩:=o3.put w3 (by intro e;rw [e]at hel;simp at hel;omega)
   cases e3
   rw [gb3]at gb3'
   simp only [eK.cells.injEq]at gb3'
   subst gb3'
   obtain ⟨n4,o4,k4⟩:=hput3 (i*4+2) x' (by omega) ox.one
   have f4:=f03.put (x:=.cells (l.set (i*4+2) x')) (Yr hH1 hbs3) hbn3
   rw [Ao hil hli,List.set_append_right _ _ (by omega),hnl,QR,Ws (by omega),List.set_cons_zero]at o4
   generalize hG4:G3.put bs (.cells (l.set (i*4+2) x'))=G4 at f4 n4 o4 k4
   have t4:Step G3 (λb=>b=bs) G4 (λb=>b=bs):=by rw [<- hG4];exact Step.fB w3 hbn3
   have hi:=λ{id} {k}=>aI hI.one (id:=id) (k:=k)
   have hi':=λ{id} {k}=>aI ox.one (id:=id) (k:=k)
   have a1:nn i:=by unfold nn;omega
   have a2:i<9223372036854775808:=by omega
   have a3:(i+1)%18446744073709551616=i+1:=by omega
   have a4:G.n<G1.n:=by omega
   have a5:i*4<=l.length:=by omega
   have a6:4<=(l.drop (i*4)).length:=by rw [List.length_drop];omega
   have a7:i*4+2<l.length:=by omega
   have a8:=oB _ _ _ _ _ rfl
   have a9:=oC _ _ _ _ _ rfl
   have a10:=by omega
   have w1:=f1.wf
   have gB2:=(f2.same _ (by omega)).trans gB
   have gB2':=gB2
   have hnt:∀ {id} {k},nth id bc 1 k=k v0:=jT hb1
   have p2':=p2
   have z3:=λ{d} {k}=>z3 d k
   refine ⟨ns ++ [x'],G4,⟨f4,by rw [WA];exact o4,by simp [hnl],λj s' hj hs'=>?_,?_,?_,by omega,λj hj ho=>?_⟩,λd kx r e y ⟨q1,q2,q16,q17,q20⟩ hk=>?_⟩
   .by_cases hji:j<i
    .obtain ⟨y,b1,b2,b3⟩:=hov j s' hji hs'
     refine ⟨y,by grind,((b2.fresh f2).fresh f3).jk (by omega) (λq hq ho=>k4 q (ho _ _ _ _ _ rfl)) b3,b3⟩
    .obtain rfl:j=i:=by omega
     rw [hsi]at hs'
     cases hs'
     refine ⟨x',by grind,(ox.sub (by omega)).jk (by omega) (v:=.slice bs 0 ss.length c z) (λq hq ho=>k4 q (ho _ _ _ _ _ rfl)) (λb o n c s e b' o' n' c' s' e'=>by cases e';have:=(ox.db e).1;omega),λb o n c s e b' o' n' c' s' e'=>by cases e';have:=(ox.db e).1;omega⟩
   .rw [k4 _ a8,k3 _ (by omega)];exact gB
   .rw [k4 _ a9,k3 _ (by omega)];exact gC
   .rw [k4 _ (ho _ _ _ _ _ rfl),k3 _ (by omega)];exact hGk j hj ho
   simp only [bJ]at hrow hG2 p2
   rw [ak]
   simp only [go_sem,wM,q1,q16,q17,q20,hil,nl,a1,a2,a3,a4,gbs,a5,a6,hrow,hw,↓hi,↓hi',hG1,p1,w1,hG2,p2,gB2,↓hnt,↓z3,hu3,hl3,gb3,a7,w3,hbn3,hG4,<- hv0]
   exact hk _ (by simp only [go_sem,q1,q2,q16,q17])) ss.length 0 [] G0 (by omega) ⟨f0,by simpa using o0,rfl,λj s hj=>by omega,gB,gC,YB _,λ_ _ _=>rfl⟩
 rw [List.drop_of_length_le (by omega),YR]at o'
 refine ⟨G',ns,f',⟨o',nl',λj s hs=>ho' j s (Yo.1 hs).1 hs⟩,gB',gC',hn',hk',λd kx e x q1 q2 q16 q17 q20 hk=>z d kx fuel e x (by omega) ⟨q1,q2,q16,q17,q20⟩ λr e' ⟨q1,q2,q16,q17,q20⟩=>?_⟩
 have e6:¬ ss.length<ss.length:=by omega
 rw [ak]
 simp only [go_sem,wM,q17,q20,nl,e6]
 exact hk _ q1 q2
structure MO (H G:Heap) (m:MT) (vl vs vi:V):Prop where
 live:Own H G vl 1 m.live.length (m.live.map (V.int 3))
 aa:∃ xs,yZ H G vs m.aa xs
 cF:Own H G vi 1 m.tok.cF.length (m.tok.cF.map (V.int 3))
 dl:∀ b o n c s,vl = .slice b o n c s->js vs b
 di:∀ b o n c s,vi = .slice b o n c s->js vs b
theorem MO.at_ {H G:Heap} {m:MT} {vl vs vi:V} {O:Nat->Prop} (h:MO H G m vl vs vi) (hO:∀ b,O b->b<H.n):ku G O m vl vs vi:=⟨ee.pM h.live hO,let ⟨_,h⟩:=h.aa;h.at_ hO,ee.pM h.cF hO⟩
theorem MO.one {H G:Heap} {m:MT} {vl vs vi:V} (h:MO H G m vl vs vi):vl.one=true/\vs.one=true/\vi.one=true:=⟨h.live.one,let ⟨_,h⟩:=h.aa;h.1.one,h.cF.one⟩
set_option maxRecDepth 4000 in
theorem OL (T:aA t) {m:MT} {vl vs vi:V} (hw:H.wf) (M:ku H O m vl vs vi) (Y:rP m) (hfu:1000<fuel):
 ∃ H' vl' vs' vi',(∀ (d:Nat) (k:K),aj (aN cp t fuel (d+3)) (.func 284 []) [.agg (aW m vl vs vi)] H k=k (.agg (aW m vl' vs' vi')) H')/\af H H'/\MO H H' m vl' vs' vi':=by
 obtain ⟨Ml,⟨xs,hR,hxl,hX⟩,Mi⟩:=M
 have l1:=Y.live.1
 have l2:=Y.num
 have l3:=Y.tok.2.2.2.2.1
 have i1:=λ{id} {k}=>aI Ml.one (id:=id) (k:=k)
 have i2:=λ{id} {k}=>aI hR.one (id:=id) (k:=k)
 have i3:=λ{id} {k}=>aI Mi.one (id:=id) (k:=k)
 obtain ⟨G1,hG1,f1,p1,n1⟩:=Heap.aO hw (.cells (aW m vl vs vi))
 obtain ⟨G2,hG2,f2,p2,n2⟩:=Heap.jS n1 f1.wf (.cells [.az,.az,.int 7 0,.int 7 0,.int 7 0,.int 7 0,.int 3 0,.int 3 0,.az])
 have q2:=(f2.same _ (by omega)).trans p1
 have f02:=f1.trans f2
 obtain ⟨G3,vl',z3,f3,o3⟩:=gH (cp:=cp) (fuel:=fuel) T f02.wf (Ml.fresh f02) (by omega)
 have j1:=λ{id} {k}=>aI o3.one (id:=id) (k:=k)
 have m3:=f3.n
 have q3:=(f3.same _ (by omega)).trans q2
 have r3:=(f3.same _ (by omega)).trans p2
 obtain ⟨G4,hG4,f4,p4,n4,w4,k4⟩:=Heap.aU (f02.trans f3) (YB _) (by omega) (.cells (aW m vl' vs vi))
 have o4:Own G2 G4 vl' 1 m.live.length (m.live.map (V.int 3)):=by rw [<- hG4];exact o3.mK f3.wf (by omega) (o3.off (by omega))
 have r4:=(k4 (H.n+1) (by omega)).trans r3
 obtain ⟨G5,vs',z5,f5,o5⟩:=EK (cp:=cp) (fuel:=fuel) T w4 (hR.fresh f4) (by omega)
 have j2:=λ{id} {k}=>aI o5.one (id:=id) (k:=k)
 have m5:=f5.n
 have q5:=(f5.same _ (by omega)).trans p4
 have r5:=(f5.same (H.n+1) (by omega)).trans r4
 obtain ⟨G6,hG6,f6,p6,n6,w6,k6⟩:=Heap.aU (f4.trans f5) (YB _) (by omega) (.cells (aW m vl' vs' vi))
 have o6:Own G4 G6 vs' 4 m.aa.length (dU m.aa xs):=by rw [<- hG6];exact o5.mK f5.wf (by omega) (o5.off (by omega))
 have r6:=(k6 (H.n+1) (by omega)).trans r5
 have ol6:Own G2 G6 vl' 1 m.live.length (m.live.map (V.int 3)):=by rw [<- hG6];exact (o4.fresh f5).mK f5.wf (by omega) (o3.off (by omega))
 have oX:js vs' H.n:=o5.off (by omega)
 have oX1:js vs' (H.n+1):=o5.off (by omega)
 obtain ⟨G7,ns,f7,o7,g7,r7,n7,k7,z7⟩:=SY T l2 (λs hs=>(Y.aa s hs).2) hxl hX f6 (by omega) (by omega) o6 p6 rfl (by omega) rfl (YB _) oX hfu r6 (by omega) oX1 []
 have m7:=by omega
 have oV:∀ b o n c s,vl' = .slice b o n c s->js vs' b:=λb o n c s e=>o5.off (by have:=(o4.db e).2;omega)
 have ol7:=ol6.jk n7 k7 oV
 obtain ⟨G8,vi',z8,f8,o8⟩:=gH (cp:=cp) (fuel:=fuel) T f7.wf (Mi.fresh f7) (by omega)
 have j3:=λ{id} {k}=>aI o8.one (id:=id) (k:=k)
 have m8:=f8.n
 have q8:=(f8.same _ (by omega)).trans g7
 have r8:=(f8.same (H.n+1) (by omega)).trans r7
 obtain ⟨G9,hG9,f9,p9,n9,w9,k9⟩:=Heap.aU (f7.trans f8) (YB _) (by omega) (.cells (aW m vl' vs' vi'))
 have r9:=(k9 (H.n+1) (by omega)).trans r8
 obtain ⟨Ga,hGa,fa,pa,na,wa,ka⟩:=Heap.aU (b:=H.n+1) f9 (by omega) (by omega) (.cells (aW m vl' vs' vi'))
 have s9:Step G8 (λb=>b=H.n) G9 (λb=>b=H.n):=by rw [<- hG9];exact Step.fB f8.wf (by omega)
 have sa:Step G9 (λb=>b=H.n+1) Ga (λb=>b=H.n+1):=by rw [<- hGa];exact Step.fB w9 (by omega)
 refine ⟨Ga,vl',vs',vi',λd k=>?_,fa,⟨?_,⟨ns,?_⟩,?_,oV,λb o n c s e=>o7.1.Kk (o8.db e).1⟩⟩
 .have z3:=λ{d} {k}=>z3 d k
  have z5:=λ{d} {k}=>z5 d k
  have z8:=λ{d} {k}=>z8 d k
  have hs:=λ{id} {f}=>o5.sn (id:=id) (f:=f)
  have e1:m.aa.length<9223372036854775808:=by omega
  have u3:H.n<G3.n:=by omega
  have u5:H.n<G5.n:=by omega
  have u8:H.n<G8.n:=by omega
  have u9:H.n+1<G9.n:=by omega
  have w1:=f1.wf
  have w3:=f3.wf
  have w5:=f5.wf
  have w8:=f8.wf
  simp only [aW,bq]at hG1 p1 q2 q3 hG4 p4 q5 hG6 p6 g7 q8 hG9 p9 hGa pa
  rw [aJ T.adW rfl rfl]
  simp only [go_sem,acq,aW,bq,hw,↓i1,↓i2,↓i3,hG1,w1,n1,hG2,q2,↓z3,↓j1,q3,w3,u3,hG4,p4,↓z5,↓j2,q5,w5,u5,hG6,p6,↓hs,e1]
  refine z7 d _ _ _ ?_ ?_ ?_ ?_ ?_ λe' h1 h2=>?_
  .rfl
  .rfl
  .rfl
  .rfl
  .rfl
  simp only [go_sem,h1,h2,g7,↓z8,↓j3,q8,w8,u8,hG9,p9,↓j1,↓j2,r9,w9,u9,hGa,↓dW,pa]
 .exact (((ol7.fresh f8).step s9 λj hj _=>by omega).step sa λj hj _=>by omega).sub (by omega)
 .have o9:=((o7.step f8.step λj hj _ h=>h).step s9 λj hj _=>by omega).step sa λj hj _=>by omega
  exact ⟨o9.1.sub (by omega),o9.2.1,λi s hs=>let ⟨x,a,b,c⟩:=o9.2.2 i s hs; ⟨x,a,b.sub (by omega),c⟩⟩
 .exact ((o8.step s9 λj hj _=>by omega).step sa λj hj _=>by omega).sub (by omega)
end
end Go.Ev
end

