/- LC: a part of the evaluator,of its logic,or of the laws' walk in it. -/
import Derived.Test.YtalmhjlkdhlbiaaGreatDoorLB
import Derived.Test.YtalmhjlkdhlbiaaGreatDoorLA
import Derived.Test.YtalmhjlkdhlbiaaGreatDoorLg
import Derived.ChangeArms
import Derived.Deep.Slices
import Derived.ChangeSame
open Nat renaming le_refl → YA,lt_of_lt_of_le → YE,beq → YK,ble → YS,zero_le → Yd,le_trans → Yn,mod_eq_of_lt → Yr,mod → Ys,add_zero → WD,succ → WI,zero_add → WJ,mul_one → WO,not_lt_zero → WY,add_mul → Wn,mul_le_mul_right → Wp,zero_mul → QO,one_mul → YA2
open List renaming getElem?_eq_getElem → YB,length_append → YC,length_cons → YF,mem_cons_of_mem → YI,mem_cons_self → YJ,length_nil → YM,mem_singleton → YO,mem_cons → YP,eq_nil_of_length_eq_zero → YR,nil_append → YT,append_nil → YV,getElem?_eq_some_iff → YX,take_of_length_le → Ya,cons_append → Yb,mem_map → Yc,map_cons → Ye,replicate → Yg,getElem?_take → Yk,getElem_mem → Yl,getElem?_append_left → Ym,length_take → Yp,getElem?_append_right → Yt,mem_append → Yv,getElem?_drop → Yx,length_map → WB,map_append → WE,append_assoc → WG,mem_of_mem_take → WN,take_succ_eq_append_getElem → WR,range → WT,drop_zero → WV,getElem?_eq_none → WW,flatMap_cons → WZ,not_mem_nil → We,nodup_cons → Wg,take_length → Wi,flatMap_nil → Ws,length_range → Wx,flatMap_append → Wy,drop_eq_getElem_cons → QB,nodup_nil → QG,mem_range → QI,nodup_append → QJ,ext_getElem? → QW,drop_length → YC0,filter_append → YE1,mem_flatten → YH0,length_filter_le → YJ1,flatten_append → YL0,take_left' → YO3
open Or renaming inr → YD,inl → YG
open Eq renaming trans → YU
open Bool renaming false_ne_true → YA0
open Classical renaming propDecidable → YG3
open Prod renaming ext → YJ4
set_option linter.unusedVariables false
set_option linter.unusedSimpArgs false
set_option linter.unusedSectionVars false
set_option maxHeartbeats 8000000
open Nat renaming reduceAdd→ZA,reduceSub→ZB,reduceMul→ZC,reduceEqDiff→ZD,reduceLT→ZE,reduceDiv→ZF,reduceMod→ZG,reduceLeDiff→ZH
section
namespace Go.Ev
def isRow (bl:eB) (row:List V):Prop:=bl = .cells row\/bl = .view row
theorem Pd {bl} {row} {o} {v} (h:isRow bl row) (hr:row[o]? = some v) (h1:v.one=true) {id} {k}:LR id bl o k=k v:=by
 rcases h with rfl|rfl
 .show nth id row o k=_
  exact iL hr
 .show nth id row o (λv=>dX id v (k v))=_
  rw [iL hr]
  cases v<;>first|rfl|cases h1
def L0 (v:V):Prop:=v = .aB\/∃ b o c s,v = .slice b o 0 c s
theorem ae.own {H H1 H2:Heap} {O1 O2:Nat->Prop} (f:ae H H1) (s:Step H1 O1 H2 O2) (h:∀ b,O1 b->H.n<=b):ae H H2/\∀ b,O2 b->H.n<=b:=by
 have hn:∀ b,b<H.n->¬ O1 b:=λb hb ho=>by have:=h b ho;omega
 refine ⟨⟨s.wf,Yn f.n s.n,λb hb=>((s.same b (YE hb f.n) (hn b hb)).1).trans (f.same b hb),λlo h1 h2=>(s.lo lo (f.lo lo h1 h2) (Yn h2 f.n) λb hb=>Yn h2 (h b hb)).1⟩,λb hb=>?_⟩
 rcases Nat.lt_or_ge b H.n with h1|h1
 .exact absurd hb (s.same b (YE h1 f.n) (hn b h1)).2
 .exact h1
end Go.Ev
end
section
namespace Go.Ev
theorem dC:∀ {ws} {es} {k},k ∉ ws.map (·.1)->find (laid es ws) k=find es k
 | [],es,k,_=>rfl
 | w :: ws,es,k,h=>by
  simp only [Ye,YP,not_or]at h
  show find (laid (eF es w.1 w.2) ws) k=_
  rw [dC h.2,dy,if_neg h.1]
theorem eS:∀ {ws} {es} {w:Wr},(ws.map (·.1)).Nodup->w ∈ ws->find (laid es ws) w.1=some w.2
 | [],es,w,_,h=>by cases h
 | v :: ws,es,w,hn,h=>by
  simp only [Ye,Wg]at hn
  show find (laid (eF es v.1 v.2) ws) w.1=_
  rcases YP.1 h with rfl|h
  .rw [dC hn.1,dy,if_pos rfl]
  .exact eS hn.2 h
structure nE (len:Nat) (es:List (Nat × Tx)):Prop where
 nodup:(es.map (·.1)).Nodup
 lt:∀ e ∈ es,e.1<len
theorem zP:∀ (es:List (Nat × Tx)) (a) (v:Tx),(eF es a v).map (·.1)=if a ∈ es.map (·.1) then es.map (·.1) else es.map (·.1) ++ [a]
 | [],a,v=>rfl
 | p :: es,a,v=>by
  unfold eF
  by_cases h:p.1=a
  .simp_all
  .rw [if_neg h,Ye,zP es a v,Ye]
   grind
theorem nE.eF {len:Nat} {es:List (Nat × Tx)} (h:nE len es) {a:Nat} {v:Tx} (ha:a<len):nE len (eF es a v):=by
 have hk:=zP es a v
 refine ⟨?_,λe he=>?_⟩
 .rw [hk]
  split
  .exact h.nodup
  .rename_i hn
   exact QJ.2 ⟨h.nodup,by simp,λx hx y hy=>by rw [YO.1 hy];rintro rfl;exact hn hx⟩
 .have:e.1 ∈ (Go.Ev.eF es a v).map (·.1):=Yc.2 ⟨e,he,rfl⟩
  rw [hk]at this
  split at this
  .obtain ⟨q,hq,e⟩:=Yc.1 this
   have:=h.lt q hq
   omega
  .rcases Yv.1 this with h1|h1
   .obtain ⟨q,hq,e⟩:=Yc.1 h1
    have:=h.lt q hq
    omega
   .rw [YO.1 h1];exact ha
theorem nE.laid {len:Nat}:∀ {ws:List Wr} {es:List (Nat × Tx)},nE len es->(∀ w ∈ ws,w.1<len)->nE len (laid es ws)
 | [],es,h,_=>h
 | w :: ws,es,h,hw=>nE.laid (ws:=ws) (h.eF (hw w (YJ ..))) λv hv=>hw v (YI _ hv)
theorem nE.length {len:Nat} {es:List (Nat × Tx)} (h:nE len es):es.length<=len:=by
 have h1:(es.map (·.1)) ⊆ WT len:=λk hk=>by
  obtain ⟨e,he,rfl⟩:=Yc.1 hk
  exact QI.2 (h.lt e he)
 have:=List.Nodup.length_le_of_subset h.nodup h1
 simpa using this
theorem nE.nil {len:Nat}:nE len []:=⟨QG,λ_ h=>by cases h⟩
theorem Fo:∀ {ws} {A:AD},A.aV=0->(A.qu ws).2=0/\(A.qu ws).1.aV=0
 | [],A,h=>⟨rfl,h⟩
 | w :: ws,A,h=>by
  have hf:¬ A.aV=1:=by omega
  have h1:(A.write w.1 w.2.2).2=0:=by simp only [AD.write,if_neg hf]
  simp only [AD.qu,if_pos h1]
  exact Fo (by simp only [AD.write,if_neg hf];omega)
theorem K5 {ws} {A:AD} (h:A.aV=0):(A.kQ ws).2=0/\(A.kQ ws).1.aV=0:=by
 obtain ⟨h1,h2⟩:=Fo (ws:=ws) h
 have hf:¬ (A.qu ws).1.aV=1:=by omega
 simp only [AD.kQ,if_pos h1,AD.flush,if_neg hf,true_and]
 omega
theorem mh:∀ {l} {A:AD},A.aV=0->(A.runs l).2=0/\(A.runs l).1.aV=0
 | [],A,h=>⟨rfl,h⟩
 | ws :: l,A,h=>by
  obtain ⟨h1,h2⟩:=K5 (ws:=ws) h
  simp only [AD.runs,if_pos h1]
  exact mh h2
theorem pS:∀ {l} {A},(∀ ws ∈ l,∀ w ∈ ws,w.2.1=32)->(A.runs l).2=0->L5 A (A.runs l).1 (laid A.es l.flatten)/\(l≠[]->(A.runs l).1.us=[])
 | [],A,_,_=>⟨⟨rfl,rfl,rfl,rfl⟩,λh=>absurd rfl h⟩
 | ws :: l,A,hl,h0=>by
  simp only [AD.runs]at h0 ⊢
  by_cases h1:(A.kQ ws).2=0
  .rw [if_pos h1]at h0 ⊢
   obtain ⟨⟨g1,g2,g3,g4⟩,g5⟩:=zu (hl ws (YJ ..)) h1
   obtain ⟨⟨k1,k2,k3,k4⟩,k5⟩:=pS (λus hus=>hl us (YI _ hus)) h0
   refine ⟨⟨k1.trans g1,k2.trans g2,k3.trans g3,?_⟩,λ_=>?_⟩
   .rw [k4,g4,List.flatten_cons,iU]
   .by_cases hl0:l=[]
    .subst hl0;exact g5
    simp_all
  simp_all
theorem zf {a} {ps} (ha:a<2) (hn:ps.length<=72) (hl:∀ s ∈ ps,s.length=32):∀ w ∈ outs a ps,(1<=w.1/\w.1<145)/\w.2.1=32:=λw hw=>by
 obtain ⟨i,hi,rfl⟩:=xh hw
 refine ⟨⟨?_,?_⟩,hl _ (Yl hi)⟩
 .omega
 omega
theorem HE (a) (ps):((outs a ps).map (·.1)).Nodup:=by
 have:(outs a ps).map (·.1)=(WT ps.length).map (λi=>1+a*72+i):=by
  refine List.ext_getElem (by simp [outs]) λi h1 h2=>?_
  simp [outs]
 rw [this]
 refine List.Pairwise.map _ (λx y h=>?_) List.nodup_range
 omega
theorem nu:∀ {ws} {es es':List (Nat × Tx)} {k},find es k=find es' k->find (laid es ws) k=find (laid es' ws) k
 | [],es,es',k,h=>h
 | w :: ws,es,es',k,h=>nu (es:=eF es w.1 w.2) (by rw [dy,dy,h])
theorem yR:∀ {ws:List Wr} {es:List (Nat × Tx)} {k},(∀ w ∈ ws,find es w.1=some w.2)->find (laid es ws) k=find es k
 | [],_,_,_=>rfl
 | w :: ws,es,k,h=>by
  have hu:∀ k,find (eF es w.1 w.2) k=find es k:=λk=>by
   rw [dy]
   simp_all
  show find (laid (eF es w.1 w.2) ws) k=_
  rw [yR λv hv=>by grind,hu]
theorem qS {room}:∀ {ws} {es:List (Nat × Tx)},(∀ w ∈ ws,(find es w.1).isSome=true)->roomy room es ws
 | [],_,_=>trivial
 | w :: ws,es,h=>⟨YG (h w (YJ ..)),qS λv hv=>by
  rw [dy]
  grind⟩
structure JD (pk:List UInt8->List (List UInt8)) (A:AD) (a n:Nat) (ws:List Wr):Prop where
 off:A.off=false
 keys:nE A.len A.es
 us:A.us=[]
 BD:qy A pk a n ws
 some_:n≠0->∀ w ∈ ws,find A.es w.1=some w.2
theorem NT (a n):(((0,tx (fI a n)):Wr)).2.1=32:=mM a n
theorem JD.start {pk:List UInt8->List (List UInt8)} {A:AD} (hl:145<A.len) (hl2:A.len<=1024) (ho:A.off=false) (hk:nE A.len A.es) (hf:A.aV=0):JD pk (A.runs [[(0,tx (fI 0 0))]]).1 0 0 []/\(A.runs [[(0,tx (fI 0 0))]]).1.aV=0/\(A.runs [[(0,tx (fI 0 0))]]).2=0/\L5 A (A.runs [[(0,tx (fI 0 0))]]).1 (eF A.es 0 (tx (fI 0 0))):=by
 obtain ⟨h1,h2⟩:=mh (l:=[[(0,tx (fI 0 0))]]) hf
 obtain ⟨⟨g1,g2,g3,g4⟩,g5⟩:=pS (l:=[[(0,tx (fI 0 0))]]) (A:=A) (λws hws w hw=>by
  rw [YO.1 hws]at hw
  rw [YO.1 hw]
  exact NT 0 0) h1
 have g5:=g5 (by simp)
 have g4:_=eF A.es 0 (tx (fI 0 0)):=g4
 generalize (A.runs [[(0,tx (fI 0 0))]]).1=B at h2 g1 g2 g3 g4 g5 ⊢
 have hkB:nE B.len B.es:=by rw [g1,g4];exact hk.eF (by omega)
 have hlen:=hkB.length
 refine ⟨⟨g3.trans ho,hkB,g5,⟨⟨by omega,by omega,by omega,by rw [g5];simp,?_,by omega,by omega⟩,λh=>absurd rfl h⟩,λh=>absurd rfl h⟩,h2,h1,⟨g1,g2,g3,g4⟩⟩
 rw [AD.read,g4,dy,if_pos rfl]
 rfl
structure Did (pk:List UInt8->List (List UInt8)) (A:AD) (ws:List Wr) (B:AD × Nat):Prop where
 no:B.2≠0->B.1=A
 aV:B.1.aV=0
 len:B.1.len=A.len
 room:B.1.room=A.room
 jd:∃ a n us,JD pk B.1 a n us
 yes:B.2=0->(∀ k,145<=k->find B.1.es k=find (laid A.es ws) k)/\hU A.len [] ws=true
theorem JD.same {pk:List UInt8->List (List UInt8)} {A:AD} {a n e:Nat} {us ws:List Wr} (J:JD pk A a n us) (hf:A.aV=0) (he:e≠0\/ws=[]):Did pk A ws (A,e):=
 ⟨λ_=>rfl,hf,rfl,rfl,⟨a,n,us,J⟩,λh=>by
  rcases he with h1|rfl
  .exact absurd h h1
  .exact ⟨λk _=>rfl,rfl⟩⟩
theorem JD.ran {pk:List UInt8->List (List UInt8)} {unpk:List (List UInt8)->Option (List UInt8)} (F:bX pk unpk) {A B:AD} {a n:Nat} {us ws:List Wr} (J:JD pk A a n us) (hm:hU A.len [] ws=true) (h60:ws.length<=60) (h0:ws≠[]) (hws:∀ w ∈ ws,um w.2)
 (w:L5 A B (laid A.es (outs (1-a) (pk (dD ws)) ++ (0,tx (fI (1-a) (pk (dD ws)).length)):: ws))) (hu:B.us=[]):JD pk B (1-a) (pk (dD ws)).length ws/\∀ k,145<=k->find B.es k=find (laid A.es ws) k:=by
 obtain ⟨h1,h2,h3,⟨⟨k1,k2,k3,k4,k5,k6,k7⟩,k8⟩,h5⟩:=J
 obtain ⟨hgood,hnd⟩:=iE hm
 have hrec:ru ws:=⟨h60,λw hw=>by have:=(hgood w hw).1.2.1;omega,λw hw=>(hgood w hw).1.2.2,hws⟩
 have htl:=hrec.text
 have hpkn:=F.num _ htl
 have hpkp:=F.pos (dD ws) (by omega)
 have hpkl:=F.len (dD ws) (by omega)
 have ha1:1-a<2:=by omega
 have hout:=zf (a:=1-a) ha1 hpkn hpkl
 have hond:=HE (1-a) (pk (dD ws))
 have hom:∀ i (h:i<(pk (dD ws)).length),((1+(1-a)*72+i,tx (pk (dD ws))[i]):Wr) ∈ outs (1-a) (pk (dD ws)):=λi h=>by
  simp only [outs,List.mem_mapIdx]
  exact ⟨i,h,rfl⟩
 generalize hq:outs (1-a) (pk (dD ws))=first at w hout hond hom
 generalize hp:pk (dD ws)=ps at w hpkn hpkp hpkl hom
 obtain ⟨g1,g2,g3,g4⟩:=w
 rw [iU]at g4
 have g4:B.es=laid (eF (laid A.es first) 0 (tx (fI (1-a) ps.length))) ws:=g4
 have hnw:∀ k,k<145->k ∉ ws.map (·.1):=λk hk hm=>by
  obtain ⟨v,hv,e⟩:=Yc.1 hm
  have:=(hgood v hv).1.1
  omega
 have hnf:∀ k,(k=0\/145<=k)->k ∉ first.map (·.1):=λk hk hm=>by
  obtain ⟨v,hv,e⟩:=Yc.1 hm
  have:=(hout v hv).1
  omega
 have hkB:nE B.len B.es:=by
  rw [g1,g4]
  exact ((h2.laid (ws:=first) λv hv=>by have:=(hout v hv).1;omega).eF (by omega)).laid λv hv=>(hgood v hv).1.2.1
 have hsome:∀ v ∈ ws,find B.es v.1=some v.2:=λv hv=>by rw [g4];exact eS hnd hv
 have hlB:=hkB.length
 refine ⟨⟨g3.trans h1,hkB,hu,⟨⟨by omega,by omega,by omega,by rw [hu];simp,?_,ha1,hpkn⟩,λ_=>⟨by rw [hp],λi hi=>?_,hrec,h0,by rw [g1];exact hm,qS λv hv=>by rw [hsome v hv];rfl⟩⟩,λ_=>hsome⟩,λk hk=>?_⟩
 .rw [AD.read,g4,dC (hnw 0 (by omega)),dy,if_pos rfl]
  rfl
 .rw [hp]at hi
  have hm:=hom i hi
  have hb:=(hout _ hm).1
  have h3:∀ k v,(1<=k/\k<145)->((k,v):Wr) ∈ first->B.read k=v:=λk v hk hm=>by
   rw [AD.read,g4,dC (hnw k hk.2),dy,if_neg (by omega),show find (laid A.es first) k=some v from eS hond hm]
   rfl
  rw [h3 _ _ hb hm]
  simp only [hp]
 .rw [g4]
  refine nu ?_
  rw [dy,if_neg (by omega),dC (hnf k (YD hk))]
theorem JD.eM {pk:List UInt8->List (List UInt8)} {unpk:List (List UInt8)->Option (List UInt8)} (F:bX pk unpk) {A:AD} {a n:Nat} {us ws:List Wr} (J:JD pk A a n us) (hf:A.aV=0) (hws:∀ w ∈ ws,um w.2):Did pk A ws (A.eM pk a ws):=by
 unfold AD.eM
 rw [if_neg (by rw [J.off];exact YA0)]
 by_cases h0:ws.length=0
 .rw [if_pos h0];exact J.same hf (YD (YR h0))
 rw [if_neg h0]
 by_cases h6:60<ws.length
 .rw [if_pos h6];exact J.same hf (YG (by omega))
 rw [if_neg h6]
 by_cases hm:hU A.len [] ws=false
 .rw [if_pos hm];exact J.same hf (YG (by omega))
 rw [if_neg hm]
 have hm:hU A.len [] ws=true:=by simpa using hm
 split
 .obtain ⟨h1,h2⟩:=mh (l:=[outs (1-a) (pk (dD ws)),[(0,tx (fI (1-a) (pk (dD ws)).length))],ws]) hf
  have hgood:=(iE hm).1
  have hrec:ru ws:=⟨by omega,λw hw=>by have:=(hgood w hw).1.2.1;have:=J.BD.can.hi;omega,λw hw=>(hgood w hw).1.2.2,hws⟩
  have htl:=hrec.text
  obtain ⟨g,g5⟩:=pS (l:=[outs (1-a) (pk (dD ws)),[(0,tx (fI (1-a) (pk (dD ws)).length))],ws]) (A:=A) (λus hus w hw=>by
   simp only [YP,We,or_false]at hus
   rcases hus with rfl|rfl|rfl
   .exact (zf (by omega) (F.num _ htl) (F.len _ (by omega)) w hw).2
   .rw [YO.1 hw];exact NT _ _
   .exact (hgood w hw).1.2.2) h1
  obtain ⟨j1,j2⟩:=J.ran F hm (by omega) (λh=>h0 (by rw [h];rfl)) hws (by simpa using g) (g5 (by simp))
  exact ⟨λh=>absurd h1 h,h2,g.len,g.room,⟨_,_,_,j1⟩,λ_=>⟨j2,hm⟩⟩
 .exact J.same hf (YG (by omega))
end Go.Ev
end
section
namespace Go.Ev
theorem Db {es:List (Nat × Tx)} {k}:(find es k).isSome=true↔k ∈ es.map (·.1):=by
 unfold find
 simp
theorem xG:∀ (D) (a v),(D.map (·.1)).Nodup->((sD D a v).map (·.1)).Nodup
 | [],a,v,_=>by simp [sD]
 | p :: D,a,v,h=>by
  rw [Ye,Wg]at h
  simp only [sD]
  split
  .simp_all
  .rw [Ye,Wg]
   refine ⟨λhm=>?_,xG D a v h.2⟩
   rcases (oJ D a v p.1).1 hm with h1|h1
   .omega
   simp_all
theorem NO {es:List (Nat × Tx)} {ns} {len} (hns:∀ n ∈ ns,n<len):∀ m,m<=ns.length->((uU es ns m).map (·.1)).Nodup/\∀ k ∈ (uU es ns m).map (·.1),k<len/\(find es k).isSome=false
 | 0,_=>⟨QG,λk h=>by cases h⟩
 | m+1,hm=>by
  obtain ⟨h1,h2⟩:=NO hns m (by omega)
  simp only [uU]
  split
  .exact ⟨h1,h2⟩
  .refine ⟨by exact xG _ _ _ h1,λk hk=>?_⟩
   rw [vR,oJ]at hk
   rcases hk with rfl|hk
   .have hg:ns.getD m 0=ns[m]:=by rw [List.getD_eq_getElem?_getD,YB (by omega)];rfl
    simp_all
   .exact h2 k hk
theorem yc {A:AD} {ns} (hk:nE A.len A.es) (hr:A.len<=A.room) (hns:∀ n ∈ ns,n<A.len):A.fits ns=true:=by
 refine decide_eq_true (YD ?_)
 obtain ⟨h1,h2⟩:=NO hns ns.length (YA _)
 have hn:=QJ.2 ⟨hk.nodup,h1,λx hx y hy=>by
  rintro rfl
  have:=(h2 x hy).2
  rw [Db.2 hx]at this;cases this⟩
 have hs:(A.es.map (·.1) ++ (uU A.es ns ns.length).map (·.1)) ⊆ WT A.len:=λk hk'=>by
  rw [QI]
  rcases Yv.1 hk' with h|h
  .obtain ⟨e,he,rfl⟩:=Yc.1 h;exact hk.lt e he
  .exact (h2 k h).1
 have:=List.Nodup.length_le_of_subset hn hs
 simp only [YC,WB,Wx]at this
 omega
def code (len:Nat) (ws:List Wr):Nat:=if ws.length=0 then 0 else if 60<ws.length then 3 else if hU len [] ws=false then 2 else 0
variable {pk:List UInt8->List (List UInt8)} {unpk:List (List UInt8)->Option (List UInt8)}
theorem JD.code (F:bX pk unpk) {A:AD} {a n:Nat} {us ws:List Wr} (J:JD pk A a n us) (hf:A.aV=0) (hr:A.len<=A.room) (hws:∀ w ∈ ws,um w.2):(A.eM pk a ws).2=Ev.code A.len ws:=by
 unfold AD.eM Ev.code
 rw [if_neg (by rw [J.off];exact YA0)]
 by_cases h0:ws.length=0
 .rw [if_pos h0,if_pos h0]
 rw [if_neg h0,if_neg h0]
 by_cases h6:60<ws.length
 .rw [if_pos h6,if_pos h6]
 rw [if_neg h6,if_neg h6]
 by_cases hm:hU A.len [] ws=false
 .rw [if_pos hm,if_pos hm]
 rw [if_neg hm,if_neg hm]
 have hm:hU A.len [] ws=true:=by simpa using hm
 have hgood:=(iE hm).1
 have hrec:ru ws:=⟨by omega,λw hw=>by have:=(hgood w hw).1.2.1;have:=J.BD.can.hi;omega,λw hw=>(hgood w hw).1.2.2,hws⟩
 have hnum:=F.num _ hrec.text
 have hlo:=J.BD.can.lo
 rw [if_pos (yc J.keys hr λn hn=>?_)]
 .exact (mh hf).1
 .rcases YP.1 hn with rfl|hn
  .omega
  .rw [WE]at hn
   rcases Yv.1 hn with h|h
   .obtain ⟨w,hw,rfl⟩:=Yc.1 h
    obtain ⟨i,hi,rfl⟩:=xh hw
    show 1+(1-a)*72+i<_
    have:(1-a)<=1:=by omega
    omega
   .obtain ⟨w,hw,rfl⟩:=Yc.1 h
    exact (hgood w hw).1.2.1
theorem JD.recovered {A:AD} {a n:Nat} {us:List Wr} (J:JD pk A a n us) (hf:A.aV=0):(A.recover n us).2=0/\JD pk (A.recover n us).1 a n us/\(A.recover n us).1.aV=0/\(A.recover n us).1.len=A.len/\(A.recover n us).1.room=A.room/\∀ k,find (A.recover n us).1.es k=find A.es k:=by
 have hJ:=J
 obtain ⟨h1,h2,h3,⟨⟨k1,k2,k3,k4,k5,k6,k7⟩,k8⟩,h5⟩:=J
 unfold AD.recover
 rw [if_neg (by rw [h1];exact YA0)]
 by_cases hn:n=0
 .rw [if_pos hn];exact ⟨rfl,hJ,hf,rfl,rfl,λ_=>rfl⟩
 .rw [if_neg hn]
  obtain ⟨r1,r2,r3,r4,r5,_⟩:=k8 hn
  obtain ⟨hgood,hnd⟩:=iE r5
  obtain ⟨c1,c2⟩:=mh (l:=[us]) hf
  obtain ⟨⟨g1,g2,g3,g4⟩,g5⟩:=pS (l:=[us]) (A:=A) (λws hws w hw=>by rw [YO.1 hws]at hw;exact r3.len w hw) c1
  have g5:=g5 (by simp)
  have g4:(A.runs [us]).1.es=laid A.es us:=by rw [g4];simp
  have hfd:∀ k,find (A.runs [us]).1.es k=find A.es k:=λk=>by rw [g4];exact yR (h5 hn)
  generalize (A.runs [us]).1=B at c2 g1 g2 g3 g4 g5 hfd ⊢
  have hkB:nE B.len B.es:=by rw [g1,g4];exact h2.laid λw hw=>(hgood w hw).1.2.1
  have hlen:=hkB.length
  refine ⟨c1,⟨g3.trans h1,hkB,g5,⟨⟨by omega,by omega,by omega,by rw [g5];simp,by rw [AD.read,hfd];exact k5,k6,k7⟩,λ_=>⟨r1,λi hi=>by rw [AD.read,hfd];exact r2 i hi,r3,r4,by rw [g1];exact r5,qS λw hw=>by rw [hfd,h5 hn w hw];rfl⟩⟩,λ_ w hw=>(hfd _).trans (h5 hn w hw)⟩,c2,g1,g2,hfd⟩
end Go.Ev
end
section
namespace Go.Ev
theorem cE {id} {k}:∀ {l},(∀ v ∈ l,v.one=true)->aZ id l k=k
 | [],_=>rfl
 | v :: l,h=>by
  rw [kY,cE λv hv=>h v (YI _ hv)]
  have:=h v (YJ ..)
  cases v<;>first|rfl|(simp [V.one]at this)
def Gr (H G:Heap) (v:V) (size n:Nat) (row:List V):Prop:=row.length=n*size/\(∀ v ∈ row,v.one=true)/\((v = .aB/\n=0)\/∃ b c s,v = .slice b 0 n c s/\0<n/\(c=n+1\/(c=0/\s=size))/\G.get b = .cells row/\H.n<=b/\b<G.n)
theorem Gr.aB {H G:Heap} {size:Nat}:Gr H G .aB size 0 []:=⟨by simp,λv h=>(by cases h),YG ⟨rfl,rfl⟩⟩
theorem Gr.fresh {H G G':Heap} {v:V} {size n:Nat} {row:List V} (h:Gr H G v size n row) (f:ae G G'):Gr H G' v size n row:=by
 obtain ⟨h1,h2,h|⟨b,c,s,g1,g2,g3,g4,g5,g6⟩⟩:=h
 .exact ⟨h1,h2,YG h⟩
 .exact ⟨h1,h2,YD ⟨b,c,s,g1,g2,g3,(f.same b g6).trans g4,g5,YE g6 f.n⟩⟩
theorem Gr.sn {H G:Heap} {v:V} {size n:Nat} {row:List V} (h:Gr H G v size n row) {id:Nat} {f:Nat->R}:bh id v (λ_ _ len _ _=>f len) (f 0)=f n:=by
 obtain ⟨h1,h2,⟨rfl,rfl⟩|⟨b,c,s,rfl,_⟩⟩:=h<;>rfl
theorem Gr.one {H G:Heap} {v:V} {size n:Nat} {row:List V} (h:Gr H G v size n row):v.one=true:=by
 obtain ⟨h1,h2,⟨rfl,rfl⟩|⟨b,c,s,rfl,_⟩⟩:=h<;>rfl
theorem aI {v} (h:v.one=true) {id} {k}:dX id v k=k:=by
 revert h;cases v<;>intro h<;>first|rfl|cases h
def jM (v:V) (j:Nat):Prop:=∀ b o n c s,v = .slice b o n c s->j≠b
theorem Gr.app {H G:Heap} {v:V} {size n X cx sx:Nat} {row new:List V} (f:ae H G) (h:Gr H G v size n row) (hX:G.get X = .cells new) (hl:new.length=size) (hone:∀ v ∈ new,v.one=true) (hb:n<1000000):
 ∃ v' G',(∀ {id:Nat} {ph:cW} {e:Env} {k:K} {a x:Arg},ay a e=v->ay x e = .slice X 0 1 cx sx->aM (.app false size a x) id ph e G k=k v' G')/\Gr H G' v' size (n+1) (row ++ new)/\ae H G'/\(∀ j,j<G.n->jM v j->G'.get j=G.get j)/\G.n<G'.n/\∀ j,j<G.n->jM v' j:=by
 have hw:=f.wf
 have hld:∀ {id:Nat} {g:List V->R},Es id G X 0 (1*size) g=g new:=λ{id g}=>by
  rw [BC,hX,mS,gE (Yd _),fP (by simp [hl])]
  rw [WV,YA2,Ya (by omega)]
 obtain ⟨h1,h2,⟨rfl,rfl⟩|⟨b,c,s,rfl,g2,g3,g4,g5,g6⟩⟩:=h
 .have hr:row=[]:=YR (by omega)
  subst hr
  refine ⟨.slice G.n 0 1 0 size,G.new (.cells new),λ{id ph e k a x} ha hx=>?_,⟨by simp [hl],by simpa using hone,YD ⟨G.n,0,size,rfl,by omega,YD ⟨rfl,rfl⟩,?_,f.n,by rw [Heap.aN];omega⟩⟩,f.trans (ae.new hw),λj hj _=>?_,by rw [Heap.aN];omega,λj hj b o n c s he=>?_⟩
  .rw [dF,ha,hx,dS,if_neg (by omega),hld]
   rw [fF,if_neg (by omega),cE hone,if_pos (by omega),cP hw]
  .rw [Heap.aE hw,if_pos rfl];rfl
  .rw [Heap.aE hw,if_neg (by omega)]
  .cases he;omega
 .have hlr:∀ {id:Nat} {g:List V->R},eC id G b 0 (n*size) g=g row:=λ{id g}=>by
   rw [oI,g4,ir,gE (Yd _),fP (by simp [h1])]
   rw [WV,Ya (by omega)]
  have hlen:(row ++ new).length=(n+1)*size:=by rw [YC,h1,hl,Wn,YA2]
  have hon:∀ v ∈ row ++ new,v.one=true:=λv hv=>(Yv.1 hv).elim (h2 v) (hone v)
  rcases g3 with rfl|⟨rfl,rfl⟩
  .refine ⟨.slice G.n 0 (n+1) 0 size,G.new (.cells (row ++ new)),λ{id ph e k a x} ha hx=>?_,⟨hlen,hon,YD ⟨G.n,0,size,rfl,by omega,YD ⟨rfl,rfl⟩,?_,f.n,by rw [Heap.aN];omega⟩⟩,f.trans (ae.new hw),λj hj _=>?_,by rw [Heap.aN];omega,λj hj b o n c s he=>?_⟩
   .rw [dF,ha,hx,dS,if_neg (by omega),hld]
    rw [cX,if_neg (by omega),jC (by omega),cE hone,if_pos (by omega),hlr,cE h2,cP hw]
   .rw [Heap.aE hw,if_pos rfl]
   .rw [Heap.aE hw,if_neg (by omega)]
   .cases he;omega
  .have hw2:(G.put b .dead).wf:=by rw [Heap.bE];exact hw
   refine ⟨.slice G.n 0 (n+1) 0 s,(G.put b .dead).new (.cells (row ++ new)),λ{id ph e k a x} ha hx=>?_,⟨hlen,hon,YD ⟨G.n,0,s,rfl,by omega,YD ⟨rfl,rfl⟩,?_,f.n,by rw [Heap.aN,Heap.aT];omega⟩⟩,(f.put g5 g6).trans (ae.new hw2),λj hj ho=>?_,by rw [Heap.aN,Heap.aT];omega,λj hj b o n c s he=>?_⟩
   .rw [dF,ha,hx,dS,if_neg (by omega),hld]
    rw [cX,if_neg (by omega),pC,cE hone,if_pos (by omega),g4,ir,if_pos h1,fm hw g6,cP hw2,Heap.aT]
   .rw [Heap.aE hw2,if_pos (by rw [Heap.aT])]
   .rw [Heap.aE hw2,if_neg (by rw [Heap.aT];omega),Heap.aF hw g6,if_neg (ho _ _ _ _ _ rfl)]
   .cases he;omega
section
variable {id:Nat} {ph:cW} {e:Env} {H:Heap} {k:K}
theorem uY {l} {b} {t f}:Ft (.cV l) b t f=f:=YU rfl rfl
theorem dK {f}:jU id [] [] [] f=f true:=YU rfl rfl
theorem cA {q a b} {cls} {l m} {f}:jU id (1 :: cls) (.int q a :: l) (.int q b :: m) f=if a=b then jU id cls l m f else f false:=by
 show aD (YK q q) (aD (YK a b) (jU id cls l m f) (f false)) (no 0)=_
 simp only [bA,oQ,if_true]
theorem cJ {cls} {neg} {x y}:aM (.kX cls neg x y) id ph e H k=js id (ay x e) λl=>js id (ay y e) λm=>if l.length=cls.length/\m.length=cls.length then jU id cls l m λb=>k (.bool (if b=true then !neg else neg)) H else no 0:=by
 show aH x e (λx=>js id x λl=>aH y e λy=>js id y λm=>aD (YK (dL l) (yT cls)) (aD (YK (dL m) (yT cls)) (jU id cls l m λb=>aD b (aD neg (k (.bool false) H) (k (.bool true) H)) (k (.bool neg) H)) (no 0)) (no 0))=_
 rw [aq]
 congr 1
 funext l
 rw [aq]
 have hb:(λb=>aD b (aD neg (k (.bool false) H) (k (.bool true) H)) (k (.bool neg) H))=λb=>k (.bool (if b=true then !neg else neg)) H:=by
  funext b;cases b<;>cases neg<;>rfl
 rw [hb]
 simp only [bA,oQ,iJ,wR]
 by_cases h1:l.length=cls.length
 .simp_all
 simp_all
theorem dA {s} {n}:tI [.lP s n] k e H=ei 0 (aa s e) λb o=>eC 0 H b o n λl=>k (.agg l) H:=by
 show jz s e (λv=>ei 0 v λb o=>eC 0 H b o n λl=>k (.agg l) H)=_
 rw [eg]
end
end Go.Ev
end
section
namespace Go.Ev
open Go.ChangeShapes Go.WideShapes Go.RowKit
theorem BY {N} {k} {n} (h:(Lit.int k n).wf=true):qt N (.int k n) = .int (lF k) (n%(2 ^ k.bits:Nat)).toNat:=by
 have hw:k.wrap n=n:=by
  unfold Lit.wf at h
  simp only [Bool.and_eq_true,decide_eq_true_eq]at h
  obtain ⟨h1,h2⟩:=h
  cases k<;>simp [IntKind.min,IntKind.max,IntKind.bits,IntKind.signed]at h1 h2<;>simp [IntKind.wrap,IntKind.bits,IntKind.signed]<;>omega
 unfold qt mJ
 simp [hw]
section
variable {P:Program} {w:World}
theorem FW (hm:P.follows .mixedOrders=true) {t} (ht:gq P t) {fuel depth} {f:FuncId} {args} {cargs} {w} (ha:bS (mu (xr w) (Ev.dQ w) w) args cargs.toList)
 (h:∀ (k) (x),(∀ H',ae (Ev.dQ w) H'->k (.bool true) H'=x)->aj (aQ (aO P) t fuel depth) (.func (2*f) []) args (Ev.dQ w) k=x) (hg:GQ w/\∀ c,GB c->c<w.heap.size:=by exact Gno):
 Calls P f cargs w λe w'=>e = .returned (.bool true)/\Below w.heap.size w w':=by
 obtain ⟨v,H2,h1,h2⟩:=Gx hm ht fuel depth (.func (2*f) []) args (Ev.dQ w) (λv H2=>@ite _ (v = .bool true/\w.heap.size+1<=H2.bj) (YG3 _) 1 0) (h _ 1 λH' hF=>by
  rw [if_pos]
  exact ⟨rfl,hF.lo _ (by rw [yp];simp) (by rw [kW];simp)⟩)
 have h3:v = .bool true/\w.heap.size+1<=H2.bj:=by
  simp_all
 obtain ⟨rfl,hlo⟩:=h3
 have h4:=h1.2 f [] rfl
 rw [YV]at h4
 obtain ⟨_,h5⟩:=h4 0 w (xr w) w cargs (PR.dQ w hg) ha
 refine CallsIn.calls (h5.mono λe w' he=>?_) λk=>by simp [Fence.room]
 obtain ⟨cv,rfl,rho',h6,h7,h8⟩:=he
 subst h6
 refine ⟨rfl,h7.below.os,h7.below.tape,h7.below.output,h7.below.size,λk hk=>h8.fr k hk λb hb=>?_⟩
 have:=(PR.dQ (P:=P) w hg).lt b k hb
 rw [kW]at this
 omega
end
end Go.Ev
end
section
namespace Go.Ev
open Go.Deep Go.ChangeShapes Go.WideShapes
theorem yv {w} {b i} {cv} (h:w.cell? ⟨b,i,none⟩=some cv) (hf:w.frozen? ⟨b,i,none⟩=false) (hgb:¬ GB b):∃ row,LO w b = .view row/\b<w.heap.size/\row[i]? = some (qt w.heap.size cv):=by
 unfold World.cell? at h
 unfold World.frozen? at hf
 unfold LO
 rw [if_neg hgb]
 split at h
 .rename_i c e fr hc
  rw [hc]at hf ⊢
  refine ⟨_,rfl,(Array.getElem?_eq_some_iff.1 hc).1,EC h ?_⟩
  simp_all
 simp_all
theorem ack {N} {b}:qt N (.bool b) = .bool b:=rfl
theorem LG {N} {b o l cap} (h:l<=cap) (hb:b<N):qt N (.slice (some ⟨b,o,none⟩) l cap) = .slice b o l (cap+1) 0:=by
 show (if l<=cap then _ else _)=_
 simp_all
theorem Fi {N} {a}:L0 (qt N (.slice (some a) 0 0))/\(qt N (.slice (some a) 0 0)).one=true:=by
 have:qt N (.slice (some a) 0 0)=if a.spot=none/\a.block<N then .slice a.block a.off 0 (0+1) 0 else .slice N a.off 0 1 0:=by
  rfl
 rw [this]
 split
 .exact ⟨YD ⟨_,_,_,_,rfl⟩,rfl⟩
 .exact ⟨YD ⟨_,_,_,_,rfl⟩,rfl⟩
section
variable {H:Type} {enc:TypeId × Value->H} {P:Program} {w:World}
theorem qX {t e:TypeId} {z fuel:Nat} {v:Value} {x:DataW H × List MemPlace} (ht:P.underlying t=some (.slice e)) (hz:P.cellsOf e=z) (hz0:0<z) (h:DataW.trod enc P w 0 (λ_=>true) true fuel t [v]=some x) (hnf:w.noneFrozen x.2)
 (hG:∀ (b o n:Nat) (cs:List Value) (y:DataW H × List MemPlace),GB b->cs.length=z->(∀ j cv,cs[j]? = some cv->w.cell? ⟨b,o+j,none⟩=some cv)->DataW.trod enc P w 0 (λ_=>true) true n e cs=some y->False):
 (qt w.heap.size v).one=true/\((L0 (qt w.heap.size v))\/∃ b o len c row,0<len/\len<=9223372036854775807/\qt w.heap.size v = .slice b o len c 0/\(dQ w).get b = .view row/\b<(dQ w).n/\
  ∀ i,i<len->∃ (cs:List Value) (n:Nat) (y:DataW H × List MemPlace),cs.length=z/\(∀ j cv,cs[j]? = some cv->row[o+i*z+j]? = some (qt w.heap.size cv))/\DataW.trod enc P w 0 (λ_=>true) true n e cs=some y/\w.noneFrozen y.2):=by
 rcases open_slice ht h with ⟨hcs,_⟩|⟨a,len,cap,m,n,D,Pl,hcs,_,hl,hm,hmc,rfl,hx⟩
 .cases hcs
  exact ⟨rfl,YG (YG rfl)⟩
 simp only [List.cons.injEq,and_true]at hcs
 subst hcs
 simp only [if_true]at hmc
 have hmc':=hmc.symm
 subst hmc'
 rw [hz]at hx hnf
 by_cases hc0:cap=0
 .subst hc0
  obtain rfl:len=0:=by omega
  exact ⟨Fi.2,YG Fi.1⟩
 have hcell:∀ i,i<cap->∀ j,j<z->∃ cs,w.cells? 0 (a.add (i*z)) z=some cs/\∃ cv,cs[j]? = some cv/\w.cell? ⟨a.block,a.off+i*z+j,none⟩=some cv/\a.spot=none:=λi hi j hj=>by
  obtain ⟨cs,h1,h2⟩:=hx i hi
  obtain ⟨_,hlen,hc⟩:=World.cells?_some h1
  have hcj:=hc j hj
  rw [YB (by omega:j<cs.length)]at hcj
  obtain ⟨_,_,hc00⟩:=World.cells?_some (hx 0 (by omega)).choose_spec.1
  have h00:=hc00 0 hz0
  rw [YB (by rw [(World.cells?_some (hx 0 (by omega)).choose_spec.1).2.1];exact hz0)]at h00
  have hsp:=by
   have:=World.cell?_spot h00
   simpa [Addr.add] using this
  refine ⟨cs,h1,_,YB (by omega),?_,hsp⟩
  obtain ⟨ab,ao,asp⟩:=a
  obtain rfl:asp=none:=hsp
  rw [Addr.add_lit,Addr.add_lit]at hcj
  exact hcj
 obtain ⟨ab,ao,asp⟩:=a
 obtain rfl:asp=none:=(hcell 0 (by omega) 0 hz0).choose_spec.2.choose_spec.2.2
 have hfz:=λk hk=>hnf ab (ao+k) (List.mem_append_left _ (Yc.2 ⟨k,QI.2 hk,rfl⟩))
 have hgb:¬ GB ab:=λhb=>by
  obtain ⟨cs,h1,h2⟩:=hx 0 (by omega)
  obtain ⟨_,hlen,hc⟩:=World.cells?_some h1
  refine hG ab ao _ cs _ hb hlen (λj cv hj=>?_) h2
  have hjz:j<z:=by have:=(YX.1 hj).1;omega
  have hcj:=hc j hjz
  rw [hj,QO,Addr.add_lit,Addr.add_lit,WD]at hcj
  exact hcj
 have hcz:0<cap*z:=Nat.mul_pos (by omega) hz0
 obtain ⟨_,_,cv0,_,hc0',_⟩:=hcell 0 (by omega) 0 hz0
 simp only [QO,WD]at hc0'
 obtain ⟨row,r1,r2,_⟩:=yv hc0' (by simpa using hfz 0 hcz) hgb
 have hv:=LG (o:=ao) hl r2
 rw [hv]
 refine ⟨rfl,?_⟩
 by_cases hl0:len=0
 .subst hl0;exact YG (YD ⟨_,_,_,_,rfl⟩)
 refine YD ⟨ab,ao,len,cap+1,row,by omega,by unfold maxLen at hm;omega,rfl,by rw [jB];exact r1,by rw [kW];omega,λi hi=>?_⟩
 obtain ⟨cs,h1,h2⟩:=hx i (by omega)
 obtain ⟨_,hlen,hc⟩:=World.cells?_some h1
 refine ⟨cs,n,_,hlen,λj cv hj=>?_,h2,λb off hb=>hnf b off (List.mem_append_right _ (List.mem_flatMap.2 ⟨i,QI.2 (by omega),hb⟩))⟩
 have hjz:j<z:=by have:=(YX.1 hj).1;omega
 have hcj:=hc j hjz
 rw [hj]at hcj
 rw [Addr.add_lit,Addr.add_lit]at hcj
 have hk:i*z+j<cap*z:=by
  have:(i+1)*z<=cap*z:=Wp _ (by omega)
  rw [Wn]at this
  omega
 obtain ⟨row',r1',_,r3'⟩:=yv hcj (by rw [Nat.add_assoc];exact hfz _ hk) hgb
 rw [r1]at r1'
 cases r1'
 exact r3'
end
end Go.Ev
end
section
namespace Go.Ev
theorem Heap.aU {H:Heap} (hw:H.wf) (x:eB):∃ G,H.new x=G/\ae H G/\G.get H.n=x/\G.n=H.n+1:=⟨_,rfl,ae.new hw,by rw [Heap.aE hw,if_pos rfl],Heap.aN⟩
theorem Heap.gO {H:Heap} {m:Nat} (hm:H.n=m) (hw:H.wf) (x:eB):∃ G,H.new x=G/\ae H G/\G.get m=x/\G.n=m+1:=by subst hm;exact Heap.aU hw x
theorem Heap.bd {H0 H:Heap} {b:Nat} (f:ae H0 H) (h0:H0.n<=b) (hb:b<H.n) (x:eB):∃ G,H.put b x=G/\ae H0 G/\G.get b=x/\G.n=H.n/\G.wf/\∀ j,j≠b->G.get j=H.get j:=
 ⟨_,rfl,f.put h0 hb,by rw [Heap.aF f.wf hb,if_pos rfl],Heap.aT,by rw [Heap.bE];exact f.wf,λj hj=>by rw [Heap.aF f.wf hb,if_neg hj]⟩
theorem aR {cp} {t} {fuel d} {H} {k} {args} {f F} {ps} {res} {c} (ht:t F=some (.code ps res c)) (hf:f%2=0) (hF:f/2=F):aj (aQ cp t fuel (d+1)) (.func f []) args H k=fO ps args C4 λe=>gZ c fuel (aQ cp t fuel d) e H (tI res k) λn e H=>if n=0 then tI res k e H else no 6:=by
 rw [ax ht hf hF,YV]
def Row (H:Heap) (O:Nat->Prop) (v:V) (sz n:Nat) (row:List V):Prop:=row.length=n*sz/\(∀ x ∈ row,x.one=true)/\((L0 v/\n=0)\/∃ b o c s l,v = .slice b o n c s/\isRow (H.get b) l/\b<H.n/\¬ O b/\o+n*sz<=l.length/\(l.drop o).take (n*sz)=row)
section
variable {H G:Heap} {O Q:Nat->Prop} {v:V} {sz n:Nat} {row:List V}
theorem Row.dm (h:Row H O v sz n row) (s:Step H O G Q):Row G Q v sz n row:=by
 obtain ⟨h1,h2,h|⟨b,o,c,z,l,g1,g2,g3,g4,g5⟩⟩:=h
 .exact ⟨h1,h2,YG h⟩
 .exact ⟨h1,h2,YD ⟨b,o,c,z,l,g1,by rw [(s.same b g3 g4).1];exact g2,YE g3 s.n,(s.same b g3 g4).2,g5⟩⟩
theorem Row.fresh (h:Row H O v sz n row) (s:ae H G):Row G O v sz n row:=h.dm s.step
theorem Row.N3 {A B:Nat->Prop} (h:Row H O v sz n row) (s:Step H A G B) (h0:∀ b,b<H.n->¬ O b->¬ A b/\¬ Q b):Row G Q v sz n row:=by
 obtain ⟨h1,h2,h|⟨b,o,c,z,l,g1,g2,g3,g4,g5⟩⟩:=h
 .exact ⟨h1,h2,YG h⟩
 .exact ⟨h1,h2,YD ⟨b,o,c,z,l,g1,by rw [(s.same b g3 (h0 b g3 g4).1).1];exact g2,YE g3 s.n,(h0 b g3 g4).2,g5⟩⟩
theorem Row.kT (h:Row H O v sz n row) (h0:∀ b,b<H.n->Q b->O b):Row H Q v sz n row:=by
 obtain ⟨h1,h2,h|⟨b,o,c,z,l,g1,g2,g3,g4,g5⟩⟩:=h
 .exact ⟨h1,h2,YG h⟩
 .exact ⟨h1,h2,YD ⟨b,o,c,z,l,g1,g2,g3,λq=>g4 (h0 b g3 q),g5⟩⟩
theorem Row.one (h:Row H O v sz n row):v.one=true:=by
 obtain ⟨_,_,⟨rfl|⟨_,_,_,_,rfl⟩,_⟩|⟨_,_,_,_,_,rfl,_⟩⟩:=h<;>rfl
theorem Row.sn (h:Row H O v sz n row) {id:Nat} {f:Nat->R}:bh id v (λ_ _ len _ _=>f len) (f 0)=f n:=by
 obtain ⟨_,_,⟨rfl|⟨_,_,_,_,rfl⟩,rfl⟩|⟨_,_,_,_,_,rfl,_⟩⟩:=h<;>rfl
theorem Et {bl} {l} {o n} (h:isRow bl l) (hn:o+n<=l.length) (h1:∀ x ∈ (l.drop o).take n,x.one=true) {id} {k}:BB id bl o n k=k ((l.drop o).take n):=by
 rcases h with rfl|rfl
 .rw [mS,gE (by omega),fP (by grind)]
 .rw [zy,gE (by omega),fP (by grind),cE h1]
theorem Row.open (h:Row H O v sz n row) {i:Nat} (hi:i<n):∃ b o c s,v = .slice b o n c s/\b<H.n/\¬ O b/\∀ {G:Heap},G.get b=H.get b->(∀ {id:Nat} {k:List V->R},BB id (G.get b) (o+i*sz) sz k=k ((row.drop (i*sz)).take sz))/\(∀ {x:V},row[i*sz]? = some x->∀ {id:Nat} {k:V->R},LR id (G.get b) (o+i*sz) k=k x):=by
 obtain ⟨h1,h2,h|⟨b,o,c,z,l,g1,g2,g3,g4,g5,g6⟩⟩:=h
 .omega
 have hle:(i+1)*sz<=n*sz:=Wp _ hi
 rw [Wn,YA2]at hle
 refine ⟨b,o,c,z,g1,g3,g4,λhG=>⟨λ{id k}=>?_,λ{x} hx {id k}=>?_⟩⟩
 .have e:(l.drop (o+i*sz)).take sz=(row.drop (i*sz)).take sz:=by
   rw [<- g6,List.drop_take,List.drop_drop,List.take_take]
   congr 1
   omega
  rw [hG,Et g2 (by omega) (by rw [e];exact λx hx=>h2 x (List.mem_of_mem_drop (WN hx))),e]
 .have hlt:i*sz<n*sz:=by rw [<- h1];exact (YX.1 hx).1
  rw [<- g6,Yk,if_pos hlt,Yx]at hx
  rw [hG]
  exact Pd g2 hx (h2 x (by rw [<- g6];exact List.mem_of_getElem? (i:=i*sz) (by rw [Yk,if_pos hlt,Yx];exact hx)))
theorem Row.nc (h:Row H O v sz n row) {id:Nat} {f:Nat->List V->R} {G:Heap} (hG:∀ b,b<H.n->¬ O b->G.get b=H.get b):db id sz G v f=f n row:=by
 obtain ⟨h1,h2,⟨rfl|⟨_,_,_,_,rfl⟩,rfl⟩|⟨b,o,c,z,l,rfl,g2,g3,g4,g5,g6⟩⟩:=h
 .have:row=[]:=YR (by omega)
  subst this
  rfl
 .have:row=[]:=YR (by omega)
  subst this
  rw [dS,if_pos rfl]
 .rw [dS]
  by_cases h0:n=0
  .subst h0
   have:row=[]:=YR (by omega)
   subst this
   rw [if_pos rfl]
  .rw [if_neg h0,BC,hG b g3 g4,Et g2 g5 (by rw [g6];exact h2),g6]
def Own (H G:Heap) (v:V) (sz n:Nat) (row:List V):Prop:=row.length=n*sz/\(∀ x ∈ row,x.one=true)/\((v = .aB/\n=0)\/∃ b c s rest,v = .slice b 0 n c s/\G.get b = .cells (row ++ rest)/\(c=n+1\/(c=0/\s=sz/\rest=[]))/\H.n<=b/\b<G.n)
theorem Own.fresh {H G G':Heap} (h:Own H G v sz n row) (f:ae G G'):Own H G' v sz n row:=by
 obtain ⟨h1,h2,h|⟨b,c,s,r,g1,g2,g3,g4,g5⟩⟩:=h
 .exact ⟨h1,h2,YG h⟩
 .exact ⟨h1,h2,YD ⟨b,c,s,r,g1,(f.same b g5).trans g2,g3,g4,YE g5 f.n⟩⟩
theorem Own.step {H G G':Heap} {A B:Nat->Prop} (h:Own H G v sz n row) (s:Step G A G' B) (h0:∀ b,H.n<=b->b<G.n->¬ A b):Own H G' v sz n row:=by
 obtain ⟨h1,h2,h|⟨b,c,z,r,g1,g2,g3,g4,g5⟩⟩:=h
 .exact ⟨h1,h2,YG h⟩
 .exact ⟨h1,h2,YD ⟨b,c,z,r,g1,(s.same b g5 (h0 b g4 g5)).1.trans g2,g3,g4,YE g5 s.n⟩⟩
theorem Own.sub {H H1 G:Heap} (h:Own H1 G v sz n row) (f:H.n<=H1.n):Own H G v sz n row:=by
 obtain ⟨h1,h2,h|⟨b,c,s,r,g1,g2,g3,g4,g5⟩⟩:=h
 .exact ⟨h1,h2,YG h⟩
 .exact ⟨h1,h2,YD ⟨b,c,s,r,g1,g2,g3,Yn f g4,g5⟩⟩
theorem Own.toRow {H G:Heap} (h:Own H G v sz n row) (hO:∀ b,O b->b<H.n):Row G O v sz n row:=by
 obtain ⟨h1,h2,⟨h,h'⟩|⟨b,c,s,r,g1,g2,g3,g4,g5⟩⟩:=h
 .exact ⟨h1,h2,YG ⟨YG h,h'⟩⟩
 .exact ⟨h1,h2,YD ⟨b,0,c,s,row ++ r,g1,YG g2,g5,λhb=>by have:=hO b hb;omega,by simp [h1],by rw [WV,<- h1,YO3];rfl⟩⟩
theorem Own.one {H G:Heap} (h:Own H G v sz n row):v.one=true:=by
 obtain ⟨_,_,⟨rfl,_⟩|⟨_,_,_,_,rfl,_⟩⟩:=h<;>rfl
theorem Own.sn {H G:Heap} (h:Own H G v sz n row) {id:Nat} {f:Nat->R}:bh id v (λ_ _ len _ _=>f len) (f 0)=f n:=by
 obtain ⟨_,_,⟨rfl,rfl⟩|⟨_,_,_,_,rfl,_⟩⟩:=h<;>rfl
theorem Own.nil {H G:Heap}:Own H G .aB sz 0 []:=⟨by simp,λv h=>(by cases h),YG ⟨rfl,rfl⟩⟩
theorem Own.off {H G:Heap} {v:V} {sz n j:Nat} {row:List V} (h:Own H G v sz n row) (hj:j<H.n):jM v j:=by
 obtain ⟨_,_,⟨rfl,_⟩|⟨b,c,s,r,rfl,_,_,g,_⟩⟩:=h<;>intro b' o n' c' s' e<;>cases e
 omega
theorem Own.grow {H G:Heap} {w x:V} {m:Nat} {new:List V} (hw:G.wf) (hHG:H.n<=G.n) (h:Own H G v sz n row) (hN:∀ {id:Nat} {f:Nat->List V->R},db id sz G x f=f m new) (hl:new.length=m*sz) (hone:∀ v ∈ new,v.one=true) (hb:n+m<1000000):
 ∃ v' G',(∀ {id:Nat} {ph:cW} {e:Env} {k:K} {a y:Arg},ay a e=v->ay y e=x->aM (.app false sz a y) id ph e G k=k v' G')/\Own H G' v' sz (n+m) (row ++ new)/\G'.wf/\(∀ j,j<G.n->jM v j->G'.get j=G.get j)/\G.n<=G'.n/\(∀ j,j<G.n->jM v j->jM v' j)/\∀ lo,lo<=G.bj->lo<=H.n->lo<=G'.bj:=by
 by_cases hm:m=0
 .subst hm
  have hr:new=[]:=YR (by omega)
  subst hr
  refine ⟨v,G,λ{id ph e k a y} ha hx=>?_,by rw [YV];exact h,hw,λj _ _=>rfl,YA _,λj _ h=>h,λ_ h _=>h⟩
  rw [dF,ha,hx,hN]
  obtain ⟨_,_,⟨rfl,_⟩|⟨b,c,s,r,rfl,_⟩⟩:=h
  .rw [fF,if_pos rfl]
  .rw [cX,if_pos rfl]
 have hne:∀ j,j<G.n->∀ c s l,jM (.slice G.n 0 l c s) j:=λj hj c s l b o n c' s' he=>by cases he;omega
 have hnl:∀ lo,lo<=G.bj->lo<=H.n->∀ (y:eB),lo<=(G.new y).bj:=λlo h1 _ y=>by rw [Heap.B8];exact h1
 obtain ⟨h1,h2,⟨rfl,rfl⟩|⟨b,c,s,rest,rfl,g2,g3,g5,g6⟩⟩:=h
 .have hr:row=[]:=YR (by omega)
  subst hr
  refine ⟨.slice G.n 0 m 0 sz,G.new (.cells new),λ{id ph e k a y} ha hx=>?_,⟨by simp [hl],by simpa using hone,YD ⟨G.n,0,sz,[],by rw [WJ],?_,YD ⟨rfl,rfl,rfl⟩,hHG,by rw [Heap.aN];omega⟩⟩,by rw [Heap.aY];exact hw,λj hj _=>?_,by rw [Heap.aN];omega,λj hj _=>hne j hj _ _ _,λlo a b=>hnl lo a b _⟩
  .rw [dF,ha,hx,hN,fF,if_neg hm,cE hone,if_pos (by omega),cP hw]
  .rw [Heap.aE hw,if_pos rfl,YV];rfl
  .rw [Heap.aE hw,if_neg (by omega)]
 .have hlr:∀ {id:Nat} {g:List V->R},eC id G b 0 (n*sz) g=g row:=λ{id g}=>by
   rw [oI,g2,ir,gE (Yd _),fP (by simp [h1])]
   rw [WV,<- h1,YO3 rfl]
  have hlen:(row ++ new).length=(n+m)*sz:=by rw [YC,h1,hl,Wn]
  have hon:∀ v ∈ row ++ new,v.one=true:=λv hv=>(Yv.1 hv).elim (h2 v) (hone v)
  rcases g3 with rfl|⟨rfl,rfl,rfl⟩
  .refine ⟨.slice G.n 0 (n+m) 0 sz,G.new (.cells (row ++ new)),λ{id ph e k a y} ha hx=>?_,⟨hlen,hon,YD ⟨G.n,0,sz,[],rfl,?_,YD ⟨rfl,rfl,rfl⟩,hHG,by rw [Heap.aN];omega⟩⟩,by rw [Heap.aY];exact hw,λj hj _=>?_,by rw [Heap.aN];omega,λj hj _=>hne j hj _ _ _,λlo a b=>hnl lo a b _⟩
   .rw [dF,ha,hx,hN,cX,if_neg hm,jC (by omega),cE hone,if_pos (by omega),hlr,cE h2,cP hw]
   .rw [Heap.aE hw,if_pos rfl,YV]
   .rw [Heap.aE hw,if_neg (by omega)]
  .rw [YV]at g2
   have hw2:(G.put b .dead).wf:=by rw [Heap.bE];exact hw
   refine ⟨.slice G.n 0 (n+m) 0 s,(G.put b .dead).new (.cells (row ++ new)),λ{id ph e k a y} ha hx=>?_,⟨hlen,hon,YD ⟨G.n,0,s,[],rfl,?_,YD ⟨rfl,rfl,rfl⟩,hHG,by rw [Heap.aN,Heap.aT];omega⟩⟩,by rw [Heap.aY];exact hw2,λj hj ho=>?_,by rw [Heap.aN,Heap.aT];omega,λj hj _=>hne j hj _ _ _,λlo a b'=>?_⟩
   .rw [dF,ha,hx,hN,cX,if_neg hm,pC,cE hone,if_pos (by omega),g2,ir,if_pos h1,fm hw g6,cP hw2,Heap.aT]
   .rw [Heap.aE hw2,if_pos (by rw [Heap.aT]),YV]
   .rw [Heap.aE hw2,if_neg (by rw [Heap.aT];omega),Heap.aF hw g6,if_neg (ho _ _ _ _ _ rfl)]
   .rw [Heap.B8];exact Heap.eW a (by omega)
theorem Own.app {H G:Heap} {w x:V} {m:Nat} {new:List V} (f:ae H G) (h:Own H G v sz n row) (hN:∀ {id:Nat} {f:Nat->List V->R},db id sz G x f=f m new) (hl:new.length=m*sz) (hone:∀ v ∈ new,v.one=true) (hb:n+m<1000000):
 ∃ v' G',(∀ {id:Nat} {ph:cW} {e:Env} {k:K} {a y:Arg},ay a e=v->ay y e=x->aM (.app false sz a y) id ph e G k=k v' G')/\Own H G' v' sz (n+m) (row ++ new)/\ae H G'/\(∀ j,j<G.n->jM v j->G'.get j=G.get j)/\G.n<=G'.n/\∀ j,j<G.n->jM v j->jM v' j:=by
 obtain ⟨v',G',z,o,w',k',n',f',lo'⟩:=Own.grow (w:=w) f.wf f.n h hN hl hone hb
 exact ⟨v',G',z,o,⟨w',Yn f.n n',λb hb=>(k' b (YE hb f.n) (h.off hb)).trans (f.same b hb),λlo h1 h2=>lo' lo (f.lo lo h1 h2) h2⟩,k',n',f'⟩
end
theorem Own.nJ {H G:Heap} {v:V} {sz n j:Nat} {row:List V} {x:eB} (h:Own H G v sz n row) (hw:G.wf) (hj:j<G.n) (ho:jM v j):Own H (G.put j x) v sz n row:=by
 obtain ⟨h1,h2,h|⟨b,c,s,r,rfl,g2,g3,g4,g5⟩⟩:=h
 .exact ⟨h1,h2,YG h⟩
 .exact ⟨h1,h2,YD ⟨b,c,s,r,rfl,by rw [Heap.aF hw hj,if_neg (λe=>ho _ _ _ _ _ rfl e.symm)];exact g2,g3,g4,by rw [Heap.aT];exact g5⟩⟩
theorem Own.put {H G:Heap} {v:V} {sz n:Nat} {row:List V} (h:Own H G v sz n row) (hw:G.wf) (hn:row≠[]):∃ b c s l,v = .slice b 0 n c s/\G.get b = .cells l/\H.n<=b/\b<G.n/\row.length<=l.length/\∀ (i:Nat) (x:V),i<row.length->x.one=true->(G.put b (.cells (l.set i x))).n=G.n/\Own H (G.put b (.cells (l.set i x))) v sz n (row.set i x)/\∀ j,j≠b->(G.put b (.cells (l.set i x))).get j=G.get j:=by
 obtain ⟨h1,h2,⟨_,rfl⟩|⟨b,c,s,rest,g1,g2,g3,g4,g5⟩⟩:=h
 .exact absurd (YR (by omega)) hn
 refine ⟨b,c,s,row ++ rest,g1,g2,g4,g5,by simp,λi x hi hx=>?_⟩
 obtain ⟨G1,hG1,-,p1,p2,p3,p4⟩:=Heap.bd (ae.refl hw |> λf=>(⟨f.wf,Yd _,λj hj=>absurd hj (WY _),λlo _ h=>by rw [show lo=0 from Nat.le_zero.1 h];exact Yd _⟩:ae (.mk 0 0 .e) G)) (Yd _) g5 (.cells ((row ++ rest).set i x))
 rw [hG1]
 refine ⟨p2,⟨by simp [h1],λy hy=>?_,YD ⟨b,c,s,rest,g1,?_,g3,g4,by omega⟩⟩,p4⟩
 .rcases List.mem_or_eq_of_mem_set hy with hy|rfl
  .exact h2 y hy
  .exact hx
 .rw [p1,List.set_append_left _ _ hi]
theorem kh {G} {X sz c s} {new} (hX:G.get X = .cells new) (hl:new.length=sz) {id} {f}:db id sz G (.slice X 0 1 c s) f=f 1 new:=by
 rw [dS,if_neg (by omega),BC,hX,mS,gE (Yd _),fP (by simp_all),WV,YA2,Ya (by omega)]
def dh (H:Heap) (O:Nat->Prop) (v:V) (l:List Nat):Prop:=Row H O v 1 l.length (l.map (V.int 3))
theorem dh.open {H:Heap} {O:Nat->Prop} {v:V} {l:List Nat} (h:dh H O v l) {i:Nat} (hi:i<l.length):∃ b o c s,v = .slice b o l.length c s/\b<H.n/\¬ O b/\∀ {G:Heap},G.get b=H.get b->∀ {id:Nat} {k:V->R},LR id (G.get b) (o+i) k=k (.int 3 l[i]):=by
 obtain ⟨b,o,c,z,h1,h2,h3,h4⟩:=Row.open h hi
 refine ⟨b,o,c,z,h1,h2,h3,λ{G} hG {id k}=>?_⟩
 have:=(h4 hG).2 (x:=.int 3 l[i]) (by simp [hi]) (id:=id) (k:=k)
 rw [WO]at this
 exact this
theorem zA {x}:∀ {n},gU n [x]=Yg n x
 | 0=>rfl
 | n+1=>by show [x] ++ gU n [x]=_;rw [zA];rfl
section
variable {id:Nat} {ph:cW} {e:Env} {H:Heap} {k:K}
theorem HA {z} {l c}:aM (.mkSlice false z l c) id ph e H k=cw id (ay l e) λkl l=>cw id (ay c e) λkc c=>if 3<=kl then (if 3<=kc then (if l<=c then (if c<=16777216 then aZ id (gU c z) (cm H (.cells (gU c z)) λb H=>k (.slice b 0 l (c+1) 0) H) else no 0) else no 0) else no 0) else no 0:=by
 show aH l e (λl=>cw id l λkl l=>aH c e λc=>cw id c λkc c=>aD (YS 3 kl) (aD (YS 3 kc) (aD (YS l c) (aD (YS c 16777216)
  (T8 z c λr=>aZ id r (cm H (.cells r) λb H=>av (WI c) λc1=>k (.slice b 0 l c1 0) H)) (no 0)) (no 0)) (no 0)) (no 0))=_
 simp only [aq,bA,mc,aw,BI]
theorem T9 {s s'}:tI [.CO s,.CO s'] k e H=ei 0 (aa s e) λb o=>nv 0 H b o λv=>ei 0 (aa s' e) λb1 o1=>nv 0 H b1 o1 λu=>k (.cV [v,u]) H:=by
 show jz s e (λv=>ei 0 v λb o=>nv 0 H b o λv=>jz s' e λu=>ei 0 u λb1 o1=>nv 0 H b1 o1 λu=>k (.cV [v,u]) H)=_
 simp only [eg]
theorem Bl {x} {n kl m} {a} (hm:H.n=m) (hw:H.wf) (hx:x.one=true) (hn:n<=16777216) (hk:3<=kl):∃ G,ae H G/\Own H G (.slice m 0 n (n+1) 0) 1 n (Yg n x)/\G.get m = .cells (Yg n x)/\G.n=m+1/\∀ {id} {ph} {e} {k},ay a e = .int kl n->aM (.mkSlice false [x] a a) id ph e H k=k (.slice m 0 n (n+1) 0) G:=by
 subst hm
 obtain ⟨G,hG,f,g,n1⟩:=Heap.aU hw (.cells (Yg n x))
 have ho:∀ y ∈ Yg n x,y.one=true:=λy hy=>by simp_all
 refine ⟨G,f,⟨by simp,ho,YD ⟨H.n,n+1,0,[],rfl,by simp_all,YG rfl,YA _,by omega⟩⟩,g,n1,λ{id ph e k} ha=>?_⟩
 rw [HA,ha,xK,xK,if_pos hk,if_pos hk,if_pos (YA _),if_pos hn,zA,cE ho,cP hw,hG]
end
theorem bV {c} {fuel} {ph:Nat->cW} {σ:Type} {I:Nat->σ->Heap->Prop} {S:Nat->σ->Env->Prop} {n}
 (step:∀ (i) (s) (G),i<n->I i s G->∃ s' G',I (i+1) s' G'/\∀ (d) (kx) (r) (e) (x),S i s e->(∀ e',S (i+1) s' e'->jF c fuel (ph d) kx r e' G'=x)->jF c fuel (ph d) kx (r+1) e G=x):
 ∀ (m i) (s) (G),i+m=n->I i s G->∃ s' G',I n s' G'/\∀ (d) (kx) (r) (e) (x),m<r->S i s e->(∀ r e',S n s' e'->jF c fuel (ph d) kx (r+1) e' G'=x)->jF c fuel (ph d) kx r e G=x
 | 0,i,s,G,hi,h=>⟨s,G,by simp_all,λd kx r e x hr hs hk=>by
  obtain ⟨r,rfl⟩:∃ q,r=q+1:=⟨r-1,by omega⟩
  simp_all⟩
 | m+1,i,s,G,hi,h=>by
  obtain ⟨s1,G1,h1,z1⟩:=step i s G (by omega) h
  obtain ⟨s',G',h',z'⟩:=bV step m (i+1) s1 G1 (by omega) h1
  refine ⟨s',G',h',λd kx r e x hr hs hk=>?_⟩
  obtain ⟨r,rfl⟩:∃ q,r=q+1:=⟨r-1,by omega⟩
  exact z1 d kx r e x hs λe' hs'=>z' d kx r e' x (by omega) hs' hk
theorem iI {c} {fuel} {ph:Nat->cW} {σ τ:Type} {I:Nat->σ->Heap->Prop} {S:Nat->σ->Env->Prop} {J:τ->Heap->Prop} {Q:τ->Env->Prop} {j:τ->Nat} {n}
 (step:∀ (i) (s) (G),i<n->I i s G->
  (∃ s' G',I (i+1) s' G'/\∀ (d) (kx) (r) (e) (x),S i s e->(∀ e',S (i+1) s' e'->jF c fuel (ph d) kx r e' G'=x)->jF c fuel (ph d) kx (r+1) e G=x)\/
  (∃ q G',J q G'/\∀ (d) (kx) (r) (e) (x),S i s e->(∀ e',Q q e'->kx (j q) e' G'=x)->jF c fuel (ph d) kx (r+1) e G=x)):
 ∀ (m i) (s) (G),i+m=n->I i s G->
  (∃ s' G',I n s' G'/\∀ (d) (kx) (r) (e) (x),m<r->S i s e->(∀ r e',S n s' e'->jF c fuel (ph d) kx (r+1) e' G'=x)->jF c fuel (ph d) kx r e G=x)\/
  (∃ q G',J q G'/\∀ (d) (kx) (r) (e) (x),m<r->S i s e->(∀ e',Q q e'->kx (j q) e' G'=x)->jF c fuel (ph d) kx r e G=x)
 | 0,i,s,G,hi,h=>YG ⟨s,G,by simp_all,λd kx r e x hr hs hk=>by
  obtain ⟨r,rfl⟩:∃ q,r=q+1:=⟨r-1,by omega⟩
  simp_all⟩
 | m+1,i,s,G,hi,h=>by
  rcases step i s G (by omega) h with ⟨s1,G1,h1,z1⟩|⟨q,G1,h1,z1⟩
  .rcases iI step m (i+1) s1 G1 (by omega) h1 with ⟨s',G',h',z'⟩|⟨q,G',h',z'⟩
   .refine YG ⟨s',G',h',λd kx r e x hr hs hk=>?_⟩
    obtain ⟨r,rfl⟩:∃ q,r=q+1:=⟨r-1,by omega⟩
    exact z1 d kx r e x hs λe' hs'=>z' d kx r e' x (by omega) hs' hk
   .refine YD ⟨q,G',h',λd kx r e x hr hs hk=>?_⟩
    obtain ⟨r,rfl⟩:∃ q,r=q+1:=⟨r-1,by omega⟩
    exact z1 d kx r e x hs λe' hs'=>z' d kx r e' x (by omega) hs' hk
  .refine YD ⟨q,G1,h1,λd kx r e x hr hs hk=>?_⟩
   obtain ⟨r,rfl⟩:∃ q,r=q+1:=⟨r-1,by omega⟩
   simp_all
end Go.Ev
end
section
namespace Go.Ev
section
variable {cp:RC->ai} {t:Nat->Option cF} {fuel:Nat} {H:Heap} {O:Nat->Prop}
theorem sW {F sz n} {v} {row}
 (ht:t F=some (.code [s000] [.tmp s002] (.seq (.uu [oP rQ (.iV (.c .aB))]) (.seq (.seq (.uu [oP vX (.iV nR),oP kN (.eqv 2 false lA (.c .aB))]) (.cond kM (.seq (.uu [oP rQ (.iV (.c .aB))]) .ret) .skip)) (.seq (.uu [oP nF (.jP false 0 [] []),oP AE (.iV nR),oP xW (.app false sz fL ju),oP rQ (.iV gv)]) .ret)))))
 (hw:H.wf) (h:Row H O v sz n row) (hn:n<1000000):
 ∃ H' v',(∀ (d) (k),aj (aQ cp t fuel (d+1)) (.func (2*F) []) [v] H k=k v' H')/\ae H H'/\Own H H' v' sz n row:=by
 have hF:2*F%2=0:=by omega
 have hF2:2*F/2=F:=by omega
 by_cases hv:v = .aB
 .subst hv
  obtain ⟨h1,h2,⟨_,rfl⟩|⟨b,o,c,s,l,e,_⟩⟩:=h
  .have hr:row=[]:=YR (by omega)
   subst hr
   refine ⟨H,.aB,λd k=>?_,ae.refl hw,Own.nil⟩
   rw [ax ht hF hF2]
   rfl
  simp_all
 .obtain ⟨G,hG,f,g,n1⟩:=Heap.aU hw (.cells [])
  obtain ⟨v',G',z,ho,f',_⟩:=Own.app (w:=v) f (row:=[]) ⟨by simp,λx hx=>(by cases hx),YD ⟨H.n,1,0,[],rfl,g,YG rfl,YA _,by omega⟩⟩ (λ{id f'}=>h.nc λb hb _=>f.same b hb) h.1 h.2.1 (by omega)
  rw [WJ,YT]at ho
  refine ⟨G',v',λd k=>?_,f',ho⟩
  obtain ⟨b,o,l,c,s,rfl⟩:∃ b o l c s,v = .slice b o l c s:=by
   obtain ⟨_,_,⟨rfl|⟨_,_,_,_,rfl⟩,_⟩|⟨_,_,_,_,_,rfl,_⟩⟩:=h
   .simp_all
   .simp
   simp
  rw [ax ht hF hF2]
  simp only [go_sem,hw,hG,↓z]
theorem fW (T:aG t) {n} {v} {row} (hw:H.wf) (h:Row H O v 1 n row) (hn:n<1000000):
 ∃ H' v',(∀ (d) (k),aj (aQ cp t fuel (d+1)) (.func 70 []) [v] H k=k v' H')/\ae H H'/\Own H H' v' 1 n row:=sW T.k35 hw h hn
def tm (n:Nat):List Nat->List Nat->Bool->Option Bool
 | [],_,tw=>some tw
 | p :: l,seen,tw=>if p=0 then tm n l seen tw else if p<193\/n<=p then none else tm n l (if p ∈ seen then seen else seen ++ [p]) (tw || decide (p ∈ seen))
def oz (l:List Nat) (blocks n:Nat):Nat:=if blocks<1\/8<blocks\/l.length≠blocks then 2 else match tm n l [] false with
 | none=>2
 | some tw=>if tw=true then 16 else 0
theorem PX:∀ (l) (a),a ∈ l->Ce (lW l) a (.int 3 1)=lW l
 | [],a,h=>by cases h
 | b :: l,a,h=>by
  show (if b=a then (b,.int 3 1):: lW l else (b,.int 3 1):: Ce (lW l) a (.int 3 1))=(b,.int 3 1):: lW l
  by_cases hb:b=a
  .simp_all
  .rw [if_neg hb,PX l a ((YP.1 h).resolve_left λe=>hb e.symm)]
theorem BW (l) (a):Ce (lW l) a (.int 3 1)=lW (if a ∈ l then l else l ++ [a]):=by
 by_cases h:a ∈ l
 .rw [if_pos h,PX l a h]
 .rw [if_neg h,xI l a h]
theorem lD (T:aG t) {v:V} {l:List Nat} {blocks n:Nat} (hw:H.wf) (h:dh H O v l) (hl:l.length<1000000) (hp:∀ p ∈ l,nn p) (hb:nn blocks) (hn:nn n) (hfu:l.length<fuel):
 ∃ H',(∀ (d:Nat) (k:K),aj (aQ cp t fuel (d+1)) (.func 206 []) [v,.int 3 blocks,.int 3 n] H k=k (.int 3 (oz l blocks n)) H')/\ae H H':=by
 have hs:=λ{id} {f}=>h.sn (id:=id) (f:=f)
 have hi:=λ{id} {k}=>aI h.one (id:=id) (k:=k)
 have e1:l.length<9223372036854775808:=by omega
 have nl:nn l.length:=by unfold nn;omega
 by_cases hbad:blocks<1\/8<blocks\/l.length≠blocks
 .refine ⟨H,λd k=>?_,ae.refl hw⟩
  rw [oz,if_pos hbad,aR T.Tp rfl rfl]
  by_cases h1:blocks<1
  .simp only [go_sem,ZE,J2,hb,h1]
  .by_cases h2:8<blocks
   .simp only [go_sem,ZE,J2,hb,h1,h2]
   .have h3:l.length≠blocks:=by omega
    simp only [go_sem,ZE,J2,hb,h1,h2,↓hs,e1,h3]
 have h1:¬ blocks<1:=by omega
 have h2:¬ 8<blocks:=by omega
 have h3:l.length=blocks:=by omega
 subst h3
 obtain ⟨G,hG,f,g,n1⟩:=Heap.aU hw (.map [])
 rcases iI (c:=mH) (σ:=List Nat × Bool) (j:=λ_=>0)
  (I:=λi s G'=>ae H G'/\G'.get H.n = .map (eN (lW s.1))/\H.n<G'.n/\tm n l [] false=tm n (l.drop i) s.1 s.2)
  (S:=λi s e=>aa s002 e = .int 3 n/\aa s007 e = .map H.n/\aa s010 e = .bool s.2/\aa s030 e=v/\aa s031 e = .int 3 l.length/\aa s032 e = .int 3 i)
  (J:=λ_ G'=>ae H G'/\tm n l [] false=none) (Q:=λ_ e=>aa s006 e = .int 3 2) (λi s G1 hil ⟨f1,g1,n1,r1⟩=>by
   obtain ⟨b,o,c,z,rfl,hbn,hbO,hrd⟩:=h.open hil
   have hrd:=λ{id} {k}=>@hrd G1 (f1.same b hbn) id k
   have hpp:=hp l[i] (Yl hil)
   rw [QB hil]at r1
   generalize l[i]=p at hrd hpp r1
   have e3:nn i:=by unfold nn;omega
   have e4:i<9223372036854775808:=by omega
   have e5:(i+1)%18446744073709551616=i+1:=by omega
   have w1:=f1.wf
   have hlk:=wU s.1 p
   simp only [tm]at r1
   by_cases p0:p=0
   .rw [if_pos p0]at r1
    refine YG ⟨s,G1,⟨f1,g1,n1,r1⟩,λd kx r e x ⟨q2,q7,q10,q30,q31,q32⟩ hk=>?_⟩
    rw [ak]
    simp only [go_sem,mH,q30,q31,q32,hil,nl,e3,e4,e5,↓hrd,p0]
    exact hk _ (by simp only [go_sem,q2,q7,q10,q30,q31])
   rw [if_neg p0]at r1
   by_cases p1:p<193
   .rw [if_pos (YG p1)]at r1
    refine YD ⟨(),G1,⟨f1,r1⟩,λd kx r e x ⟨q2,q7,q10,q30,q31,q32⟩ hk=>?_⟩
    rw [ak]
    simp only [go_sem,ZE,mH,q30,q31,q32,hil,nl,e3,e4,↓hrd,p0,p1,hpp]
    exact hk _ rfl
   by_cases p2:n<=p
   .rw [if_pos (YD p2)]at r1
    refine YD ⟨(),G1,⟨f1,r1⟩,λd kx r e x ⟨q2,q7,q10,q30,q31,q32⟩ hk=>?_⟩
    rw [ak]
    simp only [go_sem,ZE,mH,q2,q30,q31,q32,hil,nl,e3,e4,↓hrd,p0,p1,p2,hpp,hn]
    exact hk _ rfl
   rw [if_neg (by omega)]at r1
   obtain ⟨G2,hG2,f2,g2,n2,w2,o2⟩:=Heap.bd f1 (YA _) n1 (.map (eN (lW (if p ∈ s.1 then s.1 else s.1 ++ [p]))))
   refine YG ⟨(if p ∈ s.1 then s.1 else s.1 ++ [p],s.2 || decide (p ∈ s.1)),G2,⟨f2,g2,by omega,r1⟩,λd kx r e x ⟨q2,q7,q10,q30,q31,q32⟩ hk=>?_⟩
   have e6:∀ (q) [Decidable q],(if q then V.bool true else V.bool false) = .bool (decide q):=λq _=>by by_cases hq:q<;>simp [hq]
   rw [ak]
   cases htw:s.2 with
   | true=>
    rw [htw]at q10 hk
    simp only [go_sem,ZE,mH,q2,q7,q10,q30,q31,q32,hil,nl,e3,e4,e5,↓hrd,p0,p1,p2,hpp,hn,g1,w1,n1,BW,hG2]
    exact hk _ (by simp only [go_sem,q2,q7,q30,q31,Bool.true_or])
   | false=>
    rw [htw]at q10 hk
    by_cases hm:p ∈ s.1
    .rw [if_pos hm]at hlk
     simp only [go_sem,ZE,mH,q2,q7,q10,q30,q31,q32,hil,nl,e3,e4,e5,↓hrd,p0,p1,p2,hpp,hn,g1,w1,n1,hlk,BW,hG2]
     exact hk _ (by simp only [go_sem,q2,q7,q30,q31,hm,decide_true,Bool.or_true])
    .rw [if_neg hm]at hlk
     simp only [go_sem,ZE,mH,q2,q7,q10,q30,q31,q32,hil,nl,e3,e4,e5,↓hrd,p0,p1,p2,hpp,hn,g1,w1,n1,hlk,BW,hG2]
     exact hk _ (by simp only [go_sem,q2,q7,q30,q31,hm,decide_false,Bool.or_false])) l.length 0 ([],false) G (by omega) ⟨f,g,by omega,rfl⟩ with ⟨⟨sn,tw⟩,G',⟨f',g',n',r'⟩,z⟩|⟨_,G',⟨f',r'⟩,z⟩
 .rw [YC0]at r'
  refine ⟨G',λd k=>?_,f'⟩
  rw [oz,if_neg hbad,r',aR T.Tp rfl rfl]
  simp only [go_sem,ZE,J2,hb,h1,h2,↓hs,e1,hw,hG]
  refine z d _ fuel _ _ (by omega) ⟨by simp only [go_sem],by simp only [go_sem],by simp only [go_sem],by simp only [go_sem],by simp only [go_sem],by simp only [go_sem]⟩ λr e' ⟨q2,q7,q10,q30,q31,q32⟩=>?_
  have e7:¬ l.length<l.length:=by omega
  rw [ak]
  cases tw<;>simp only [go_sem,mH,q10,q31,q32,nl,e7,tm]
 .refine ⟨G',λd k=>?_,f'⟩
  rw [oz,if_neg hbad,r',aR T.Tp rfl rfl]
  simp only [go_sem,ZE,J2,hb,h1,h2,↓hs,e1,hw,hG]
  refine z d _ fuel _ _ (by omega) ⟨by simp only [go_sem],by simp only [go_sem],by simp only [go_sem],by simp only [go_sem],by simp only [go_sem],by simp only [go_sem]⟩ λe' q=>?_
  simp only [go_sem,q]
theorem Bb (T:aG t) {v} {l} {b s} (hw:H.wf) (h:dh H O v l) (hl:l.length<1000000) (hb:b<l.length) (hs:nn s):
 ∃ H' v',(∀ (d) (k),aj (aQ cp t fuel (d+2)) (.func 106 []) [v,.int 3 b,.int 3 s] H k=k (.cV [v',.int 3 0]) H')/\ae H H'/\Own H H' v' 1 l.length ((l.set b s).map (V.int 3)):=by
 obtain ⟨G,v',z,f,ho⟩:=fW (cp:=cp) (fuel:=fuel) T hw h hl
 obtain ⟨q,c,y,m,rfl,g2,g3,g4,g5,g6⟩:=ho.put f.wf (by intro e;rw [List.map_eq_nil_iff]at e;rw [e]at hb;simp at hb)
 rw [WB]at g5 g6
 obtain ⟨-,o2,-⟩:=g6 b (.int 3 s) hb rfl
 have f2:ae H (G.put q (.cells (m.set b (.int 3 s)))):=f.put g3 g4
 have hsn:=λ{id} {f}=>h.sn (id:=id) (f:=f)
 have e1:nn b:=by unfold nn;omega
 have e2:nn l.length:=by unfold nn;omega
 have e3:b<9223372036854775808:=by omega
 have e4:l.length<9223372036854775808:=by omega
 have e5:b<m.length:=by omega
 have e6:¬ l.length<=b:=by omega
 have w1:=f.wf
 have z':=λ{d} {k}=>z d k
 rw [<- List.map_set]at o2
 refine ⟨_,_,λd k=>?_,f2,o2⟩
 rw [aR T.k53 rfl rfl]
 simp only [go_sem,ZE,c53,↓hsn,e1,e2,e3,e4,e5,e6,hs,hb,z',g2,g4,w1,WY]
end
end Go.Ev
end
section
namespace Go.Ev
abbrev Gd:=Nat × Nat
def jm (g:Gd):Prop:=g.1<18446744073709551616/\g.2<18446744073709551616
def jR (a b:Nat):Nat:=if a<b then 18446744073709551615 else if b<a then 1 else 0
def Y4 (a b:Gd):Nat:=if jR a.1 b.1=0 then jR a.2 b.2 else jR a.1 b.1
def Du (a b:Gd):Prop:=b.1<a.1\/a.1=b.1/\b.2<a.2
instance (a b:Gd):Decidable (Du a b):=inferInstanceAs (Decidable (_\/_))
theorem rN (a b):jR a b=18446744073709551615/\a<b\/jR a b=1/\b<a\/jR a b=0/\a=b:=by
 unfold jR
 grind
theorem JB (a b):(dW (.le 9223372036854775808 18446744073709551616) (Y4 a b) 0=true) = ¬ Du a b:=by
 rw [MV]
 apply propext
 unfold Y4 Du
 rcases rN a.1 b.1 with ⟨h,h'⟩|⟨h,h'⟩|⟨h,h'⟩
 .grind
 .simp_all
 .rw [h,if_pos rfl]
  rcases rN a.2 b.2 with ⟨g,g'⟩|⟨g,g'⟩|⟨g,g'⟩<;>rw [g]<;>constructor<;>intro _<;>omega
section
variable {cp:RC->ai} {t:Nat->Option cF} {fuel:Nat} {H:Heap} {O:Nat->Prop}
theorem vQ (T:aG t) {a b} (ha:a<18446744073709551616) (hb:b<18446744073709551616) (d) (k):aj (aQ cp t fuel (d+2)) (.func 242 []) [.int 7 a,.int 7 b] H k=k (.int 3 (jR a b)) H:=by
 have z:∀ {x} {k},aj (aQ cp t fuel (d+1)) (.func 298 []) [.int 7 x] H k=k (.bool false) H:=λ{x k}=>by
  rw [aR T.abN rfl rfl]
  simp only [go_sem,aaD]
 have e1:=wX ha hb
 have e2:=jX ha hb
 rw [aR T.abt rfl rfl]
 rcases rN a b with ⟨h,h'⟩|⟨h,h'⟩|⟨h,h'⟩
 .rw [h]
  simp only [go_sem,Sh,z,e1,h']
 .rw [h]
  have h2:¬ a<b:=by omega
  simp only [go_sem,Sh,z,e1,e2,h',h2]
 .rw [h]
  have h2:¬ a<b:=by omega
  have h3:¬ b<a:=by omega
  simp only [go_sem,Sh,z,e1,e2,h3,h2]
theorem TZ (T:aG t) {b x y c s} (hb:H.get b = .cells [.int 3 x,.int 3 y]) (hfu:10<fuel) (d) (k):aj (aQ cp t fuel (d+1)) (.func 282 []) [.slice b 0 2 c s] H k=k (.int 3 (if x=0 then y else x)) H:=by
 obtain ⟨f,rfl⟩:∃ f,fuel=f+3:=⟨fuel-3,by omega⟩
 have e0:nn 0:=by unfold nn;omega
 have e1:nn 1:=by unfold nn;omega
 have e2:nn 2:=by unfold nn;omega
 rw [aR T.abI rfl rfl]
 simp only [go_sem,ZE,aaz]
 rw [ak]
 by_cases hx:x=0
 .simp only [go_sem,ZE,FQ,e0,e2,hb,hx]
  rw [ak]
  by_cases hy:y=0
  .simp only [go_sem,ZE,e1,e2,hb,hy]
   rw [ak]
   simp only [go_sem,ZE,e2]
  .simp only [go_sem,ZE,e1,e2,hb,hy]
 .simp only [go_sem,ZE,FQ,e0,e2,hb,hx]
def bq (g:Gd):List V:=[.int 7 g.1,.int 7 g.2]
theorem xg (T:aG t) {a b} (hw:H.wf) (ha:jm a) (hb:jm b) (hfu:10<fuel):∃ H',(∀ (d) (k),aj (aQ cp t fuel (d+3)) (.func 208 []) [.agg (bq a),.agg (bq b)] H k=k (.int 3 (Y4 a b)) H')/\ae H H':=by
 obtain ⟨G1,hG1,f1,p1,n1⟩:=Heap.aU hw (.cells (bq a))
 obtain ⟨G2,hG2,f2,p2,n2⟩:=Heap.gO (by omega) f1.wf (.cells (bq b))
 obtain ⟨G3,hG3,f3,p3,n3⟩:=Heap.gO (by omega) f2.wf (.cells [.int 3 (jR a.1 b.1),.int 3 (jR a.2 b.2)])
 refine ⟨G3,λd k=>?_,f1.trans (f2.trans f3)⟩
 have w1:=f1.wf
 have w2:=f2.wf
 have N2:G2.n=H.n+2:=by omega
 have q1:=(f2.same _ (by omega)).trans p1
 have z1:=λ{H} {d} {k}=>vQ (cp:=cp) (fuel:=fuel) (H:=H) T ha.1 hb.1 d k
 have z2:=λ{H} {d} {k}=>vQ (cp:=cp) (fuel:=fuel) (H:=H) T ha.2 hb.2 d k
 have z3:=λ{d} {k}=>TZ (cp:=cp) (c:=3) (s:=0) T p3 hfu d k
 simp only [bq]at q1 p2 hG1 hG2
 rw [aR T.abo rfl rfl]
 have u1:=by omega
 simp only [go_sem,aan,bq,hw,hG1,w1,hG2,n1,q1,p2,↓z1,↓z2,w2,hG3,N2,z3]
 rfl
structure Sn where
 g:Gd
 cD:List Nat
 hid:Bool
structure Tk where
 b:Gd
 t:Gd
 next:Nat
 all:Nat
 cD:List Nat
structure MT where
 live:List Nat
 ah:List Sn
 tok:Tk
def Jy (l:List Nat):Prop:=l.length<100/\∀ p ∈ l,nn p
structure lg (m:MT):Prop where
 live:Jy m.live
 num:m.ah.length<1000
 ah:∀ s ∈ m.ah,jm s.g/\Jy s.cD
 tok:jm m.tok.b/\jm m.tok.t/\nn m.tok.next/\nn m.tok.all/\Jy m.tok.cD
def bQ (s:Sn) (x:V):List V:=[.int 7 s.g.1,.int 7 s.g.2,x,.bool s.hid]
def dG:List Sn->List V->List V
 | s :: ss,x :: xs=>bQ s x ++ dG ss xs
 | _,_=>[]
def cg (t:Tk) (x:V):List V:=[.int 7 t.b.1,.int 7 t.b.2,.int 7 t.t.1,.int 7 t.t.2,.int 3 t.next,.int 3 t.all,x]
theorem uT:∀ {ss} {xs} {i} {s} {x},ss[i]? = some s->xs[i]? = some x->((dG ss xs).drop (i*4)).take 4=bQ s x
 | [],_,i,s,x,h,_=>by simp_all
 | _ :: _,[],i,s,x,_,h=>by simp_all
 | a :: ss,b :: xs,0,s,x,h,h'=>by
  simp at h h'
  subst h h'
  rfl
 | a :: ss,b :: xs,i+1,s,x,h,h'=>by
  have:=uT (by simpa using h) (by simpa using h')
  rw [show (i+1)*4=i*4+4 by omega]
  exact this
def ib (H:Heap) (O:Nat->Prop) (v:V) (ss:List Sn):Prop:=∃ xs,Row H O v 4 ss.length (dG ss xs)/\xs.length=ss.length/\∀ (i:Nat) (s:Sn),ss[i]? = some s->∃ x,xs[i]? = some x/\dh H O x s.cD
theorem ib.dm {G:Heap} {Q:Nat->Prop} {v:V} {ss:List Sn} (h:ib H O v ss) (s:Step H O G Q):ib G Q v ss:=
 let ⟨xs,h1,h0,h2⟩:=h
 ⟨xs,h1.dm s,h0,λi s' hs=>let ⟨x,a,b⟩:=h2 i s' hs; ⟨x,a,b.dm s⟩⟩
theorem ib.fresh {G:Heap} {v:V} {ss:List Sn} (h:ib H O v ss) (s:ae H G):ib G O v ss:=h.dm s.step
structure gj (H:Heap) (O:Nat->Prop) (m:MT) (vl vs vi:V):Prop where
 live:dh H O vl m.live
 ah:ib H O vs m.ah
 cD:dh H O vi m.tok.cD
theorem gj.dm {G:Heap} {Q:Nat->Prop} {m:MT} {vl vs vi:V} (h:gj H O m vl vs vi) (s:Step H O G Q):gj G Q m vl vs vi:=⟨h.live.dm s,h.ah.dm s,h.cD.dm s⟩
theorem gj.fresh {G:Heap} {m:MT} {vl vs vi:V} (h:gj H O m vl vs vi) (s:ae H G):gj G O m vl vs vi:=h.dm s.step
def yj (blocks n:Nat):Gd->List Sn->Nat × Gd
 | last,[]=>(0,last)
 | last,s :: ss=>if Du s.g last then (if oz s.cD blocks n=0 then yj blocks n s.g ss else (oz s.cD blocks n,last)) else (2,last)
def kS (t:Tk) (last:Gd) (blocks n:Nat):Nat:=
 if t.t=(0,0) then (if t.b=(0,0)/\t.next=0/\t.all=0/\t.cD.length=0 then 0 else 2)
 else if t.b=last/\Du t.t last/\1<=t.next/\t.next<t.all/\t.all<=blocks then oz t.cD blocks n else 2
def KK (m:MT) (blocks n:Nat):Nat:=if oz m.live blocks n=0 then (if 20<m.ah.length then 3 else if (yj blocks n (0,0) m.ah).1=0 then kS m.tok (yj blocks n (0,0) m.ah).2 blocks n else (yj blocks n (0,0) m.ah).1) else oz m.live blocks n
theorem It (T:aG t) {tk:Tk} {last:Gd} {x:V} {blocks n:Nat} (hw:H.wf) (hx:dh H O x tk.cD) (h1:jm tk.b) (h2:jm tk.t) (h3:nn tk.next) (h4:nn tk.all) (h5:Jy tk.cD) (hl:jm last) (hb:nn blocks) (hn:nn n) (hfu:1000<fuel):
 ∃ H',(∀ (d:Nat) (k:K),aj (aQ cp t fuel (d+4)) (.func 210 []) [.agg (cg tk x),.agg (bq last),.int 3 blocks,.int 3 n] H k=k (.int 3 (kS tk last blocks n)) H')/\ae H H':=by
 obtain ⟨G1,hG1,f1,p1,n1⟩:=Heap.aU hw (.cells (cg tk x))
 obtain ⟨G2,hG2,f2,p2,n2⟩:=Heap.gO (by omega) f1.wf (.cells (bq last))
 have f12:=f1.trans f2
 have w1:=f1.wf
 have w2:=f2.wf
 have q1:=(f2.same _ (by omega)).trans p1
 have hi:=λ{id} {k}=>aI hx.one (id:=id) (k:=k)
 have hs:=λ{id} {f}=>hx.sn (id:=id) (f:=f)
 have h6:tk.cD.length<9223372036854775808:=by have:=h5.1;omega
 have u1:=by omega
 simp only [cg,bq]at hG1 hG2 q1 p2
 by_cases ht:tk.t=(0,0)
 .have t1:tk.t.1=0:=by rw [ht]
  have t2:tk.t.2=0:=by rw [ht]
  by_cases hg:tk.b=(0,0)/\tk.next=0/\tk.all=0/\tk.cD.length=0
  .have hr:kS tk last blocks n=0:=by unfold kS;rw [if_pos ht,if_pos hg]
   obtain ⟨g1,g2,g3,g4⟩:=hg
   have b1:tk.b.1=0:=by rw [g1]
   have b2:tk.b.2=0:=by rw [g1]
   refine ⟨G2,λd k=>?_,f12⟩
   rw [hr,aR T.rY rfl rfl]
   simp only [t1,t2,b1,b2,g2,g3]at hG1 q1
   simp only [go_sem,ZE,rM,cg,bq,hw,↓hi,hG1,w1,hG2,n1,q1,↓cJ,↓cA,↓dK,↓hs,t1,t2,b1,b2,g2,g3,g4]
  .have hr:kS tk last blocks n=2:=by unfold kS;rw [if_pos ht,if_neg hg]
   by_cases b1:tk.b.1=0
   .by_cases b2:tk.b.2=0
    .have b0:tk.b=(0,0):=YJ4 b1 b2
     by_cases b3:tk.next=0
     .by_cases b4:tk.all=0
      .have b5:¬ tk.cD.length=0:=λh=>hg ⟨b0,b3,b4,h⟩
       refine ⟨G2,λd k=>?_,f12⟩
       rw [hr,aR T.rY rfl rfl]
       simp only [t1,t2,b1,b2,b3,b4]at hG1 q1
       simp only [go_sem,rM,cg,bq,hw,↓hi,hG1,w1,hG2,n1,q1,u1,↓cJ,↓cA,↓dK,↓hs,t1,t2,b1,b2,b3,b4,b5]
      .refine ⟨G2,λd k=>?_,f12⟩
       rw [hr,aR T.rY rfl rfl]
       simp only [t1,t2,b1,b2,b3]at hG1 q1
       simp only [go_sem,rM,cg,bq,hw,↓hi,hG1,w1,hG2,n1,q1,↓cJ,↓cA,↓dK,t1,t2,b1,b2,b3,b4]
     .refine ⟨G2,λd k=>?_,f12⟩
      rw [hr,aR T.rY rfl rfl]
      simp only [t1,t2,b1,b2]at hG1 q1
      simp only [go_sem,rM,cg,bq,hw,↓hi,hG1,w1,hG2,n1,q1,↓cJ,↓cA,↓dK,t1,t2,b1,b2,b3]
    .refine ⟨G2,λd k=>?_,f12⟩
     rw [hr,aR T.rY rfl rfl]
     simp only [t1,t2,b1]at hG1 q1
     simp only [go_sem,rM,cg,bq,hw,↓hi,hG1,w1,hG2,n1,q1,↓cJ,↓cA,↓dK,t1,t2,b1,b2]
   .refine ⟨G2,λd k=>?_,f12⟩
    rw [hr,aR T.rY rfl rfl]
    simp only [t1,t2]at hG1 q1
    simp only [go_sem,rM,cg,bq,hw,↓hi,hG1,w1,hG2,n1,q1,↓cJ,↓cA,↓dK,t1,t2,b1]
 have ht0:¬ (tk.t.1=0/\tk.t.2=0):=λh=>ht (YJ4 h.1 h.2)
 have ht1:∀ {id} {f},jU id [1,1] [.int 7 tk.t.1,.int 7 tk.t.2] [.int 7 0,.int 7 0] f=f false:=λ{id f}=>by
  by_cases a1:tk.t.1=0
  .have a2:¬ tk.t.2=0:=λh=>ht0 ⟨a1,h⟩
   simp only [cA,a1,a2,if_true,if_false]
  .simp only [cA,a1,if_false]
 obtain ⟨H3,z3,f3⟩:=xg (cp:=cp) (fuel:=fuel) T w2 h2 hl (by omega)
 have f13:=f12.trans f3
 have r1:H3.get H.n = .cells (cg tk x):=by rw [f3.same _ (by omega),q1];rfl
 have r2:H3.get (H.n+1) = .cells (bq last):=by rw [f3.same _ (by omega),p2];rfl
 have z3:=λ{d} {k}=>z3 d k
 have e3:=JB tk.t last
 simp only [cg,bq]at r1 r2 z3
 have n1':nn 1:=by unfold nn;omega
 by_cases b1:tk.b.1=last.1
 .by_cases b2:tk.b.2=last.2
  .have b0:=YJ4 b1 b2
   by_cases c1:Du tk.t last
   .by_cases c2:tk.next<1
    .have hr:kS tk last blocks n=2:=by unfold kS;rw [if_neg ht,if_neg (by omega)]
     refine ⟨H3,λd k=>?_,f13⟩
     rw [hr,aR T.rY rfl rfl]
     simp only [b1,b2]at hG1 q1 p2 r1 r2 z3
     simp only [go_sem,rM,b1,b2,cg,bq,hw,↓hi,hG1,w1,hG2,n1,q1,p2,↓cJ,↓ht1,↓cA,↓dK,h3,↓z3,r1,e3,n1',c1,c2]
    by_cases c3:tk.all<=tk.next
    .have hr:kS tk last blocks n=2:=by unfold kS;rw [if_neg ht,if_neg (by omega)]
     refine ⟨H3,λd k=>?_,f13⟩
     rw [hr,aR T.rY rfl rfl]
     simp only [b1,b2]at hG1 q1 p2 r1 r2 z3
     simp only [go_sem,rM,b1,b2,cg,bq,hw,↓hi,hG1,w1,hG2,n1,q1,p2,↓cJ,↓ht1,↓cA,↓dK,h3,h4,↓z3,r1,e3,n1',c1,c2,c3]
    by_cases c4:blocks<tk.all
    .have hr:kS tk last blocks n=2:=by unfold kS;rw [if_neg ht,if_neg (by omega)]
     refine ⟨H3,λd k=>?_,f13⟩
     rw [hr,aR T.rY rfl rfl]
     simp only [b1,b2]at hG1 q1 p2 r1 r2 z3
     simp only [go_sem,rM,b1,b2,cg,bq,hw,↓hi,hG1,w1,hG2,n1,q1,p2,↓cJ,↓ht1,↓cA,↓dK,h3,h4,hb,↓z3,r1,e3,n1',c1,c2,c3,c4]
    have hr:kS tk last blocks n=oz tk.cD blocks n:=by unfold kS;rw [if_neg ht,if_pos ⟨b0,c1,by omega,by omega,by omega⟩]
    obtain ⟨H4,z4,f4⟩:=lD (cp:=cp) (fuel:=fuel) T f3.wf ((hx.fresh f12).fresh f3) (by have:=h5.1;omega) h5.2 hb hn (by have:=h5.1;omega)
    have z4:=λ{d} {k}=>z4 (d+2) k
    refine ⟨H4,λd k=>?_,f13.trans f4⟩
    rw [hr,aR T.rY rfl rfl]
    simp only [b1,b2]at hG1 q1 p2 r1 r2 z3
    simp only [go_sem,rM,b1,b2,cg,bq,hw,↓hi,hG1,w1,hG2,n1,q1,p2,↓cJ,↓ht1,↓cA,↓dK,h3,h4,hb,↓z3,r1,e3,n1',c1,c2,c3,c4,↓z4]
   .have hr:kS tk last blocks n=2:=by unfold kS;rw [if_neg ht,if_neg (λh=>c1 h.2.1)]
    refine ⟨H3,λd k=>?_,f13⟩
    rw [hr,aR T.rY rfl rfl]
    simp only [b1,b2]at hG1 q1 p2 r1 r2 z3
    simp only [go_sem,rM,b1,b2,cg,bq,hw,↓hi,hG1,w1,hG2,n1,q1,p2,↓cJ,↓ht1,↓cA,↓dK,↓z3,e3,c1]
  .have hr:kS tk last blocks n=2:=by unfold kS;rw [if_neg ht,if_neg (λh=>b2 (by rw [h.1]))]
   refine ⟨G2,λd k=>?_,f12⟩
   rw [hr,aR T.rY rfl rfl]
   simp only [b1]at hG1 q1 p2 r1 r2 z3
   simp only [go_sem,rM,b1,cg,bq,hw,↓hi,hG1,w1,hG2,n1,q1,p2,↓cJ,↓ht1,↓cA,b2]
 .have hr:kS tk last blocks n=2:=by unfold kS;rw [if_neg ht,if_neg (λh=>b1 (by rw [h.1]))]
  refine ⟨G2,λd k=>?_,f12⟩
  rw [hr,aR T.rY rfl rfl]
  simp only [go_sem,rM,cg,bq,hw,↓hi,hG1,w1,hG2,n1,q1,p2,↓cJ,↓ht1,↓cA,b1]
end
end Go.Ev
end
section
namespace Go.Ev
def aS (m:MT) (vl vs vi:V):List V:=vl :: vs :: cg m.tok vi
section
variable {cp:RC->ai} {t:Nat->Option cF} {fuel:Nat} {H:Heap} {O:Nat->Prop}
theorem ib.open {v:V} {ss:List Sn} (h:ib H O v ss) {i:Nat} (hi:i<ss.length):∃ b o c s x,v = .slice b o ss.length c s/\b<H.n/\¬ O b/\dh H O x ss[i].cD/\∀ {G:Heap},G.get b=H.get b->(∀ {id:Nat} {k:List V->R},BB id (G.get b) (o+i*4) 4 k=k (bQ ss[i] x)):=by
 obtain ⟨xs,h1,-,h2⟩:=h
 obtain ⟨b,o,c,z,g1,g2,g3,g4⟩:=h1.open hi
 obtain ⟨x,hx,hI⟩:=h2 i _ (YB hi)
 refine ⟨b,o,c,z,x,g1,g2,g3,hI,λ{G} hG {id k}=>?_⟩
 rw [(g4 hG).1,uT (YB hi) hx]
theorem DX (T:aG t) {v:V} {ss:List Sn} {blocks n L B:Nat} (hS:ib H O v ss) (hn:ss.length<1000) (hok:∀ s ∈ ss,jm s.g/\Jy s.cD) (hb:nn blocks) (hnn:nn n) (hfu:1000<fuel) {G0:Heap} (f0:ae H G0) (hL:H.n<=L) (hLn:L<G0.n) (hL0:G0.get L = .cells [.int 7 0,.int 7 0]):
 ((yj blocks n (0,0) ss).1=0/\∃ G',ae H G'/\G'.get L = .cells (bq (yj blocks n (0,0) ss).2)/\L<G'.n/\jm (yj blocks n (0,0) ss).2/\∀ (d:Nat) (kx:Nat->KE) (e:Env) (x:R),aa s001 e = .int 3 blocks->aa s002 e = .int 3 n->aa s003 e = .ptr B 0->aa s010 e = .ptr L 0->aa s031 e=v->aa s032 e = .int 3 ss.length->aa s033 e = .int 3 0->
  (∀ e',aa s001 e' = .int 3 blocks->aa s002 e' = .int 3 n->aa s003 e' = .ptr B 0->aa s010 e' = .ptr L 0->kx 1 e' G'=x)->jF tS fuel (aQ cp t fuel (d+4)) kx fuel e G0=x)\/
 ((yj blocks n (0,0) ss).1≠0/\∃ G',ae H G'/\∀ (d:Nat) (kx:Nat->KE) (e:Env) (x:R),aa s001 e = .int 3 blocks->aa s002 e = .int 3 n->aa s003 e = .ptr B 0->aa s010 e = .ptr L 0->aa s031 e=v->aa s032 e = .int 3 ss.length->aa s033 e = .int 3 0->
  (∀ e',aa s006 e' = .int 3 (yj blocks n (0,0) ss).1->kx 0 e' G'=x)->jF tS fuel (aQ cp t fuel (d+4)) kx fuel e G0=x):=by
 have nl:nn ss.length:=by unfold nn;omega
 rcases iI (c:=tS) (ph:=λd=>aQ cp t fuel (d+4)) (j:=λ_=>0)
  (I:=λi last G=>ae H G/\G.get L = .cells (bq last)/\L<G.n/\jm last/\yj blocks n (0,0) ss=yj blocks n last (ss.drop i))
  (S:=λi last e=>aa s001 e = .int 3 blocks/\aa s002 e = .int 3 n/\aa s003 e = .ptr B 0/\aa s010 e = .ptr L 0/\aa s031 e=v/\aa s032 e = .int 3 ss.length/\aa s033 e = .int 3 i)
  (J:=λq G=>ae H G/\q≠0/\(yj blocks n (0,0) ss).1=q) (Q:=λq e=>aa s006 e = .int 3 q) (λi last G hil ⟨f,gL,nL,okl,r⟩=>by
   obtain ⟨b,o,c,z,x,rfl,hbn,hbO,hI,hrd⟩:=hS.open hil
   have hrd:=λ{id} {k}=>@hrd G (f.same b hbn) id k
   obtain ⟨hg,him⟩:=hok _ (Yl hil)
   rw [QB hil]at r
   generalize ss[i]=s at hrd hI hg him r
   have hw:=f.wf
   obtain ⟨G1,hG1,f1,p1,n1⟩:=Heap.aU hw (.cells [.int 7 0,.int 7 0,.aB,.bool false])
   obtain ⟨G2,hG2,f2,p2,n2,w2,o2⟩:=Heap.bd f1 (YA _) (by omega) (.cells (bQ s x))
   obtain ⟨G3,z3,f3⟩:=xg (cp:=cp) (fuel:=fuel) T w2 hg okl (by omega)
   have hi:=λ{id} {k}=>aI hI.one (id:=id) (k:=k)
   have q2:=(f2.same _ nL).trans gL
   have e1:=JB s.g last
   have e3:nn i:=by unfold nn;omega
   have e4:i<9223372036854775808:=by omega
   have e5:(i+1)%18446744073709551616=i+1:=by omega
   have e6:G.n<G1.n:=by omega
   have w1:=f1.wf
   have f03:=f.trans (f2.trans f3)
   simp only [bQ]at hrd hG2 p2
   simp only [bq]at q2 z3
   have z3:=λ{d} {k}=>z3 (d+1) k
   by_cases c1:Du s.g last
   .obtain ⟨G4,z4,f4⟩:=lD (cp:=cp) (fuel:=fuel) T f3.wf ((hI.fresh (f.trans f2)).fresh f3) (by have:=him.1;omega) him.2 hb hnn (by have:=him.1;omega)
    have z4:=λ{d} {k}=>z4 (d+3) k
    have r3:=(f3.same _ (by omega)).trans p2
    have r4:=(f4.same _ (by have:=f3.n;omega)).trans r3
    have nL4:L<G4.n:=by have:=f3.n;have:=f4.n;omega
    have r5:G4.get L = .cells [.int 7 last.1,.int 7 last.2]:=by rw [f4.same _ (by have:=f3.n;omega),f3.same _ (by omega)];exact q2
    by_cases c2:oz s.cD blocks n=0
    .obtain ⟨G5,hG5,f5,p5,n5,w5,o5⟩:=Heap.bd (f03.trans f4) hL nL4 (.cells [.int 7 s.g.1,.int 7 s.g.2])
     have w4:=f4.wf
     refine YG ⟨s.g,G5,⟨f5,p5,by omega,hg,?_⟩,λd kx r e y ⟨q1,q2',q3,q10,q31,q32,q33⟩ hk=>?_⟩
     .rw [r,yj,if_pos c1,if_pos c2]
     rw [ak]
     simp only [go_sem,tS,q1,q2',q10,q31,q32,q33,hil,nl,e3,e4,e5,e6,↓hrd,hw,↓hi,hG1,p1,w1,hG2,p2,q2,↓z3,e1,c1,r3,↓z4,c2,r4,nL4,r5,w4,hG5]
     exact hk _ (by simp only [go_sem,q1,q2',q3,q10,q31,q32])
    .refine YD ⟨oz s.cD blocks n,G4,⟨f03.trans f4,c2,by rw [r,yj,if_pos c1,if_neg c2]⟩,λd kx r e y ⟨q1,q2',q3,q10,q31,q32,q33⟩ hk=>?_⟩
     rw [ak]
     simp only [go_sem,tS,q1,q2',q10,q31,q32,q33,hil,nl,e3,e4,e6,↓hrd,hw,↓hi,hG1,p1,w1,hG2,p2,q2,↓z3,e1,c1,r3,↓z4,c2]
     exact hk _ rfl
   .refine YD ⟨2,G3,⟨f03,by omega,by rw [r,yj,if_neg c1]⟩,λd kx r e y ⟨q1,q2',q3,q10,q31,q32,q33⟩ hk=>?_⟩
    rw [ak]
    simp only [go_sem,tS,q10,q31,q32,q33,hil,nl,e3,e4,e6,↓hrd,hw,↓hi,hG1,p1,w1,hG2,p2,q2,↓z3,e1,c1]
    exact hk _ rfl) ss.length 0 (0,0) G0 (by omega) ⟨f0,hL0,hLn,⟨by decide,by decide⟩,rfl⟩ with ⟨last,G',⟨f',gL,nL,okl,r⟩,z⟩|⟨q,G',⟨f',q0,r⟩,z⟩
 .rw [YC0]at r
  rw [r]
  refine YG ⟨rfl,G',f',gL,nL,okl,λd kx e x q1 q2 q3 q10 q31 q32 q33 hk=>z d kx fuel e x (by omega) ⟨q1,q2,q3,q10,q31,q32,q33⟩ λr' e' ⟨q1,q2,q3,q10,q31,q32,q33⟩=>?_⟩
  have e6:¬ ss.length<ss.length:=by omega
  rw [ak]
  simp only [go_sem,tS,q32,q33,nl,e6]
  exact hk _ q1 q2 q3 q10
 .refine YD ⟨by rw [r];exact q0,G',f',λd kx e x q1 q2 q3 q10 q31 q32 q33 hk=>z d kx fuel e x (by omega) ⟨q1,q2,q3,q10,q31,q32,q33⟩ λe' q=>hk e' (by rw [r];exact q)⟩
theorem uj (T:aG t) {m:MT} {vl vs vi:V} {blocks n:Nat} (hw:H.wf) (M:gj H O m vl vs vi) (Y:lg m) (hb:nn blocks) (hn:nn n) (hfu:1000<fuel):
 ∃ H',(∀ (d:Nat) (k:K),aj (aQ cp t fuel (d+5)) (.func 90 []) [.agg (aS m vl vs vi),.int 3 blocks,.int 3 n] H k=k (.int 3 (KK m blocks n)) H')/\ae H H':=by
 obtain ⟨Ml,Ms,Mi⟩:=M
 obtain ⟨kl,kn,ks,kb,kt,kx,ka,ki⟩:=Y
 obtain ⟨row,hR⟩:∃ row,Row H O vs 4 m.ah.length row:=by obtain ⟨xs,h,_⟩:=Ms;exact ⟨_,h⟩
 have i1:=λ{id} {k}=>aI Ml.one (id:=id) (k:=k)
 have i2:=λ{id} {k}=>aI hR.one (id:=id) (k:=k)
 have i3:=λ{id} {k}=>aI Mi.one (id:=id) (k:=k)
 have hs:=λ{id} {f}=>hR.sn (id:=id) (f:=f)
 obtain ⟨G1,hG1,f1,p1,n1⟩:=Heap.aU hw (.cells (aS m vl vs vi))
 obtain ⟨G2,z2,f2⟩:=lD (cp:=cp) (fuel:=fuel) T f1.wf (Ml.fresh f1) (by have:=kl.1;omega) kl.2 hb hn (by have:=kl.1;omega)
 have z2:=λ{d} {k}=>z2 (d+3) k
 have f12:=f1.trans f2
 have q2:=(f2.same _ (by omega)).trans p1
 have e1:m.ah.length<9223372036854775808:=by omega
 have e2:nn m.ah.length:=by unfold nn;omega
 simp only [aS,cg]at hG1 p1 q2
 by_cases c1:oz m.live blocks n=0
 .by_cases c2:20<m.ah.length
  .refine ⟨G2,λd k=>?_,f12⟩
   rw [KK,if_pos c1,if_pos c2,aR T.k45 rfl rfl]
   simp only [go_sem,ZE,c45,aS,cg,hw,↓i1,↓i2,↓i3,hG1,p1,↓z2,c1,q2,↓hs,e1,e2,c2]
  obtain ⟨G3,hG3,f3,p3,n3⟩:=Heap.aU f2.wf (.cells [.int 7 0,.int 7 0])
  have q3:=(f3.same _ (by have:=f2.n;omega)).trans q2
  have hH:=f2.n
  have w2:=f2.wf
  rcases DX (B:=H.n) T (Ms.fresh f12) kn ks hb hn hfu f3 (YA _) (by omega) p3 with ⟨c3,G4,f4,g4,n4,okl,z⟩|⟨c3,G4,f4,z⟩
  .obtain ⟨G5,z5,f5⟩:=It (cp:=cp) T f4.wf ((Mi.fresh f12).fresh f4) kb kt kx ka ki okl hb hn hfu
   have z5:=λ{d} {k}=>z5 d k
   have q4:=(f4.same _ (by omega)).trans q2
   simp only [cg,bq]at z5
   simp only [bq]at g4
   refine ⟨G5,λd k=>?_,f12.trans (f4.trans f5)⟩
   rw [KK,if_pos c1,if_neg c2,if_pos c3,aR T.k45 rfl rfl]
   simp only [go_sem,ZE,c45,aS,cg,hw,↓i1,↓i2,↓i3,hG1,p1,↓z2,c1,q2,↓hs,e1,e2,c2,w2,hG3,q3]
   refine z d _ _ _ ?_ ?_ ?_ ?_ ?_ ?_ ?_ λe' h1 h2 h3 h10=>?_
   .rfl
   .rfl
   .rfl
   .rfl
   .rfl
   .rfl
   .rfl
   simp only [go_sem,h1,h2,h3,h10,q4,g4,↓z5]
  .refine ⟨G4,λd k=>?_,f12.trans f4⟩
   rw [KK,if_pos c1,if_neg c2,if_neg c3,aR T.k45 rfl rfl]
   simp only [go_sem,ZE,c45,aS,cg,hw,↓i1,↓i2,↓i3,hG1,p1,↓z2,c1,q2,↓hs,e1,e2,c2,w2,hG3,q3]
   refine z d _ _ _ ?_ ?_ ?_ ?_ ?_ ?_ ?_ λe' h=>?_
   .rfl
   .rfl
   .rfl
   .rfl
   .rfl
   .rfl
   .rfl
   simp only [go_sem,h]
 .refine ⟨G2,λd k=>?_,f12⟩
  rw [KK,if_neg c1,aR T.k45 rfl rfl]
  simp only [go_sem,c45,aS,cg,hw,↓i1,↓i2,↓i3,hG1,p1,↓z2,c1]
end
end Go.Ev
end
section
namespace Go.Ev
def nums (l:List Nat):List UInt8:=l.flatMap bu
theorem lf (a b):nums (a ++ b)=nums a ++ nums b:=by simp only [nums,Wy]
theorem nums_length:∀ l:List Nat,(nums l).length<=l.length*9
 | []=>Yd _
 | n :: l=>by
  have h1:=bF n
  have h2:=nums_length l
  have:nums (n :: l)=bu n ++ nums l:=rfl
  grind
theorem Iu:tv [] = .str 0 0:=rfl
def uy (s:Sn):List Nat:=s.g.1 :: s.g.2 :: (if s.hid=true then 1 else 0):: s.cD
def Lu (t:Tk):List Nat:=if t.t=(0,0) then [0] else 1 :: t.b.1 :: t.b.2 :: t.t.1 :: t.t.2 :: t.next :: t.all :: t.cD
def nw (m:MT):List Nat:=m.live.length :: (m.live ++ (m.ah.length :: (m.ah.flatMap uy ++ Lu m.tok)))
theorem ae.DW {G:Heap} (h:G.wf):ae G G.mark:=⟨by rw [Heap.dV];exact h,YA _,λ_ _=>rfl,λ_ _ h=>h⟩
section
variable {cp:RC->ai} {t:Nat->Option cF} {fuel:Nat} {H:Heap} {O:Nat->Prop}
theorem qO {G} {f v} {c} {args} (h:∃ H',(∀ (d) (k),aj (aQ cp t fuel (d+c)) f args G.mark k=k v H')/\ae G.mark H'):∃ Gm G',(∀ (d) (k),aj (aQ cp t fuel (d+c)) f args G.mark k=k v Gm)/\Gm.dY G.bj=G'/\G.n<=Gm.bj/\ae G G':=by
 obtain ⟨Gm,z,f⟩:=h
 exact ⟨Gm,_,z,rfl,f.dY.2,f.dY.1⟩
theorem Vo {G} {f} {c sz n} {args row} (h:∃ H' v,(∀ (d) (k),aj (aQ cp t fuel (d+c)) f args G.mark k=k v H')/\ae G.mark H'/\Own G.mark H' v sz n row):∃ Gm G' v,(∀ (d) (k),aj (aQ cp t fuel (d+c)) f args G.mark k=k v Gm)/\Gm.dY G.bj=G'/\G.n<=Gm.bj/\ae G G'/\Own G G' v sz n row:=by
 obtain ⟨Gm,v,z,f,o⟩:=h
 exact ⟨Gm,_,v,z,rfl,f.dY.2,f.dY.1,o⟩
theorem FN {id half a b} {f} (hb:b≠0) (ha:a<half) (hb2:b<half):iS id (.quo half) a b f=f (a/b):=by
 show aD (Nat.blt a half) (aD (Nat.blt b half) (aD (YK b 0) (no 0) (av (Nat.div a b) f)) (no 0)) (no 0)=_
 rw [bA,if_pos (by simp_all),bA,if_pos (by simp_all),bA,if_neg (by simp_all),aw]
 rfl
theorem pP (T:aG t) {v} {l} {a} (hw:H.wf) (hI:dh H O v l) (hl:l.length<1000) (hn:∀ p ∈ l,p<18446744073709551616) (ha:a.length<1000000) (hfu:1000<fuel):
 ∃ H',(∀ (d) (k),aj (aQ cp t fuel (d+3)) (.func 276 []) [tv a,v] H k=k (tv (a ++ nums l)) H')/\ae H H':=by
 have nl:nn l.length:=by unfold nn;omega
 have e1:l.length<9223372036854775808:=by omega
 have hs:=λ{id} {f}=>hI.sn (id:=id) (f:=f)
 obtain ⟨_,G',⟨f',-⟩,z⟩:=bV (c:=Ao) (ph:=λd=>aQ cp t fuel (d+2)) (I:=λi _ G=>ae H G/\True)
  (S:=λi _ e=>aa s000 e=tv (a ++ nums (l.take i))/\aa s007 e=v/\aa s010 e = .int 3 l.length/\aa s011 e = .int 3 i) (λi _ G hil ⟨f,_⟩=>by
   obtain ⟨b,o,cc,z,rfl,hbn,hbO,hrd⟩:=hI.open hil
   have hrd:=λ{id} {k}=>@hrd G (f.same b hbn) id k
   have hp:=hn _ (Yl hil)
   have ht:nums (l.take (i+1))=nums (l.take i) ++ bu l[i]:=by rw [WR hil,lf];simp [nums]
   have hlen:=nums_length (l.take i)
   rw [Yp]at hlen
   obtain ⟨G1,z1,f1⟩:=eI (cp:=cp) (fuel:=fuel) (a:=a ++ nums (l.take i)) T f.wf (by grind) hp (by omega)
   rw [WG,<- ht]at z1
   have z1:=λ{d} {k}=>z1 d k
   have e3:nn i:=by unfold nn;omega
   have e4:i<9223372036854775808:=by omega
   have e5:(i+1)%18446744073709551616=i+1:=by omega
   have e6:=Yr hp
   refine ⟨(),G1,⟨f.trans f1,trivial⟩,λd kx r e x ⟨q0,q7,q10,q11⟩ hk=>?_⟩
   rw [ak]
   simp only [go_sem,Ao,q0,q7,q10,q11,hil,nl,e3,e4,e5,e6,↓hrd,↓z1]
   exact hk _ (by simp only [go_sem,q7,q10])) l.length 0 () H (by omega) ⟨ae.refl hw,trivial⟩
 refine ⟨G',λd k=>?_,f'⟩
 rw [aR T.abF rfl rfl]
 simp only [go_sem,aaw,↓hs,e1]
 refine z d _ fuel _ _ (by omega) ⟨by simp only [go_sem,List.take_zero,nums,Ws],by simp only [go_sem],by simp only [go_sem],by simp only [go_sem]⟩ λr e' ⟨q0,q7,q10,q11⟩=>?_
 have e6:¬ l.length<l.length:=by omega
 rw [Wi]at q0
 rw [ak]
 simp only [go_sem,Ao,q0,q10,q11,nl,e6]
theorem mQ (T:aG t) {g} {a} (hw:H.wf) (hg:jm g) (ha:a.length<1000000) (hfu:1000<fuel):
 ∃ H',(∀ (d) (k),aj (aQ cp t fuel (d+3)) (.func 278 []) [tv a,.agg (bq g)] H k=k (tv (a ++ nums [g.1,g.2])) H')/\ae H H':=by
 obtain ⟨G1,hG1,f1,p1,n1⟩:=Heap.aU hw (.cells (bq g))
 have w1:=f1.wf
 obtain ⟨Gm,G2,z2,hu,hlo,f2⟩:=qO (eI (cp:=cp) (fuel:=fuel) (a:=a) T (by rw [Heap.dV];omega) (by omega) hg.1 (by omega))
 have hpl:=bF g.1
 obtain ⟨G3,z3,f3⟩:=eI (cp:=cp) (fuel:=fuel) (a:=a ++ bu g.1) T f2.wf (by grind) hg.2 (by omega)
 have q2:=(f2.same _ (by omega)).trans p1
 have hr:a ++ bu g.1 ++ bu g.2=a ++ nums [g.1,g.2]:=by simp [nums]
 rw [hr]at z3
 simp only [bq]at hG1 p1 q2
 refine ⟨G3,λd k=>?_,f1.trans (f2.trans f3)⟩
 rw [aR T.abG rfl rfl]
 simp only [go_sem,aax,bq,hw,hG1,p1,↓z2,hu,hlo,q2,↓z3]
theorem kg (T:aG t) {b c s} {l} {a} (hw:H.wf) (hb:H.get b = .cells (l.map (V.int 3))) (hbn:b<H.n) (hl:l.length<1000) (hn:∀ p ∈ l,p<18446744073709551616) (ha:a.length<1000000) (hfu:1000<fuel):
 ∃ H',(∀ (d) (k),aj (aQ cp t fuel (d+3)) (.func 276 []) [tv a,.slice b 0 l.length c s] H k=k (tv (a ++ nums l)) H')/\ae H H':=
 pP (O:=λ_=>False) T hw ⟨by simp,by simp [V.one],YD ⟨b,0,c,s,_,rfl,YG hb,hbn,λh=>h,by simp,by exact Ya (by simp)⟩⟩ hl hn ha hfu
theorem zH (T:aG t) {a} (ha:a.length<1000000) (d) (k):aj (aQ cp t fuel (d+1)) (.func 258 []) [tv a] H k=k (.int 3 ((a.length+37)/32)) H:=by
 have e1:a.length<9223372036854775808:=by omega
 have e2:(6+a.length)%18446744073709551616=6+a.length:=by omega
 have e3:(6+a.length+32)%18446744073709551616=6+a.length+32:=by omega
 have e4:=by omega
 have e6:=by omega
 have e7:=by omega
 have e8:(6+a.length+32+18446744073709551615)%18446744073709551616=a.length+37:=by omega
 have e9:∀ {id} {f},iS id (.quo 9223372036854775808) (a.length+37) 32 f=f ((a.length+37)/32):=FN (by simp) (by omega) (by simp)
 rw [aR T.abz rfl rfl]
 simp only [go_sem,aat,tv,e1,e2,e3,e8,↓e9]
theorem vH (T:aG t) {q} (d) (k):aj (aQ cp t fuel (d+1)) (.func 280 []) [.bool q] H k=k (.int 3 (if q=true then 1 else 0)) H:=by
 rw [aR T.abH rfl rfl]
 cases q<;>simp only [go_sem,aay]
theorem Um (s) (h:Jy s.cD):(uy s).length<=103:=by have:=h.1;simp only [uy,YF];omega
theorem xB:∀ (l:List Sn),(∀ s ∈ l,Jy s.cD)->(l.flatMap uy).length<=l.length*103
 | [],_=>Yd _
 | s :: l,h=>by
  have h1:=Um s (h s (YJ ..))
  have h2:=xB l λx hx=>h x (YI _ hx)
  grind
theorem Ny (T:aG t) {v:V} {ss:List Sn} {a:List UInt8} {B:Nat} (hw:H.wf) (hS:ib H O v ss) (hn:ss.length<100) (hok:∀ s ∈ ss,jm s.g/\Jy s.cD) (ha:a.length<100000) (hfu:1000<fuel):
 ∃ G',ae H G'/\∀ (d:Nat) (kx:Nat->KE) (e:Env) (x:R),aa s001 e = .ptr B 0->aa s005 e=tv a->aa s041 e=v->aa s042 e = .int 3 ss.length->aa s043 e = .int 3 0->
  (∀ e',aa s001 e' = .ptr B 0->aa s005 e'=tv (a ++ nums (ss.flatMap uy))->kx 1 e' G'=x)->jF vJ fuel (aQ cp t fuel (d+3)) kx fuel e H=x:=by
 have nl:nn ss.length:=by unfold nn;omega
 obtain ⟨_,G',f',z⟩:=bV (c:=vJ) (ph:=λd=>aQ cp t fuel (d+3)) (I:=λi _ G=>ae H G)
  (S:=λi _ e=>aa s001 e = .ptr B 0/\aa s005 e=tv (a ++ nums ((ss.take i).flatMap uy))/\aa s041 e=v/\aa s042 e = .int 3 ss.length/\aa s043 e = .int 3 i) (λi _ G hil f=>by
   obtain ⟨b,o,c,z,x,rfl,hbn,hbO,hI,hrd⟩:=hS.open hil
   have hrd:=λ{id} {k}=>@hrd G (f.same b hbn) id k
   obtain ⟨hg,him⟩:=hok _ (Yl hil)
   have ht:nums ((ss.take (i+1)).flatMap uy)=nums ((ss.take i).flatMap uy) ++ nums (uy ss[i]):=by rw [WR hil,Wy,lf];simp
   have hlen:=nums_length ((ss.take i).flatMap uy)
   have hlen2:=xB (ss.take i) λs hs=>(hok s (WN hs)).2
   rw [Yp]at hlen2
   generalize ss[i]=s at hrd hI hg him ht
   generalize hA:a ++ nums ((ss.take i).flatMap uy)=A
   have hAl:A.length<200000:=by grind
   have ht2:a ++ nums ((ss.take (i+1)).flatMap uy)=A ++ nums [s.g.1,s.g.2] ++ nums [if s.hid=true then 1 else 0] ++ nums s.cD:=by
    rw [ht,<- WG,hA]
    simp only [uy,nums,WZ,Ws,YV,WG]
   have hw:=f.wf
   obtain ⟨G1,hG1,f1,p1,n1⟩:=Heap.aU hw (.cells [.int 7 0,.int 7 0,.aB,.bool false])
   obtain ⟨G2,hG2,f2,p2,n2,w2,o2⟩:=Heap.bd f1 (YA _) (by omega) (.cells (bQ s x))
   obtain ⟨Gm,G3,z3,hu3,hl3,f3⟩:=qO (mQ (cp:=cp) (a:=A) T (by exact w2) hg (by omega) hfu)
   have w3:=f3.wf
   have z4:=λ{d} {k}=>vH (cp:=cp) (fuel:=fuel) (H:=G3.mark) (q:=s.hid) T d k
   obtain ⟨G5,hG5,f5,p5,n5⟩:=Heap.aU w3 (.cells [.int 3 (if s.hid=true then 1 else 0)])
   have w5:=f5.wf
   have hg2:=nums_length [s.g.1,s.g.2]
   have hg1:=nums_length [if s.hid=true then 1 else 0]
   simp only [YF,YM]at hg1 hg2
   obtain ⟨Gn,G6,z6,hu6,hl6,f6⟩:=qO (kg (cp:=cp) (c:=2) (s:=0) (l:=[if s.hid=true then 1 else 0]) (a:=A ++ nums [s.g.1,s.g.2]) T (by exact w5) p5 (by show G3.n<G5.n;omega) (by simp) (λp hp=>by grind) (by grind) hfu)
   have f06:=f2.trans (f3.trans (f5.trans f6))
   obtain ⟨G7,z7,f7⟩:=pP (cp:=cp) (a:=A ++ nums [s.g.1,s.g.2] ++ nums [if s.hid=true then 1 else 0]) T f6.wf (hI.fresh (f.trans f06)) (by have:=him.1;omega) (λp hp=>by have:=him.2 p hp;unfold nn at this;omega) (by grind) hfu
   rw [<- ht2]at z7
   have hi:=λ{id} {k}=>aI hI.one (id:=id) (k:=k)
   have e3:nn i:=by unfold nn;omega
   have e4:i<9223372036854775808:=by omega
   have e5:(i+1)%18446744073709551616=i+1:=by omega
   have e6:G.n<G1.n:=by omega
   have w1:=f1.wf
   simp only [bQ]at hrd hG2 p2
   simp only [bq]at z3
   simp only [YF,YM]at z6
   have q3:=(f3.same _ (by omega)).trans p2
   have q6:G6.get G.n = .cells [.int 7 s.g.1,.int 7 s.g.2,x,.bool s.hid]:=by rw [f6.same _ (by have:=f3.n;omega),f5.same _ (by have:=f3.n;omega)];exact q3
   have z3:=λ{d} {k}=>z3 d k
   have z6:=λ{d} {k}=>z6 d k
   have z7:=λ{d} {k}=>z7 d k
   refine ⟨(),G7,f.trans (f06.trans f7),λd kx r e y ⟨q1,q5,q41,q42,q43⟩ hk=>?_⟩
   rw [ak]
   simp only [go_sem,vJ,q5,q41,q42,q43,hil,nl,e3,e4,e5,e6,↓hrd,hw,↓hi,hG1,p1,w1,hG2,p2,↓z3,hu3,hl3,q3,↓z4,w3,hG5,↓z6,hu6,hl6,q6,↓z7]
   exact hk _ (by simp only [go_sem,q1,q41,q42])) ss.length 0 () H (by omega) (ae.refl hw)
 refine ⟨G',f',λd kx e x q1 q5 q41 q42 q43 hk=>z d kx fuel e x (by omega) ⟨q1,by rw [q5];simp [nums],q41,q42,q43⟩ λr e' ⟨q1,q5,q41,q42,q43⟩=>?_⟩
 have e6:¬ ss.length<ss.length:=by omega
 rw [Wi]at q5
 rw [ak]
 simp only [go_sem,vJ,q42,q43,nl,e6]
 exact hk _ q1 q5
def oO (m:MT):List UInt8 × Nat:=if KK m m.live.length 1024=0 then (if 48<((nums (nw m)).length+37)/32 then ([],3) else (nums (nw m),0)) else ([],KK m m.live.length 1024)
set_option maxRecDepth 4000 in
theorem tZ (T:aG t) {m:MT} {vl vs vi:V} (hw:H.wf) (M:gj H O m vl vs vi) (Y:lg m) (hfu:1000<fuel):
 ∃ H',(∀ (d:Nat) (k:K),aj (aQ cp t fuel (d+6)) (.func 204 []) [.agg (aS m vl vs vi)] H k=k (.cV [tv (oO m).1,.int 3 (oO m).2]) H')/\ae H H':=by
 have M0:=M
 have Y0:=Y
 obtain ⟨Ml,Ms,Mi⟩:=M
 obtain ⟨kl,kn,ks,kb,kt,kx,ka,ki⟩:=Y
 obtain ⟨row,hR⟩:∃ row,Row H O vs 4 m.ah.length row:=by obtain ⟨xs,h,_⟩:=Ms;exact ⟨_,h⟩
 have i1:=λ{id:Nat} {k:R}=>aI Ml.one (id:=id) (k:=k)
 have i2:=λ{id:Nat} {k:R}=>aI hR.one (id:=id) (k:=k)
 have i3:=λ{id:Nat} {k:R}=>aI Mi.one (id:=id) (k:=k)
 have s1:=λ{id:Nat} {f:Nat->R}=>Ml.sn (id:=id) (f:=f)
 have s2:=λ{id:Nat} {f:Nat->R}=>hR.sn (id:=id) (f:=f)
 have l1:=kl.1
 have l3:=ki.1
 obtain ⟨G1,hG1,f1,p1,n1⟩:=Heap.aU hw (.cells (aS m vl vs vi))
 obtain ⟨G2,z2,f2⟩:=uj (cp:=cp) (n:=1024) (blocks:=m.live.length) T f1.wf (M0.fresh f1) Y0 (by unfold nn;omega) (by unfold nn;omega) hfu
 have z2:=λ{d:Nat} {k:K}=>z2 d k
 have f02:=f1.trans f2
 have q2:G2.get H.n = .cells (aS m vl vs vi):=(f2.same _ (by omega)).trans p1
 have e1:m.live.length<9223372036854775808:=by omega
 have e2:m.ah.length<9223372036854775808:=by omega
 have nH2:H.n<G2.n:=by have:=f2.n;omega
 by_cases c1:¬ KK m m.live.length 1024=0
 .refine ⟨G2,λd k=>?_,f02⟩
  have hE:oO m=([],KK m m.live.length 1024):=by unfold oO;rw [if_neg c1]
  simp only [aS,cg]at hG1 p1 q2 z2
  rw [hE,aR T.To rfl rfl]
  simp only [go_sem,Sf,aS,cg,hw,↓i1,↓i2,↓i3,hG1,p1,↓s1,e1,↓z2,c1]
  rfl
 have c1:KK m m.live.length 1024=0:=Decidable.not_not.1 c1
 have h20:m.ah.length<=20:=by
  unfold KK at c1
  split at c1
  .split at c1
   .omega
   .omega
  .omega
 have w2:=f2.wf
 obtain ⟨G3,hG3,f3,p3,n3⟩:=Heap.aU w2 (.cells [.int 3 m.live.length])
 have w3:=f3.wf
 obtain ⟨Gm4,G4,z4,hu4,hl4,f4⟩:=qO (kg (cp:=cp) (c:=2) (s:=0) (l:=[m.live.length]) (a:=[]) T (by rw [Heap.dV];exact w3) p3 (by show G2.n<G3.n;omega) (by simp) (λp hp=>by rw [YO.1 hp];omega) (by simp) hfu)
 have b1:=nums_length [m.live.length]
 have b2:=nums_length m.live
 have b3:=nums_length [m.ah.length]
 simp only [YF,YM]at b1 b3
 obtain ⟨G5,z5,f5⟩:=pP (cp:=cp) (a:=[] ++ nums [m.live.length]) T f4.wf (((Ml.fresh f02).fresh f3).fresh f4) (by omega) (λp hp=>by have:=kl.2 p hp;unfold nn at this;omega) (by simp only [YC,YM];omega) hfu
 have w5:=f5.wf
 obtain ⟨G6,hG6,f6,p6,n6⟩:=Heap.aU w5 (.cells [.int 3 m.ah.length])
 obtain ⟨G7,z7,f7⟩:=kg (cp:=cp) (c:=2) (s:=0) (l:=[m.ah.length]) (a:=[] ++ nums [m.live.length] ++ nums m.live) T f6.wf p6 (by omega) (by simp) (λp hp=>by rw [YO.1 hp];omega) (by simp only [YC,YM];omega) hfu
 have f25:=f3.trans (f4.trans f5)
 have f27:=f25.trans (f6.trans f7)
 have f07:=f02.trans f27
 have n7:=f27.n
 obtain ⟨G8,f8,z8⟩:=Ny (cp:=cp) (fuel:=fuel) (B:=H.n) (a:=[] ++ nums [m.live.length] ++ nums m.live ++ nums [m.ah.length]) T f07.wf (Ms.fresh f07) (by omega) ks (by simp only [YC,YM];omega) hfu
 generalize hA:[] ++ nums [m.live.length] ++ nums m.live ++ nums [m.ah.length] ++ nums (m.ah.flatMap uy)=A at z8
 have b4:=nums_length (m.ah.flatMap uy)
 have b5:=xB m.ah λs hs=>(ks s hs).2
 have hAl:A.length<30000:=by rw [<- hA];simp only [YC,YM];omega
 have w8:=f8.wf
 have n8:=f8.n
 obtain ⟨G9,hG9,f9,p9,n9⟩:=Heap.aU w8 (.cells [.int 7 0,.int 7 0,.int 7 0,.int 7 0,.int 3 0,.int 3 0,.aB])
 obtain ⟨Ga,hGa,fa,pa,na,wa,oa⟩:=Heap.bd (b:=G8.n) f9 (YA _) (by omega) (.cells (cg m.tok vi))
 obtain ⟨Gb,hGb,fb,pb,nb⟩:=Heap.aU wa (.cells [.int 3 (if m.tok.t=(0,0) then 0 else 1)])
 have wb:=fb.wf
 obtain ⟨Gc,zc,fc⟩:=kg (cp:=cp) (fuel:=fuel) (b:=Ga.n) (c:=2) (s:=0) (l:=[if m.tok.t=(0,0) then 0 else 1]) (a:=A) T wb pb (by omega) (by simp) (λp hp=>by rw [YO.1 hp];split<;>omega) (by omega) hfu
 have hz:∀ {id:Nat} {f:Bool->R},jU id [1,1] [.int 7 m.tok.t.1,.int 7 m.tok.t.2] [.int 7 0,.int 7 0] f=f (decide (m.tok.t=(0,0))):=λ{id f}=>by
  by_cases a1:m.tok.t.1=0
  .by_cases a2:m.tok.t.2=0
   .have:m.tok.t=(0,0):=YJ4 a1 a2
    simp only [cA,dK,if_true,this,decide_true]
   .have:¬ m.tok.t=(0,0):=λh=>a2 (by rw [h])
    simp only [cA,a1,a2,if_true,if_false,this,decide_false]
  .have:¬ m.tok.t=(0,0):=λh=>a1 (by rw [h])
   simp only [cA,a1,if_false,this,decide_false]
 have f8a:=f8.trans fa
 have q7:G7.get H.n = .cells (aS m vl vs vi):=(f27.same _ nH2).trans q2
 have q8:G8.get H.n = .cells (aS m vl vs vi):=(f8.same _ (by omega)).trans q7
 have q3:G3.get H.n = .cells (aS m vl vs vi):=(f3.same _ nH2).trans q2
 have n3':=f3.n
 have n4':=f4.n
 have n5':=f5.n
 have q4:G4.get H.n = .cells (aS m vl vs vi):=(f4.same _ (by omega)).trans q3
 have q5:G5.get H.n = .cells (aS m vl vs vi):=(f5.same _ (by omega)).trans q4
 have u1:¬ H.n=G8.n:=by omega
 have u2:G8.n<G9.n:=by omega
 have w9:=f9.wf
 have z4:=λ{d:Nat} {k:K}=>z4 d k
 have z5:=λ{d:Nat} {k:K}=>z5 d k
 have z7:=λ{d:Nat} {k:K}=>z7 d k
 have zc:=λ{d:Nat} {k:K}=>zc d k
 have g3:G3.mark.get H.n = .cells (aS m vl vs vi):=q3
 simp only [YF,YM,YT,Iu]at z4 z7 zc z5 z8 hA
 simp only [aS,cg]at hG1 p1 q2 z2 q3 q4 q5 q7 q8 hGa pa g3
 have hAe:A=nums (m.live.length :: (m.live ++ (m.ah.length :: m.ah.flatMap uy))):=by
  rw [<- hA]
  simp only [nums,WZ,Wy,Ws,YV,WG]
 have hNe:nums (nw m)=A ++ nums (Lu m.tok):=by
  rw [hAe,<- lf]
  simp only [nw,Yb,WG]
 by_cases ct:m.tok.t=(0,0)
 .have zb:=λ{d:Nat} {k:K}=>vH (cp:=cp) (fuel:=fuel) (H:=Ga) (q:=false) T d k
  have hd:decide (m.tok.t=(0,0))=true:=decide_eq_true ct
  rw [if_pos ct]at hGb zc
  have hTx:A ++ nums [0]=nums (nw m):=by rw [hNe,Lu,if_pos ct]
  rw [hTx]at zc
  have hTl:(nums (nw m)).length<100000:=by rw [<- hTx,YC];have:=nums_length [0];simp only [YF,YM]at this;omega
  have zs:=λ{d:Nat} {k:K}=>zH (cp:=cp) (fuel:=fuel) (H:=Gc) (a:=nums (nw m)) T (by omega) d k
  have nsz:nn (((nums (nw m)).length+37)/32):=by unfold nn;omega
  refine ⟨Gc,λd k=>?_,f07.trans (f8.trans (fa.trans (fb.trans fc)))⟩
  rw [aR T.To rfl rfl]
  simp only [go_sem,Sf,aS,cg,hw,↓i1,↓i2,↓i3,hG1,p1,↓s1,e1,↓z2,c1,q2,w2,hG3,↓z4,hu4,hl4,q4,↓z5,q5,↓s2,e2,w5,hG6,↓z7,q7]
  refine z8 (d+2) _ _ _ ?_ ?_ ?_ ?_ ?_ λe' h1 h5=>?_
  .rfl
  .rfl
  .rfl
  .rfl
  .rfl
  simp only [go_sem,ZE,h1,h5,q8,w8,hG9,p9,u2,w9,hGa,pa,↓cJ,↓hz,hd,↓zb,wa,hGb,↓zc,↓zs,nsz,↓i3]
  by_cases U9:48<((nums (nw m)).length+37)/32
  .simp only [oO,c1,U9,if_true,Iu]
  .simp only [oO,c1,U9,if_true,if_false]
 .have zb:=λ{d:Nat} {k:K}=>vH (cp:=cp) (fuel:=fuel) (H:=Ga) (q:=true) T d k
  have hd:decide (m.tok.t=(0,0))=false:=decide_eq_false ct
  rw [if_neg ct]at hGb zc
  have wc:=fc.wf
  have ac:=fb.trans fc
  have b6:=nums_length [1]
  have b7:=nums_length [m.tok.b.1,m.tok.b.2]
  have b8:=nums_length [m.tok.t.1,m.tok.t.2]
  have b9:=nums_length [m.tok.next,m.tok.all]
  have b10:=nums_length m.tok.cD
  simp only [YF,YM]at b6 b7 b8 b9
  obtain ⟨Gmd,Gd,zd,hud,hld,fd⟩:=qO (mQ (cp:=cp) (fuel:=fuel) (H:=Gc.mark) (a:=A ++ nums [1]) (g:=m.tok.b) T (by rw [Heap.dV];exact wc) kb (by rw [YC];omega) hfu)
  have wd:=fd.wf
  obtain ⟨Gme,Ge,ze,hue,hle,fe⟩:=qO (mQ (cp:=cp) (fuel:=fuel) (H:=Gd.mark) (a:=A ++ nums [1] ++ nums [m.tok.b.1,m.tok.b.2]) (g:=m.tok.t) T (by rw [Heap.dV];exact wd) kt (by simp only [YC];omega) hfu)
  have we:=fe.wf
  obtain ⟨Gf,hGf,ff,pf,nf⟩:=Heap.aU we (.cells [.int 3 m.tok.next,.int 3 m.tok.all])
  have wf':=ff.wf
  have kx':=kx
  have ka':=ka
  unfold nn at kx' ka'
  obtain ⟨Gmg,Gg,zg,hug,hlg,fg⟩:=qO (kg (cp:=cp) (fuel:=fuel) (H:=Gf.mark) (b:=Ge.n) (c:=3) (s:=0) (l:=[m.tok.next,m.tok.all]) (a:=A ++ nums [1] ++ nums [m.tok.b.1,m.tok.b.2] ++ nums [m.tok.t.1,m.tok.t.2]) T (by rw [Heap.dV];exact wf') pf (by show Ge.n<Gf.n;omega) (by simp) (λp hp=>by simp only [YP,We,or_false]at hp;rcases hp with rfl|rfl<;>omega) (by simp only [YC];omega) hfu)
  have fcg:=fd.trans (fe.trans (ff.trans fg))
  obtain ⟨Gh,zh,fh⟩:=pP (cp:=cp) (fuel:=fuel) (a:=A ++ nums [1] ++ nums [m.tok.b.1,m.tok.b.2] ++ nums [m.tok.t.1,m.tok.t.2] ++ nums [m.tok.next,m.tok.all]) T fcg.wf (((Mi.fresh f07).fresh (f8.trans (fa.trans ac))).fresh fcg) (by omega) (λp hp=>by have:=ki.2 p hp;unfold nn at this;omega) (by simp only [YC];omega) hfu
  have hTx:A ++ nums [1] ++ nums [m.tok.b.1,m.tok.b.2] ++ nums [m.tok.t.1,m.tok.t.2] ++ nums [m.tok.next,m.tok.all] ++ nums m.tok.cD=nums (nw m):=by
   rw [hNe,Lu,if_neg ct]
   simp only [nums,WZ,Ws,YV,WG]
  have hTl:(nums (nw m)).length<100000:=by rw [<- hTx];simp only [YC];omega
  rw [hTx]at zh
  have zs:=λ{d:Nat} {k:K}=>zH (cp:=cp) (fuel:=fuel) (H:=Gh) (a:=nums (nw m)) T (by omega) d k
  have nsz:nn (((nums (nw m)).length+37)/32):=by unfold nn;omega
  have zd:=λ{d:Nat} {k:K}=>zd d k
  have ze:=λ{d:Nat} {k:K}=>ze d k
  have zg:=λ{d:Nat} {k:K}=>zg d k
  have zh:=λ{d:Nat} {k:K}=>zh d k
  simp only [bq]at zd ze
  simp only [YF,YM]at zg
  have nc:=fc.n
  have nd:=fd.n
  have ne:=fe.n
  have ng:=fg.n
  have rc:Gc.get G8.n = .cells [.int 7 m.tok.b.1,.int 7 m.tok.b.2,.int 7 m.tok.t.1,.int 7 m.tok.t.2,.int 3 m.tok.next,.int 3 m.tok.all,vi]:=(ac.same _ (by omega)).trans pa
  have rd:Gd.get G8.n = .cells [.int 7 m.tok.b.1,.int 7 m.tok.b.2,.int 7 m.tok.t.1,.int 7 m.tok.t.2,.int 3 m.tok.next,.int 3 m.tok.all,vi]:=(fd.same _ (by omega)).trans rc
  have re:Ge.get G8.n = .cells [.int 7 m.tok.b.1,.int 7 m.tok.b.2,.int 7 m.tok.t.1,.int 7 m.tok.t.2,.int 3 m.tok.next,.int 3 m.tok.all,vi]:=(fe.same _ (by omega)).trans rd
  have rg:Gg.get G8.n = .cells [.int 7 m.tok.b.1,.int 7 m.tok.b.2,.int 7 m.tok.t.1,.int 7 m.tok.t.2,.int 3 m.tok.next,.int 3 m.tok.all,vi]:=by rw [fg.same _ (by omega),ff.same _ (by omega)];exact re
  refine ⟨Gh,λd k=>?_,f07.trans (f8.trans (fa.trans (ac.trans (fcg.trans fh))))⟩
  rw [aR T.To rfl rfl]
  simp only [go_sem,Sf,aS,cg,hw,↓i1,↓i2,↓i3,hG1,p1,↓s1,e1,↓z2,c1,q2,w2,hG3,↓z4,hu4,hl4,q4,↓z5,q5,↓s2,e2,w5,hG6,↓z7,q7]
  refine z8 (d+2) _ _ _ ?_ ?_ ?_ ?_ ?_ λe' h1 h5=>?_
  .rfl
  .rfl
  .rfl
  .rfl
  .rfl
  simp only [go_sem,ZE,h1,h5,q8,w8,hG9,p9,u2,w9,hGa,pa,↓cJ,↓hz,hd,↓zb,wa,hGb,↓zc,rc,↓zd,hud,hld,rd,↓ze,hue,hle,re,we,hGf,↓zg,hug,hlg,rg,↓zh,↓zs,nsz,↓i3]
  by_cases U9:48<((nums (nw m)).length+37)/32
  .simp only [oO,c1,U9,if_true,Iu]
  .simp only [oO,c1,U9,if_true,if_false]
end
end Go.Ev
end
section
namespace Go.Ev
theorem Step.or {H H':Heap} {A B O:Nat->Prop} (s:Step H A H' B):Step H (λb=>O b\/A b) H' (λb=>O b\/B b):=
 ⟨s.wf,s.n,λb hb ho=>⟨(s.same b hb λh=>ho (YD h)).1,λh=>h.elim (λh=>ho (YG h)) λh=>(s.same b hb λh=>ho (YD h)).2 h⟩,
  λlo h1 h2 h3=>⟨(s.lo lo h1 h2 λb hb=>h3 b (YD hb)).1,λb hb=>hb.elim (λhb=>h3 b (YG hb)) λhb=>(s.lo lo h1 h2 λb hb=>h3 b (YD hb)).2 b hb⟩⟩
theorem Step.eO {H:Heap} {r:Nat} {x:eB} (hw:H.wf) (hr:r<H.n):Step H (λb=>b=r) (H.put r x) (λb=>b=r):=
 ⟨by rw [Heap.bE];exact hw,by rw [Heap.aT];exact YA _,λb hb ho=>⟨by rw [Heap.aF hw hr,if_neg ho],ho⟩,λlo h1 h2 h3=>⟨Heap.eW h1 (h3 r rfl),h3⟩⟩
structure RI (all:List UInt8) (b r kb:Nat) (H G:Heap) (l:List Nat):Prop where
 f:ae H G
 rr:∃ pos,G.get r=bJ b all pos/\all.drop pos=nums l
 bb:G.get b = .bytes all.length (enc all)
 gR:G.get (r+1) = .cells [.ptr r 0]
 gN:G.get (r+2) = .cells [.func 190 [.ptr (r+1) 0]]
 gQ:G.get (r+3) = .cells [.func 194 [.ptr (r+1) 0]]
 gK:G.get (r+4) = .cells [.int 7 kb]
 gP:G.get (r+5) = .cells [.func 196 [.ptr (r+4) 0,.ptr (r+2) 0]]
 hr:H.n<=r
 n:r+5<G.n
 br:b<r
 al:all.length<1000000
theorem RI.fresh {all:List UInt8} {b r kb:Nat} {H G G':Heap} {l:List Nat} (h:RI all b r kb H G l) (f:ae G G'):RI all b r kb H G' l:=by
 obtain ⟨f0,⟨pos,h1,h2⟩,h3,h4,h5,h6,h7,h8,h9,h10,h11,h12⟩:=h
 have n:=f.n
 exact ⟨f0.trans f,⟨pos,(f.same _ (by omega)).trans h1,h2⟩,(f.same _ (by omega)).trans h3,(f.same _ (by omega)).trans h4,(f.same _ (by omega)).trans h5,(f.same _ (by omega)).trans h6,(f.same _ (by omega)).trans h7,(f.same _ (by omega)).trans h8,h9,by omega,h11,h12⟩
section
variable {cp:RC->ai} {t:Nat->Option cF} {fuel:Nat} {all:List UInt8} {b r kb:Nat} {H G:Heap} {l:List Nat}
theorem RI.num (T:aG t) {n:Nat} (h:RI all b r kb H G (n :: l)) (hn:n<18446744073709551616) (hfu:8<fuel):
 ∃ G',RI all b r kb H G' l/\Step G (λb=>b=r) G' (λb=>b=r)/\∀ {d:Nat} {k:K},aj (aQ cp t fuel (d+2)) (.func 192 []) [.ptr r 0] G k=k (.int 7 n) G':=by
 obtain ⟨f0,⟨pos,h1,h2⟩,h3,h4,h5,h6,h7,h8,h9,h10,h11,h12⟩:=h
 have h2:all.drop pos=bu n ++ nums l:=h2
 have hw:=f0.wf
 obtain ⟨G1,hG1,f1,p1,n1,w1,o1⟩:=Heap.bd (b:=r) f0 h9 (by omega) (bJ b all (pos+(bu n).length))
 refine ⟨G1,⟨f1,⟨_,p1,jE h2⟩,(o1 _ (by omega)).trans h3,(o1 _ (by omega)).trans h4,(o1 _ (by omega)).trans h5,(o1 _ (by omega)).trans h6,(o1 _ (by omega)).trans h7,(o1 _ (by omega)).trans h8,h9,by omega,h11,h12⟩,by rw [<- hG1];exact Step.eO hw (by omega),λ{d k}=>?_⟩
 rw [ko T hw h1 (by omega) h3 (by omega) h12 hn h2 hfu,hG1]
theorem jD (T:aG t) {n} (h:RI all b r kb H G (n :: l)) (hn:n<=1024) (hfu:8<fuel):
 ∃ G',RI all b r kb H G' l/\Step G (λb=>b=r) G' (λb=>b=r)/\∀ {d} {k},aj (aQ cp t fuel (d+3)) (.func 190 [.ptr (r+1) 0]) [] G k=k (.int 3 n) G':=by
 obtain ⟨G',h',s,z⟩:=h.num (cp:=cp) T (by omega) hfu
 refine ⟨G',h',s,λ{d k}=>?_⟩
 have g:=h.gR
 have e1:sI false 0 18446744073709551616 n 1024=n:=by
  unfold sI
  rw [if_neg (by simp),WD,WD,Yr (by omega),Yr (by omega)]
  simp_all
 have e2:n%18446744073709551616=n:=by omega
 rw [ax T.k95 rfl rfl,YT]
 simp only [go_sem,c95,g,↓z,e1,e2]
theorem qE (T:aG t) {g} (h:RI all b r kb H G (g.1 :: g.2 :: l)) (hg:jm g) (hfu:8<fuel):
 ∃ G',RI all b r kb H G' l/\Step G (λb=>b=r) G' (λb=>b=r)/\∀ {d} {k},aj (aQ cp t fuel (d+3)) (.func 194 [.ptr (r+1) 0]) [] G k=k (.agg (bq g)) G':=by
 have hw:=h.f.wf
 obtain ⟨G1,hG1,f1,p1,n1⟩:=Heap.aU hw (.cells [.int 7 0,.int 7 0])
 obtain ⟨G2,h2,s2,z2⟩:=(h.fresh f1).num (cp:=cp) T hg.1 hfu
 obtain ⟨G3,h3,s3,z3⟩:=h2.num (cp:=cp) T hg.2 hfu
 have r1:=(h.fresh f1).gR
 have r2:=h2.gR
 have hn:=h.n
 have m2:=s2.n
 have m3:=s3.n
 have q3:G3.get G.n = .cells [.int 7 0,.int 7 0]:=by rw [(s3.same _ (by omega) (by omega)).1,(s2.same _ (by omega) (by omega)).1];omega
 obtain ⟨G4,hG4,f4,p4,n4,w4,o4⟩:=Heap.bd (b:=G.n) h3.f (by have:=h.hr;omega) (by omega) (.cells (bq g))
 have w3:=h3.f.wf
 have u3:G.n<G3.n:=by omega
 refine ⟨G4,?_,?_,λ{d k}=>?_⟩
 .obtain ⟨a0,⟨pos,a1,a2⟩,a3,a4,a5,a6,a7,a8,a9,a10,a11,a12⟩:=h3
  exact ⟨f4,⟨pos,(o4 _ (by omega)).trans a1,a2⟩,(o4 _ (by omega)).trans a3,(o4 _ (by omega)).trans a4,(o4 _ (by omega)).trans a5,(o4 _ (by omega)).trans a6,(o4 _ (by omega)).trans a7,(o4 _ (by omega)).trans a8,a9,by omega,a11,a12⟩
 .have s13:=f1.step.trans (s2.trans s3)
  refine ⟨w4,by omega,λj hj ho=>⟨by rw [o4 _ (by omega)];exact (s13.same j hj ho).1,ho⟩,λlo a1 a2 a3=>⟨?_,a3⟩⟩
  rw [<- hG4]
  exact Heap.eW (s13.lo lo a1 a2 a3).1 a2
 simp only [bq]at hG4
 rw [ax T.k97 rfl rfl,YT]
 simp only [go_sem,c97,hw,hG1,r1,↓z2,r2,↓z3,q3,w3,u3,hG4,↓dA,p4,bq]
end
end Go.Ev
end
section
namespace Go.Ev
theorem Step.grow {H0 H G G':Heap} {A:Nat->Prop} {v:V} {sz n:Nat} {row:List V} (s:Step H0 A G A) (h:Own H G v sz n row) (hn:H0.n<=H.n) (hA:∀ j,A j->jM v j) (hAn:∀ j,A j->j<G.n) (hw:G'.wf) (hg:∀ j,j<G.n->jM v j->G'.get j=G.get j) (hnn:G.n<=G'.n) (hlo:∀ lo,lo<=G.bj->lo<=H.n->lo<=G'.bj):Step H0 A G' A:=
 ⟨hw,Yn s.n hnn,λb hb ho=>⟨(hg b (YE hb s.n) (h.off (YE hb hn))).trans (s.same b hb ho).1,ho⟩,λlo h1 h2 h3=>⟨hlo lo (s.lo lo h1 h2 h3).1 (Yn h2 hn),h3⟩⟩
theorem RI.grow {all:List UInt8} {b r kb:Nat} {H0 H G G':Heap} {l:List Nat} {v:V} {sz n:Nat} {row:List V} (h:RI all b r kb H0 G l) (o:Own H G v sz n row) (hr:r+5<H.n) (hw:G'.wf) (hg:∀ j,j<G.n->jM v j->G'.get j=G.get j) (hnn:G.n<=G'.n) (hlo:∀ lo,lo<=G.bj->lo<=H.n->lo<=G'.bj):RI all b r kb H0 G' l:=by
 obtain ⟨a0,⟨pos,a1,a2⟩,a3,a4,a5,a6,a7,a8,a9,a10,a11,a12⟩:=h
 have e:∀ j,j<H.n->j<G.n->G'.get j=G.get j:=λj h1 h2=>hg j h2 (o.off h1)
 exact ⟨⟨hw,Yn a0.n hnn,λj hj=>(e j (by omega) (YE hj a0.n)).trans (a0.same j hj),λlo h1 h2=>hlo lo (a0.lo lo h1 h2) (by omega)⟩,⟨pos,(e _ (by omega) (by omega)).trans a1,a2⟩,(e _ (by omega) (by omega)).trans a3,(e _ (by omega) (by omega)).trans a4,(e _ (by omega) (by omega)).trans a5,(e _ (by omega) (by omega)).trans a6,(e _ (by omega) (by omega)).trans a7,(e _ (by omega) (by omega)).trans a8,a9,by omega,a11,a12⟩
section
variable {cp:RC->ai} {t:Nat->Option cF} {fuel:Nat} {all:List UInt8} {b r kb:Nat} {H G:Heap} {l:List Nat}
theorem Tu {a b} (ha:a<18446744073709551616) (hb:b<18446744073709551616):(dW (.lt 0 18446744073709551616) a b=true)=(a<b):=wX ha hb
theorem F9 (T:aG t) {cD:List Nat} (h:RI all b r kb H G (cD ++ l)) (him:cD.length<=8) (hi:∀ p ∈ cD,p<=1024) (hfu:1000<fuel):
 ∃ G' v,RI all b r kb H G' l/\Step G (λb=>b=r) G' (λb=>b=r)/\Own G G' v 1 cD.length (cD.map (V.int 3))/\∀ {d:Nat} {k:K},aj (aQ cp t fuel (d+4)) (.func 198 []) [.int 7 cD.length,.int 3 8,.func 190 [.ptr (r+1) 0]] G k=k v G':=by
 have hw:=h.f.wf
 have hrn:=h.n
 obtain ⟨v,G',⟨hR,hS,hO⟩,z⟩:=bV (c:=I4) (fuel:=fuel) (ph:=λd=>aQ cp t fuel (d+3))
  (I:=λi v G1=>RI all b r kb H G1 (cD.drop i ++ l)/\Step G (λb=>b=r) G1 (λb=>b=r)/\Own G G1 v 1 i ((cD.take i).map (V.int 3)))
  (S:=λi v e=>aa s002 e = .func 190 [.ptr (r+1) 0]/\aa s007 e=v/\aa s014 e = .int 7 cD.length/\aa s015 e = .int 7 i) (λi v G1 hil ⟨hR,hS,hO⟩=>by
   rw [QB hil]at hR
   have hp:=hi _ (Yl hil)
   have ht:(cD.take (i+1)).map (V.int 3)=(cD.take i).map (V.int 3) ++ [.int 3 cD[i]]:=by rw [WR hil,WE];rfl
   generalize cD[i]=p at hR hp ht
   obtain ⟨G2,hR2,s2,z2⟩:=jD (cp:=cp) (fuel:=fuel) T hR hp (by omega)
   have w2:=hR2.f.wf
   have m1:=hS.n
   have m2:=s2.n
   obtain ⟨G3,hG3,f3,p3,n3⟩:=Heap.aU w2 (.cells [.int 3 p])
   have o2:=hO.step s2 λj hj _=>by omega
   have o3:=o2.fresh f3
   obtain ⟨v',G4,z4,o4,w4,k4,n4,-,lo4⟩:=Own.grow (w:=v) (x:=.slice G2.n 0 1 2 0) f3.wf (by omega) o3 (λ{id f}=>kh p3 rfl) rfl (by simp [V.one]) (by omega)
   have s3:=(hS.trans s2).trans f3.step
   have e1:i<18446744073709551616:=by omega
   have e2:cD.length<18446744073709551616:=by omega
   have e3:=Tu e1 e2
   have e5:(i+1)%18446744073709551616=i+1:=by omega
   refine ⟨v',G4,⟨(hR2.fresh f3).grow o3 hrn w4 k4 n4 lo4,s3.grow o3 (YA _) (λj hj=>o3.off (by omega)) (λj hj=>by omega) w4 k4 n4 lo4,by rw [ht];exact o4⟩,λd kx rr e x ⟨q2,q7,q14,q15⟩ hk=>?_⟩
   have z2:=λ{d} {k}=>z2 (d:=d) (k:=k)
   rw [ak]
   simp only [go_sem,I4,q2,q7,q14,q15,e3,hil,↓z2,w2,hG3,↓z4,e5]
   exact hk _ (by simp only [go_sem,q2,q14])) cD.length 0 .aB G (by omega) ⟨h,Step.refl hw,by simpa using Own.nil⟩
 rw [YC0,YT]at hR
 rw [Wi]at hO
 refine ⟨G',v,hR,hS,hO,λ{d k}=>?_⟩
 have e1:cD.length<18446744073709551616:=by omega
 have e3:=Tu e1 e1
 have e4:=jX e1 (show 8<18446744073709551616 by omega)
 have e5:¬ 8<cD.length:=by omega
 have e6:¬ cD.length<cD.length:=by omega
 rw [aR T.k99 rfl rfl]
 simp only [go_sem,c99,e4,e5]
 refine z d _ fuel _ _ (by omega) ⟨by simp only [go_sem],by simp only [go_sem],by simp only [go_sem],by simp only [go_sem]⟩ λrr e' ⟨q2,q7,q14,q15⟩=>?_
 rw [ak]
 simp only [go_sem,I4,q7,q14,q15,e3,e6]
theorem mK (T:aG t) {cD} (h:RI all b r kb H G (cD ++ l)) (hk:cD.length=kb) (him:cD.length<=8) (hi:∀ p ∈ cD,p<=1024) (hfu:1000<fuel):
 ∃ G' v,RI all b r kb H G' l/\Step G (λb=>b=r) G' (λb=>b=r)/\Own G G' v 1 cD.length (cD.map (V.int 3))/\∀ {d} {k},aj (aQ cp t fuel (d+5)) (.func 196 [.ptr (r+4) 0,.ptr (r+2) 0]) [] G k=k v G':=by
 obtain ⟨G',v,h1,h2,h3,z⟩:=F9 (cp:=cp) T h him hi hfu
 refine ⟨G',v,h1,h2,h3,λ{d k}=>?_⟩
 have gK:=h.gK
 have gN:=h.gN
 rw [<- hk]at gK
 rw [ax T.k98 rfl rfl,YT]
 simp only [go_sem,c98,gK,gN,↓z]
theorem RI.put {j:Nat} {y:eB} (h:RI all b r kb H G l) (hj:r+5<j) (hn:j<G.n):RI all b r kb H (G.put j y) l:=by
 obtain ⟨a0,⟨pos,a1,a2⟩,a3,a4,a5,a6,a7,a8,a9,a10,a11,a12⟩:=h
 have e:∀ i,i<=r+5->(G.put j y).get i=G.get i:=λi hi=>by rw [Heap.aF a0.wf hn,if_neg (by omega)]
 exact ⟨a0.put (by omega) hn,⟨pos,(e _ (by omega)).trans a1,a2⟩,(e _ (by omega)).trans a3,(e _ (by omega)).trans a4,(e _ (by omega)).trans a5,(e _ (by omega)).trans a6,(e _ (by omega)).trans a7,(e _ (by omega)).trans a8,a9,by rw [Heap.aT];exact a10,a11,a12⟩
theorem Step.ve {H G:Heap} {A:Nat->Prop} {j:Nat} {y:eB} (s:Step H A G A) (hj:H.n<=j) (hn:j<G.n):Step H A (G.put j y) A:=
 ⟨by rw [Heap.bE];exact s.wf,by rw [Heap.aT];exact s.n,λb hb ho=>⟨by rw [Heap.aF s.wf hn,if_neg (by omega)];exact (s.same b hb ho).1,ho⟩,λlo h1 h2 h3=>⟨Heap.eW (s.lo lo h1 h2 h3).1 (by omega),h3⟩⟩
theorem Gi (T:aG t) {s:Sn} (h:RI all b r kb H G (uy s ++ l)) (hk:s.cD.length=kb) (hg:jm s.g) (him:s.cD.length<=8) (hi:∀ p ∈ s.cD,p<=1024) (hfu:1000<fuel):
 ∃ G' x,RI all b r kb H G' l/\Step G (λb=>b=r) G' (λb=>b=r)/\Own G G' x 1 s.cD.length (s.cD.map (V.int 3))/\∀ {d:Nat} {k:K},aj (aQ cp t fuel (d+6)) (.func 202 [.ptr (r+3) 0,.ptr (r+2) 0,.ptr (r+5) 0]) [] G k=k (.agg (bQ s x)) G':=by
 have hrn:=h.n
 have hw:=h.f.wf
 have hb1:(if s.hid=true then 1 else 0)<=1024:=by split<;>omega
 obtain ⟨G1,hG1,f1,p1,n1⟩:=Heap.aU hw (.cells [.int 7 0,.int 7 0,.aB,.bool false])
 have h1:=h.fresh f1
 obtain ⟨G2,h2,s2,z2⟩:=qE (cp:=cp) (fuel:=fuel) T h1 hg (by omega)
 have w2:=h2.f.wf
 obtain ⟨G3,hG3,f3,p3,n3⟩:=Heap.aU w2 (.cells [.int 7 0,.int 7 0,.aB,.bool false])
 have h3:=h2.fresh f3
 have m2:=s2.n
 have s3:=f1.step.trans (s2.trans f3.step)
 have h4:=h3.put (y:=.cells [.int 7 s.g.1,.int 7 s.g.2,.aB,.bool false]) (j:=G2.n) (by omega) (by omega)
 have s4:=s3.ve (y:=.cells [.int 7 s.g.1,.int 7 s.g.2,.aB,.bool false]) (j:=G2.n) (by omega) (by omega)
 have p4:(G3.put G2.n (.cells [.int 7 s.g.1,.int 7 s.g.2,.aB,.bool false])).get G2.n = .cells [.int 7 s.g.1,.int 7 s.g.2,.aB,.bool false]:=by rw [Heap.aF f3.wf (by omega),if_pos rfl]
 have x4:(G3.put G2.n (.cells [.int 7 s.g.1,.int 7 s.g.2,.aB,.bool false])).get G.n = .cells [.int 7 0,.int 7 0,.aB,.bool false]:=by rw [Heap.aF f3.wf (by omega),if_neg (by omega),f3.same _ (by omega),(s2.same _ (by omega) (by omega)).1];exact p1
 have n4:(G3.put G2.n (.cells [.int 7 s.g.1,.int 7 s.g.2,.aB,.bool false])).n=G3.n:=Heap.aT
 generalize hG4:G3.put G2.n (.cells [.int 7 s.g.1,.int 7 s.g.2,.aB,.bool false])=G4 at h4 s4 p4 x4 n4
 obtain ⟨G5,h5,s5,z5⟩:=jD (cp:=cp) (fuel:=fuel) T h4 hb1 (by omega)
 have m5:=s5.n
 have p5:=(s5.same _ (by omega:G2.n<G4.n) (by omega)).1.trans p4
 have x5:=(s5.same _ (by omega:G.n<G4.n) (by omega)).1.trans x4
 have w5:=h5.f.wf
 have h6:=h5.put (y:=.cells [.int 7 s.g.1,.int 7 s.g.2,.aB,.bool s.hid]) (j:=G2.n) (by omega) (by omega)
 have s6:=(s4.trans s5).ve (y:=.cells [.int 7 s.g.1,.int 7 s.g.2,.aB,.bool s.hid]) (j:=G2.n) (by omega) (by omega)
 have p6:(G5.put G2.n (.cells [.int 7 s.g.1,.int 7 s.g.2,.aB,.bool s.hid])).get G2.n = .cells [.int 7 s.g.1,.int 7 s.g.2,.aB,.bool s.hid]:=by rw [Heap.aF w5 (by omega),if_pos rfl]
 have x6:(G5.put G2.n (.cells [.int 7 s.g.1,.int 7 s.g.2,.aB,.bool s.hid])).get G.n = .cells [.int 7 0,.int 7 0,.aB,.bool false]:=by rw [Heap.aF w5 (by omega),if_neg (by omega)];exact x5
 have n6:(G5.put G2.n (.cells [.int 7 s.g.1,.int 7 s.g.2,.aB,.bool s.hid])).n=G5.n:=Heap.aT
 generalize hG6:G5.put G2.n (.cells [.int 7 s.g.1,.int 7 s.g.2,.aB,.bool s.hid])=G6 at h6 s6 p6 x6 n6
 obtain ⟨G7,x,h7,s7,o7,z7⟩:=mK (cp:=cp) T h6 hk him hi hfu
 have m7:=s7.n
 have p7:=(s7.same _ (by omega:G2.n<G6.n) (by omega)).1.trans p6
 have x7:=(s7.same _ (by omega:G.n<G6.n) (by omega)).1.trans x6
 have w7:=h7.f.wf
 have h8:=h7.put (y:=.cells (bQ s x)) (j:=G2.n) (by omega) (by omega)
 have s8:=(s6.trans s7).ve (y:=.cells (bQ s x)) (j:=G2.n) (by omega) (by omega)
 have o8:=(o7.sub (H:=G) (by omega)).nJ (x:=.cells (bQ s x)) (j:=G2.n) w7 (by omega) (o7.off (by omega))
 have p8:(G7.put G2.n (.cells (bQ s x))).get G2.n = .cells (bQ s x):=by rw [Heap.aF w7 (by omega),if_pos rfl]
 have x8:(G7.put G2.n (.cells (bQ s x))).get G.n = .cells [.int 7 0,.int 7 0,.aB,.bool false]:=by rw [Heap.aF w7 (by omega),if_neg (by omega)];exact x7
 have n8:(G7.put G2.n (.cells (bQ s x))).n=G7.n:=Heap.aT
 have w8:(G7.put G2.n (.cells (bQ s x))).wf:=by rw [Heap.bE];exact w7
 generalize hG8:G7.put G2.n (.cells (bQ s x))=G8 at h8 s8 o8 p8 x8 n8 w8
 have h9:=h8.put (y:=.cells (bQ s x)) (by omega) (by omega)
 have s9:=s8.ve (y:=.cells (bQ s x)) (YA _) (by omega)
 have o9:=o8.nJ (x:=.cells (bQ s x)) (j:=G.n) w8 (by omega) (o7.off (by omega))
 have p9:(G8.put G.n (.cells (bQ s x))).get G.n = .cells (bQ s x):=by rw [Heap.aF w8 (by omega),if_pos rfl]
 generalize hG9:G8.put G.n (.cells (bQ s x))=G9 at h9 s9 o9 p9
 have hx:=λ{id} {k}=>aI o7.one (id:=id) (k:=k)
 have e1:decide ((if s.hid=true then 1 else 0)=1)=s.hid:=by cases s.hid<;>rfl
 have gQ:=h1.gQ
 have gN:=h4.gN
 have gP:=h6.gP
 have w3:=f3.wf
 have u1:G2.n<G3.n:=by omega
 have u2:G2.n<G5.n:=by omega
 have u3:G2.n<G7.n:=by omega
 have u4:G.n<G8.n:=by omega
 have z5:=λ{d} {k}=>z5 (d:=d) (k:=k)
 simp only [bQ]at hG8 hG9 p8 p9
 simp only [bq]at z2
 refine ⟨G9,x,h9,s9,o9,λ{d k}=>?_⟩
 rw [ax T.abn rfl rfl,YT]
 cases hq:s.hid with
 | true=>
  simp only [hq,if_true]at z5 hG6 hG8 hG9 p8 p9 p6 p7
  simp only [go_sem,W4,hw,hG1,gQ,↓z2,w2,hG3,p3,w3,u1,hG4,gN,↓z5,p5,w5,u2,hG6,gP,↓z7,↓hx,p7,w7,u3,hG8,p8,x8,w8,u4,hG9,↓dA,p9,bQ,hq]
 | false=>
  simp only [hq,Bool.false_eq_true,if_false]at z5 hG6 hG8 hG9 p8 p9 p6 p7
  simp only [go_sem,W4,hw,hG1,gQ,↓z2,w2,hG3,p3,w3,u1,hG4,gN,↓z5,p5,w5,u2,hG6,gP,↓z7,↓hx,p7,w7,u3,hG8,p8,x8,w8,u4,hG9,↓dA,p9,bQ,hq]
end
end Go.Ev
end
section
namespace Go.Ev
theorem Own.Br {H G:Heap} {v:V} {sz n j:Nat} {row:List V} (h:Own H G v sz n row) (hj:G.n<=j):jM v j:=by
 obtain ⟨_,_,⟨rfl,_⟩|⟨b,c,s,r,rfl,_,_,_,g⟩⟩:=h<;>intro b' o n' c' s' e<;>cases e
 omega
theorem Own.eQ {H G G':Heap} {x v:V} {sz n:Nat} {row:List V} (h:Own H G x sz n row) (hn:G.n<=G'.n) (hg:∀ j,j<G.n->jM v j->G'.get j=G.get j) (ho:∀ b o n c s,x = .slice b o n c s->jM v b):Own H G' x sz n row:=by
 obtain ⟨h1,h2,h|⟨b,c,s,r,g1,g2,g3,g4,g5⟩⟩:=h
 .exact ⟨h1,h2,YG h⟩
 .exact ⟨h1,h2,YD ⟨b,c,s,r,g1,(hg b g5 (ho _ _ _ _ _ g1)).trans g2,g3,g4,by omega⟩⟩
theorem Own.cO {H G:Heap} {x:V} {sz n b o n' c s:Nat} {row:List V} (h:Own H G x sz n row) (e:x = .slice b o n' c s):H.n<=b/\b<G.n:=by
 subst e
 obtain ⟨_,_,⟨h,_⟩|⟨_,_,_,_,h,_,_,h1,h2⟩⟩:=h
 .cases h
 .cases h;exact ⟨h1,h2⟩
theorem wo:∀ {ss} {xs} {s} {x},ss.length=xs.length->dG (ss ++ [s]) (xs ++ [x])=dG ss xs ++ bQ s x
 | [],[],s,x,_=>by rfl
 | [],_ :: _,_,_,h=>by simp_all
 | _ :: _,[],_,_,h=>by simp_all
 | a :: ss,y :: xs,s,x,h=>by
  show bQ a y ++ dG (ss ++ [s]) (xs ++ [x])=_
  rw [wo (by simp_all),<- WG]
  rfl
def xP (H G:Heap) (v:V) (ss:List Sn) (xs:List V):Prop:=Own H G v 4 ss.length (dG ss xs)/\xs.length=ss.length/\∀ (i:Nat) (s:Sn),ss[i]? = some s->∃ x,xs[i]? = some x/\Own H G x 1 s.cD.length (s.cD.map (V.int 3))/\∀ b o n c s,x = .slice b o n c s->jM v b
theorem xP.at_ {H G:Heap} {v:V} {ss:List Sn} {xs:List V} {O:Nat->Prop} (h:xP H G v ss xs) (hO:∀ b,O b->b<H.n):ib G O v ss:=
 ⟨xs,h.1.toRow hO,h.2.1,λi s hs=>let ⟨x,h1,h2,_⟩:=h.2.2 i s hs; ⟨x,h1,by have:=h2.toRow hO;exact this⟩⟩
section
variable {cp:RC->ai} {t:Nat->Option cF} {fuel:Nat} {all:List UInt8} {b r kb:Nat} {H G:Heap} {l:List Nat}
theorem Kh {s} {x} (h:x.one=true):∀ v ∈ bQ s x,v.one=true:=by
 intro v hv
 simp only [bQ,YP,We,or_false]at hv
 rcases hv with rfl|rfl|rfl|rfl
 .rfl
 .rfl
 .omega
 rfl
theorem CZ (T:aG t) {ss:List Sn} (h:RI all b r kb H G (ss.flatMap uy ++ l)) (hn:ss.length<=20) (hs:∀ s ∈ ss,s.cD.length=kb/\jm s.g/\∀ p ∈ s.cD,p<=1024) (hkb:kb<=8) (hfu:1000<fuel):
 ∃ G' v xs,RI all b r kb H G' l/\Step G (λb=>b=r) G' (λb=>b=r)/\xP G G' v ss xs/\∀ {d:Nat} {k:K},aj (aQ cp t fuel (d+7)) (.func 200 []) [.int 7 ss.length,.int 3 20,.func 202 [.ptr (r+3) 0,.ptr (r+2) 0,.ptr (r+5) 0]] G k=k v G':=by
 have hw:=h.f.wf
 have hrn:=h.n
 obtain ⟨⟨v,xs⟩,G',⟨hR,hS,hO⟩,z⟩:=bV (c:=Am) (fuel:=fuel) (ph:=λd=>aQ cp t fuel (d+6)) (n:=ss.length)
  (I:=λi q G1=>RI all b r kb H G1 ((ss.drop i).flatMap uy ++ l)/\Step G (λb=>b=r) G1 (λb=>b=r)/\xP G G1 q.1 (ss.take i) q.2)
  (S:=λi q e=>aa s002 e = .func 202 [.ptr (r+3) 0,.ptr (r+2) 0,.ptr (r+5) 0]/\aa s007 e=q.1/\aa s014 e = .int 7 ss.length/\aa s015 e = .int 7 i) (λi q G1 hil ⟨hR,hS,hO⟩=>by
   obtain ⟨v,xs⟩:=q
   obtain ⟨ho1,ho2,ho3⟩:=hO
   rw [QB hil,WZ,WG]at hR
   obtain ⟨hk,hg,hp⟩:=hs _ (Yl hil)
   have ht:=WR hil
   have htl:(ss.take i).length=i:=by rw [Yp];omega
   have hxl:xs.length=i:=YU ho2 htl
   generalize ss[i]=s at hR hk hg hp ht
   obtain ⟨G2,x,hR2,s2,ox,z2⟩:=Gi (cp:=cp) T hR hk hg (by omega) hp hfu
   have w2:=hR2.f.wf
   have m1:=hS.n
   have m2:=s2.n
   obtain ⟨G3,hG3,f3,p3,n3⟩:=Heap.aU w2 (.cells (bQ s x))
   have o2:=(ho1.step s2 λj hj _=>by omega).fresh f3
   obtain ⟨v',G4,z4,o4,w4,k4,n4,f4,lo4⟩:=Own.grow (w:=v) (x:=.slice G2.n 0 1 2 0) f3.wf (by omega) o2 (λ{id f}=>kh p3 rfl) rfl (Kh ox.one) (by omega)
   have s3:=(hS.trans s2).trans f3.step
   have e1:i<18446744073709551616:=by omega
   have e2:ss.length<18446744073709551616:=by omega
   have e3:=Tu e1 e2
   have e5:(i+1)%18446744073709551616=i+1:=by omega
   have hxv:∀ b o n c s,x = .slice b o n c s->jM v b:=λb o n c s e=>ho1.Br (ox.cO e).1
   refine ⟨(v',xs ++ [x]),G4,⟨(hR2.fresh f3).grow o2 hrn w4 k4 n4 lo4,s3.grow o2 (YA _) (λj hj=>o2.off (by omega)) (λj hj=>by omega) w4 k4 n4 lo4,?_,?_,?_⟩,λd kx rr e y ⟨q2,q7,q14,q15⟩ hk=>?_⟩
   .rw [ht,wo (by omega),YC,htl]
    rw [htl]at o4
    exact o4
   .rw [ht];simp only [YC,YF,YM];omega
   .intro j s' hj
    rw [ht]at hj
    by_cases hji:j<i
    .rw [Ym (by omega)]at hj
     obtain ⟨y,a1,a2,a3⟩:=ho3 j s' hj
     have hy:=(a2.step s2 λj hj _=>by omega).fresh f3
     refine ⟨y,by rw [Ym (by omega)];exact a1,hy.eQ n4 k4 a3,λb o n c z e=>f4 b (hy.cO e).2 (a3 b o n c z e)⟩
    .have hji2:j=i:=by
      have:=(YX.1 hj).1
      simp only [YC,YF,YM]at this
      omega
     subst hji2
     rw [Yt (by omega),htl,Nat.sub_self]at hj
     simp only [List.getElem?_cons_zero,Option.some.injEq]at hj
     subst hj
     have hy:=(ox.sub (by omega)).fresh f3
     refine ⟨x,by rw [Yt (by omega),show j-xs.length=0 by omega];rfl,hy.eQ n4 k4 hxv,λb o n c z e=>f4 b (hy.cO e).2 (hxv b o n c z e)⟩
   have z2:=λ{d} {k}=>z2 (d:=d) (k:=k)
   have hx:=λ{id} {k}=>aI ox.one (id:=id) (k:=k)
   simp only [bQ]at hG3 z2
   rw [ak]
   simp only [go_sem,Am,q2,q7,q14,q15,e3,hil,↓z2,↓hx,w2,hG3,↓z4,e5]
   exact hk _ (by simp only [go_sem,q2,q14])) ss.length 0 (.aB,[]) G (by omega) ⟨h,Step.refl hw,by simpa [dG] using Own.nil,rfl,λi s hi=>by simp at hi⟩
 rw [YC0,Ws,YT]at hR
 rw [Wi]at hO
 refine ⟨G',v,xs,hR,hS,hO,λ{d k}=>?_⟩
 have e1:ss.length<18446744073709551616:=by omega
 have e3:=Tu e1 e1
 have e4:=jX e1 (show 20<18446744073709551616 by omega)
 have e5:¬ 20<ss.length:=by omega
 have e6:¬ ss.length<ss.length:=by omega
 rw [aR T.abm rfl rfl]
 simp only [go_sem,aam,e4,e5]
 refine z d _ fuel _ _ (by omega) ⟨by simp only [go_sem],by simp only [go_sem],by simp only [go_sem],by simp only [go_sem]⟩ λrr e' ⟨q2,q7,q14,q15⟩=>?_
 rw [ak]
 simp only [go_sem,Am,q7,q14,q15,e3,e6]
end
end Go.Ev
end
section
namespace Go.Ev
open Go.Proofs
section
variable {ph:cW} {e:Env} {H:Heap} {k:K} {fuel:Nat} {kn:KE} {kx:Nat->KE}
noncomputable def RF (g:Arg) (ps:List Slot) (sa bo:RC) (fuel:Nat) (ph:cW) (e:Env) (H:Heap) (kn:KE) (kx:Nat->KE):R:=gZ (.kz g ps sa bo) fuel ph e H kn kx
theorem uK {g} {ps} {sa bo}:gZ (.kz g ps sa bo) fuel ph e H kn kx=RF g ps sa bo fuel ph e H kn kx:=YU rfl rfl
@[congr] theorem Z4 {g} {ps} {sa bo} {e'} {H'} (h:e=e') (h2:H=H'):RF g ps sa bo fuel ph e H kn kx=RF g ps sa bo fuel ph e' H' kn kx:=by simp_all
theorem L1 {g} {ps} {sa bo} {G} {F:Env->Heap} {S:Env->Prop} {f y} {caps} {v} {ph:Nat->cW} (hw:G.wf) (hy:G.n+1=y) (hf:f%2=0)
 (hF:∀ e,S e->(F e).get y = .loop 0 0 e ps sa bo/\(F e).wf/\y<(F e).n/\∀ (d) (k),aj (ph d) (.func f caps) [.sK y] ((G.new .mark).new (.loop 0 0 e ps sa bo)) k=k v (F e)) {e} (hs:S e) (hg:ay g e = .func f caps) (d) {x}
 (hk:∀ e',e'=e->S e'->kn e' ((F e').put y (.loop 3 0 e' ps sa bo))=x):RF g ps sa bo fuel (ph d) e G kn kx=x:=by
 subst hy
 obtain ⟨h1,h2,h3,h4⟩:=hF e hs
 exact (Gv hw hg hf (h4 d) h1 h2 h3).trans (hk e rfl hs)
theorem wy {g} {ps} {sa bo} {f} {caps} (hw:H.wf) (hg:ay g e = .func f caps) (hf:f%2=0) {G} {v}
 (hcall:∀ k:K,aj ph (.func f caps) [.sK (H.n+1)] ((H.new .mark).new (.loop 0 0 e ps sa bo)) k=k v G) {n} {e'} {ps'} {sa' bo'} (hG:G.get (H.n+1) = .loop 2 (n+1) e' ps' sa' bo') (hGw:G.wf) (hGn:H.n+1<G.n):
 gZ (.kz g ps sa bo) fuel ph e H kn kx=kx n e (G.put (H.n+1) (.loop 3 (n+1) e' ps' sa' bo')):=by
 show aH g e (λg=>xJ 0 g λf caps=>Nat.rec (cm H .mark λ_ H=>cm H (.loop 0 0 e ps sa bo) λb H=>ph (.func f caps) [.sK b] H λ_ H=>
  dj H b λbl=>eP bl λst j e' ps' sa' bo'=>Nat.rec (cQ 0 H b (.loop 3 j e' ps' sa' bo') λH=>Nat.rec (kn e H) (λm _=>kx m e H) j) (λs _=>Nat.rec (no 10) (λ_ _=>cQ 0 H b (.loop 3 j e' ps' sa' bo') λH=>Nat.rec (kn e H) (λm _=>kx m e H) j) s) st) (λ_ _=>no 14) (Ys f 2))=_
 rw [aq,hg]
 show Nat.rec (motive:=λ_=>R) _ _ (Ys f 2)=_
 have hf':Ys f 2=0:=hf
 rw [hf']
 rw [cP hw,cP (by rw [Heap.aY];omega),Heap.aN]
 refine (hcall _).trans ?_
 rw [aP,hG]
 show cQ 0 G (H.n+1) (.loop 3 (n+1) e' ps' sa' bo') (λH=>kx n e H)=_
 rw [fm hGw hGn]
theorem VN {g} {ps} {sa bo} {G} {F:Env->Heap} {S:Env->Prop} {f y n} {caps} {v} {ph:Nat->cW} (hw:G.wf) (hy:G.n+1=y) (hf:f%2=0)
 (hF:∀ e,S e->(F e).get y = .loop 2 (n+1) e ps sa bo/\(F e).wf/\y<(F e).n/\∀ (d) (k),aj (ph d) (.func f caps) [.sK y] ((G.new .mark).new (.loop 0 0 e ps sa bo)) k=k v (F e)) {e} (hs:S e) (hg:ay g e = .func f caps) (d) {x}
 (hk:∀ e',e'=e->S e'->kx n e' ((F e').put y (.loop 3 (n+1) e' ps sa bo))=x):RF g ps sa bo fuel (ph d) e G kn kx=x:=by
 subst hy
 obtain ⟨h1,h2,h3,h4⟩:=hF e hs
 exact (wy hw hg hf (h4 d) h1 h2 h3).trans (hk e rfl hs)
theorem qK {cp} {b} {args} {e0 e1 e2} {ps} {sa bo} {H2 H3} (hb:H.get b = .loop 0 0 e0 ps sa bo) (hps:∀ f:Env->R,fO ps args e0 f=f e1)
 (has:∀ (kn) (kx),gZ (cp sa) fuel ph e1 H kn kx=kn e2 H2) (h2:H2.get b = .loop 0 0 e0 ps sa bo) (hw2:H2.wf) (hn2:b<H2.n)
 (hbo:∀ (kn) (kx) (x),(∀ e3,kn e3 H3=x)->gZ (cp bo) fuel ph e2 (H2.put b (.loop 1 0 e0 ps sa bo)) kn kx=x) (h3:H3.get b = .loop 1 0 e0 ps sa bo) (hw3:H3.wf) (hn3:b<H3.n):
 Vf cp fuel ph b args H k=k (.bool true) (H3.put b (.loop 0 0 e0 ps sa bo)):=by
 unfold Vf
 rw [aP,hb]
 show fO ps args e0 _=_
 rw [hps,has,aP,h2]
 show cQ 0 H2 b (.loop 1 0 e0 ps sa bo) (λH=>gZ (cp bo) fuel ph e2 H
  (λ_ H=>dj H b λbl=>eP bl λ_ _ e' ps' as' bo'=>cQ 0 H b (.loop 0 0 e' ps' as' bo') λH=>k (.bool true) H)
  λn _ H=>dj H b λbl=>eP bl λ_ _ e' ps' as' bo'=>cQ 0 H b (.loop 2 (WI n) e' ps' as' bo') λH=>k (.bool false) H)=_
 rw [fm hw2 hn2]
 refine hbo _ _ _ λe3=>?_
 rw [aP,h3]
 show cQ 0 H3 b (.loop 0 0 e0 ps sa bo) (λH=>k (.bool true) H)=_
 rw [fm hw3 hn3]
theorem NI {cp} {b} {args} {e0 e1 e2} {ps} {sa bo} {H2 H3} {n} (hb:H.get b = .loop 0 0 e0 ps sa bo) (hps:∀ f:Env->R,fO ps args e0 f=f e1)
 (has:∀ (kn) (kx),gZ (cp sa) fuel ph e1 H kn kx=kn e2 H2) (h2:H2.get b = .loop 0 0 e0 ps sa bo) (hw2:H2.wf) (hn2:b<H2.n)
 (hbo:∀ (kn) (kx) (x),(∀ e3,kx n e3 H3=x)->gZ (cp bo) fuel ph e2 (H2.put b (.loop 1 0 e0 ps sa bo)) kn kx=x) (h3:H3.get b = .loop 1 0 e0 ps sa bo) (hw3:H3.wf) (hn3:b<H3.n):
 Vf cp fuel ph b args H k=k (.bool false) (H3.put b (.loop 2 (n+1) e0 ps sa bo)):=by
 unfold Vf
 rw [aP,hb]
 show fO ps args e0 _=_
 rw [hps,has,aP,h2]
 show cQ 0 H2 b (.loop 1 0 e0 ps sa bo) (λH=>gZ (cp bo) fuel ph e2 H
  (λ_ H=>dj H b λbl=>eP bl λ_ _ e' ps' as' bo'=>cQ 0 H b (.loop 0 0 e' ps' as' bo') λH=>k (.bool true) H)
  λn _ H=>dj H b λbl=>eP bl λ_ _ e' ps' as' bo'=>cQ 0 H b (.loop 2 (WI n) e' ps' as' bo') λH=>k (.bool false) H)=_
 rw [fm hw2 hn2]
 refine hbo _ _ _ λe3=>?_
 rw [aP,h3]
 show cQ 0 H3 b (.loop 2 (WI n) e0 ps sa bo) (λH=>k (.bool false) H)=_
 rw [fm hw3 hn3]
end
theorem uO {A B:Type} {S:A->Prop} {Q:A->B->Prop} (b0:B) (h:∀ a,S a->∃ b,Q a b):∃ F:A->B,∀ a,S a->Q a (F a):=by
 refine ⟨λa=>@dite _ (S a) (YG3 _) (λhs=>(h a hs).choose) λ_=>b0,λa hs=>?_⟩
 grind
def LY (H:Heap) (O:Nat->Prop) (v:V) (ims:List (List Nat)):Prop:=∃ vis,Row H O v 1 ims.length vis/\∀ (i:Nat) (l:List Nat),ims[i]? = some l->∃ x,vis[i]? = some x/\dh H O x l
def nz (l:List Nat):List Nat:=l.filter λx=>decide (x≠0)
section
variable {cp:RC->ai} {t:Nat->Option cF} {fuel:Nat} {H:Heap} {O:Nat->Prop}
theorem TC {l:List Nat} {i} (h):nz (l.take (i+1))=nz (l.take i) ++ (if l[i]=0 then [] else [l[i]]):=by
 rw [nz,WR h,YE1]
 by_cases h0:l[i]=0<;>simp [nz,h0]
theorem K2 (T:aG t) {y vi} {c ni ii} {P:List Nat->Heap->Prop} {v} {l pre all} (hpre:pre ++ nz l <+: all) (hI:dh H O v l) (hl:l.length<1000000) (hfu:l.length<fuel) (hP:∀ xs G,P xs G->ae H G)
 (hy:∀ xs a G,a ∈ l->a≠0->xs ++ [a] <+: all->P xs G->∃ G',P (xs ++ [a]) G'/\∀ (d) (k),aj (aQ cp t fuel (d+c)) y [.int 3 a] G k=k (.bool true) G') {G} (h:P pre G):
 ∃ G',P (pre ++ nz l) G'/\∀ (d) (kx) (r) (e) (x),l.length<r->aa s000 e=y->aa s007 e=vi->aa s010 e = .int 3 ni->aa s011 e = .int 3 ii->aa s015 e=v->aa s016 e = .int 3 l.length->aa s017 e = .int 3 0->
  (∀ e',aa s000 e'=y->aa s007 e'=vi->aa s010 e' = .int 3 ni->aa s011 e' = .int 3 ii->kx 3 e' G'=x)->jF sU fuel (aQ cp t fuel (d+c)) kx r e G=x:=by
 have nl:nn l.length:=by unfold nn;omega
 obtain ⟨_,G',h',z⟩:=bV (c:=sU) (ph:=λd=>aQ cp t fuel (d+c)) (I:=λi _ G=>P (pre ++ nz (l.take i)) G)
  (S:=λi _ e=>aa s000 e=y/\aa s007 e=vi/\aa s010 e = .int 3 ni/\aa s011 e = .int 3 ii/\aa s015 e=v/\aa s016 e = .int 3 l.length/\aa s017 e = .int 3 i) (λi _ G hil hG=>by
   obtain ⟨b,o,cc,z,rfl,hbn,hbO,hrd⟩:=hI.open hil
   have hrd:=λ{id} {k}=>@hrd G ((hP _ _ hG).same b hbn) id k
   have hm:=Yl hil
   have hz:=TC hil
   generalize l[i]=a at hrd hm hz
   have e3:nn i:=by unfold nn;omega
   have e4:i<9223372036854775808:=by omega
   have e5:(i+1)%18446744073709551616=i+1:=by omega
   by_cases h0:a=0
   .refine ⟨(),G,by grind,λd kx r e x ⟨q0,q7,q10,q11,q15,q16,q17⟩ hk=>?_⟩
    rw [ak]
    simp only [go_sem,sU,q15,q16,q17,hil,nl,e3,e4,e5,↓hrd,h0]
    exact hk _ (by simp only [go_sem,q0,q7,q10,q11,q15,q16])
   .rw [if_neg h0]at hz
    obtain ⟨G1,h1,z1⟩:=hy _ a G hm h0 (by rw [WG,<- hz];exact (List.prefix_append_right_inj _ |>.2 ((List.take_prefix _ _).filter _)).trans hpre) hG
    have z1':=λ{d} {k}=>z1 d k
    refine ⟨(),G1,by grind,λd kx r e x ⟨q0,q7,q10,q11,q15,q16,q17⟩ hk=>?_⟩
    rw [ak]
    simp only [go_sem,sU,q0,q15,q16,q17,hil,nl,e3,e4,e5,↓hrd,h0,z1']
    exact hk _ (by simp only [go_sem,q0,q7,q10,q11,q15,q16])) l.length 0 () G (by omega) (by simpa [nz] using h)
 rw [Wi]at h'
 refine ⟨G',h',λd kx r e x hr q0 q7 q10 q11 q15 q16 q17 hk=>z d kx r e x hr ⟨q0,q7,q10,q11,q15,q16,q17⟩ λr e' ⟨q0,q7,q10,q11,q15,q16,q17⟩=>?_⟩
 have e6:¬ l.length<l.length:=by omega
 rw [ak]
 simp only [go_sem,sU,q16,q17,nl,e6]
 exact hk _ q0 q7 q10 q11
theorem KR (a b):nz (a ++ b)=nz a ++ nz b:=YE1 ..
theorem Lr {ims:List (List Nat)} {i} (h):nz (ims.take (i+1)).flatten=nz (ims.take i).flatten ++ nz ims[i]:=by
 rw [WR h,YL0,KR]
 simp
theorem tN {ims:List (List Nat)} {i}:nz (ims.take i).flatten <+: nz ims.flatten:=by
 refine List.IsPrefix.filter _ ?_
 conv=>rhs;rw [<- List.take_append_drop i ims,YL0]
 simp
theorem K1 (T:aG t) {y:V} {c B:Nat} {P:List Nat->Heap->Prop} {v:V} {ims:List (List Nat)} (hI:LY H O v ims) (hn:ims.length<1000000) (hl:∀ l ∈ ims,l.length<1000000) (hfu:1000000<fuel) (hP:∀ xs G,P xs G->ae H G/\G.get B = .cells [v])
 (hy:∀ xs a G,a ∈ ims.flatten->a≠0->xs ++ [a] <+: nz ims.flatten->P xs G->∃ G',P (xs ++ [a]) G'/\∀ (d:Nat) (k:K),aj (aQ cp t fuel (d+c)) y [.int 3 a] G k=k (.bool true) G') {G:Heap} (h:P [] G):
 ∃ G',P (nz ims.flatten) G'/\∀ (d:Nat) (k:K),aj (aQ cp t fuel (d+c+1)) (.func 330 [.ptr B 0]) [y] G k=k (.cV []) G':=by
 have nl:nn ims.length:=by unfold nn;omega
 obtain ⟨vis,hR,hE⟩:=hI
 obtain ⟨_,G',h',z⟩:=bV (c:=Ap) (ph:=λd=>aQ cp t fuel (d+c)) (I:=λi _ G=>P (nz (ims.take i).flatten) G)
  (S:=λi _ e=>aa s000 e=y/\aa s007 e=v/\aa s010 e = .int 3 ims.length/\aa s011 e = .int 3 i) (λi _ G hil hG=>by
   obtain ⟨b,o,cc,z,rfl,hbn,hbO,hrd⟩:=hR.open hil
   obtain ⟨w,hw1,hw2⟩:=hE i ims[i] (YB hil)
   have hrd:=λ{id} {k}=>(@hrd G ((hP _ _ hG).1.same b hbn)).2 (by rw [WO];exact hw1) (id:=id) (k:=k)
   simp only [WO]at hrd
   have hm:=Yl hil
   have hz:=Lr hil
   generalize ims[i]=l at hw2 hm hz
   have hll:=hl l hm
   have e3:nn i:=by unfold nn;omega
   have e4:i<9223372036854775808:=by omega
   have e5:(i+1)%18446744073709551616=i+1:=by omega
   have e6:l.length<9223372036854775808:=by omega
   obtain ⟨G1,h1,z1⟩:=K2 (vi:=.slice b o ims.length cc z) (ni:=ims.length) (ii:=i) T (by rw [<- hz];exact tN) hw2 hll (by omega) (λxs G h=>(hP xs G h).1) (λxs a G ha=>hy xs a G (YH0.2 ⟨l,hm,ha⟩)) hG
   have hsn:=λ{id} {f}=>hw2.sn (id:=id) (f:=f)
   rw [<- hz]at h1
   refine ⟨(),G1,h1,λd kx r e x ⟨q0,q7,q10,q11⟩ hk=>?_⟩
   rw [ak]
   simp only [go_sem,Ap,q7,q10,q11,hil,nl,e3,e4,↓hrd,↓hsn,e6]
   refine z1 d _ fuel _ _ (by omega) ?_ ?_ ?_ ?_ ?_ ?_ ?_ λe' q0 q7 q10 q11=>?_
   .exact q0
   .exact q7
   .exact q10
   .exact q11
   .rfl
   .rfl
   .rfl
   simp only [go_sem,q11,e5]
   exact hk _ (by simp only [go_sem,q0,q7,q10])) ims.length 0 () G (by omega) (by simpa [nz] using h)
 rw [Wi]at h'
 refine ⟨G',h',λd k=>?_⟩
 have hB:=(hP _ _ h).2
 have hsn:=λ{id} {f}=>hR.sn (id:=id) (f:=f)
 have e1:ims.length<9223372036854775808:=by omega
 have e6:¬ ims.length<ims.length:=by omega
 rw [ax T.abU rfl rfl,Yb,YT]
 simp only [go_sem,aaH,hB,↓hsn,e1]
 refine z d _ fuel _ _ (by omega) ⟨by simp only [go_sem],by simp only [go_sem],by simp only [go_sem],by simp only [go_sem]⟩ λr e' ⟨q0,q7,q10,q11⟩=>?_
 rw [ak]
 simp only [go_sem,Ap,q10,q11,nl,e6]
def qb (n:Nat) (xs:List Nat):List Nat:=(WT n).map λj=>xs.count j
theorem dO (n) (xs):(qb n xs).length=n:=by simp [qb]
theorem rO {n i} {xs} (h:i<n):(qb n xs)[i]? = some (xs.count i):=by simp [qb,h]
theorem J6 {n a} {xs} (h:a<n):qb n (xs ++ [a])=(qb n xs).set a (xs.count a+1):=by
 refine QW λi=>?_
 rw [List.getElem?_set]
 by_cases hi:i<n
 .rw [rO hi,dO,List.count_append]
  by_cases he:a=i
  .simp_all
  .rw [if_neg he,rO hi]
   simp_all
 .rw [WW (by rw [dO];omega)]
  split
  .omega
  .rw [WW (by rw [dO];omega)]
theorem En (T:aG t) {v} (hw:H.wf) (h1:v.one=true) (h2:v = .aB\/∃ b o n c s,v = .slice b o n c s) (d) (k):aj (aQ cp t fuel (d+1)) (.func 288 []) [v] H k=k (.func 330 [.ptr H.n 0]) (H.new (.cells [v])):=by
 rw [aR T.abJ rfl rfl]
 rcases h2 with rfl|⟨b,o,n,c,s,rfl⟩<;>simp only [go_sem,aaA,hw]
theorem Row.form {v:V} {sz n:Nat} {row:List V} (h:Row H O v sz n row):v = .aB\/∃ b o n c s,v = .slice b o n c s:=by
 obtain ⟨_,_,⟨rfl|⟨_,_,_,_,rfl⟩,_⟩|⟨_,_,_,_,_,rfl,_⟩⟩:=h
 .exact YG rfl
 .exact YD ⟨_,_,_,_,_,rfl⟩
 .exact YD ⟨_,_,_,_,_,rfl⟩
structure CI (H:Heap) (v:V) (n y:Nat) (lp:eB) (xs:List Nat) (G:Heap):Prop where
 f:ae H G
 g0:G.get H.n = .cells [.int 3 n]
 g1:G.get (H.n+1) = .cells [.aB]
 g2:G.get (H.n+2) = .cells [.int 3 0]
 g3:G.get (H.n+3) = .cells ((qb n xs).map (V.int 3))
 g4:G.get (H.n+4) = .cells [.slice (H.n+3) 0 n (n+1) 0]
 g5:G.get (H.n+5) = .cells [v]
 gy:G.get (H.n+7)=lp
 n:H.n+7<G.n
theorem AB {v:V} {n a:Nat} {xs:List Nat} {e0:Env} {G:Heap} (h3:aa s003 e0 = .ptr H.n 0) (h6:aa s006 e0 = .ptr (H.n+4) 0) (hn:n<=1024) (ha:193<=a/\a<n) (hx:xs.length<1000000)
 (I:CI H v n (H.n+7) (.loop 0 0 e0 [s022] kR.1 kR.2) xs G):
 ∃ G',CI H v n (H.n+7) (.loop 0 0 e0 [s022] kR.1 kR.2) (xs ++ [a]) G'/\∀ (d:Nat) (k:K),aj (aQ (aO Tryz.prog) t fuel (d+1)) (.sK (H.n+7)) [.int 3 a] G k=k (.bool true) G':=by
 obtain ⟨f,g0,g1,g2,g3,g4,g5,gy,gn⟩:=I
 obtain ⟨ha1,ha2⟩:=ha
 have hw:=f.wf
 obtain ⟨G1,hG1,f1,p1,m1,w1,o1⟩:=Heap.bd f (by omega) gn (.loop 1 0 e0 [s022] kR.1 kR.2)
 have e1:nn a:=by unfold nn;omega
 have e2:nn n:=by unfold nn;omega
 have e3:¬ a<193:=by omega
 have e4:¬ n<=a:=by omega
 have e5:a<9223372036854775808:=by omega
 have hnl:a<(qb n xs).length:=by rw [dO];omega
 have e6:((xs.count a)+1)%18446744073709551616=xs.count a+1:=by
  grind
 have hnt:∀ {id} {k},nth id ((qb n xs).map (V.int 3)) a k=k (.int 3 (xs.count a)):=iL (by rw [List.getElem?_map,rO ha2];rfl)
 have q0:=(o1 H.n (by omega)).trans g0
 have q3:=(o1 (H.n+3) (by omega)).trans g3
 have q4:=(o1 (H.n+4) (by omega)).trans g4
 have n3:H.n+3<G1.n:=by omega
 have hs:(List.map (V.int 3) (qb n xs)).set a (.int 3 (xs.count a+1))=(qb n (xs ++ [a])).map (V.int 3):=by rw [J6 ha2,List.map_set]
 obtain ⟨G2,hG2,f2,p2,m2,w2,o2⟩:=Heap.bd f1 (by omega) n3 (.cells ((qb n (xs ++ [a])).map (V.int 3)))
 obtain ⟨G3,hG3,f3,p3,m3,w3,o3⟩:=Heap.bd (b:=H.n+7) f2 (by omega) (by omega) (.loop 0 0 e0 [s022] kR.1 kR.2)
 refine ⟨G3,⟨f3,?_,?_,?_,?_,?_,?_,p3,by omega⟩,λd k=>?_⟩
 .grind
 .grind
 .grind
 .grind
 .grind
 .grind
 rw [pE,qK (e1:=kP s022 (.int 3 a) e0) (e2:=kP s007 (.int 3 a) (kP s022 (.int 3 a) e0)) gy (λf=>by simp only [go_sem]) (λkn kx=>by rw [Vw.1];simp only [go_sem,UG]) gy hw gn (λkn kx x hk=>by
  rw [Vw.2,hG1]
  simp only [go_sem,ZE,UH,h3,h6,e1,e2,e3,e4,e5,e6,ha2,q0,q4,q3,↓hnt,hnl,n3,hs,w1,hG2]
  exact hk _) ((o2 _ (by omega)).trans p1) w2 (by omega),hG3]
theorem CW (T:aG t) {v:V} {ims:List (List Nat)} {n:Nat} (hw:H.wf) (hI:LY H O v ims) (hm:ims.length<1000000) (hl:∀ l ∈ ims,l.length<1000000) (hfu:1000000<fuel) (hn:n<=1024) (hok:∀ l ∈ ims,∀ a ∈ l,a≠0->193<=a/\a<n) (hc:ims.flatten.length<1000000):
 ∃ H' v',(∀ (d:Nat) (k:K),aj (aQ (aO Tryz.prog) t fuel (d+3)) (.func 218 []) [v,.int 3 n] H k=k (.cV [v',.int 3 0]) H')/\ae H H'/\Own H H' v' 1 n ((qb n (nz ims.flatten)).map (V.int 3)):=by
 obtain ⟨vis,hR⟩:∃ vis,Row H O v 1 ims.length vis:=hI.imp λ_ h=>h.1
 obtain ⟨G1,hG1,f1,p1,n1⟩:=Heap.aU hw (.cells [.int 3 n])
 obtain ⟨G2,hG2,f2,p2,n2⟩:=Heap.gO (by omega) f1.wf (.cells [.aB])
 obtain ⟨G3,hG3,f3,p3,n3⟩:=Heap.gO (by omega) f2.wf (.cells [.int 3 0])
 obtain ⟨G4,f4,-,p4,n4,z4⟩:=Bl (x:=.int 3 0) (n:=n) (a:=.s s016) (by omega) f3.wf rfl (by omega) (YA _)
 obtain ⟨G5,hG5,f5,p5,n5⟩:=Heap.gO (by omega) f4.wf (.cells [.aB])
 obtain ⟨G6,hG6,f6,p6,n6,w6,o6⟩:=Heap.bd (b:=H.n+4) f5 (by omega) (by omega) (.cells [.slice (H.n+3) 0 n (n+1) 0])
 obtain ⟨G7,hG7,f7,p7,n7⟩:=Heap.gO (m:=H.n+5) (by omega) w6 (.cells [v])
 have key:∀ e0,aa s003 e0 = .ptr H.n 0->aa s006 e0 = .ptr (H.n+4) 0->∃ G',CI H v n (H.n+7) (.loop 0 0 e0 [s022] kR.1 kR.2) (nz ims.flatten) G'/\∀ (d) (k),aj (aQ (aO Tryz.prog) t fuel (d+2)) (.func 330 [.ptr (H.n+5) 0]) [.sK (H.n+7)] ((G7.new .mark).new (.loop 0 0 e0 [s022] kR.1 kR.2)) k=k (.cV []) G':=λe0 h3 h6=>by
  obtain ⟨G8,hG8,f8,p8,n8⟩:=Heap.aU f7.wf .mark
  obtain ⟨G9,hG9,f9,p9,n9⟩:=Heap.aU f8.wf (.loop 0 0 e0 [s022] kR.1 kR.2)
  rw [hG8,hG9]
  have f79:=f8.trans f9
  have e79:=f79.same
  have e69:=λb hb=>(e79 b (by omega)).trans (f7.same b hb)
  have e49:=λb hb=>(e69 b (by omega)).trans (f6.same b hb)
  have f09:=f1.trans (f2.trans (f3.trans (f4.trans (f6.trans (f7.trans f79)))))
  refine K1 T hI hm hl hfu (λxs G I=>⟨I.f,I.g5⟩) (λxs a G ha h0 hp I=>?_) ⟨f09,?_,?_,?_,?_,?_,?_,?_,by omega⟩
  .obtain ⟨l,hl1,hl2⟩:=YH0.1 ha
   have h1:=hp.length_le
   have h2:(nz ims.flatten).length<=ims.flatten.length:=YJ1 _ _
   rw [YC]at h1
   exact AB h3 h6 hn (hok l hl1 a hl2 h0) (by omega) I
  .rw [e49 _ (by omega),f4.same _ (by omega),f3.same _ (by omega),f2.same _ (by omega)];exact p1
  .rw [e49 _ (by omega),f4.same _ (by omega),f3.same _ (by omega)];exact p2
  .rw [e49 _ (by omega),f4.same _ (by omega)];exact p3
  .rw [e49 _ (by omega),p4]
   congr 1
   refine QW λi=>?_
   by_cases hi:i<n
   .simp [hi,qb]
   .rw [WW (by simp;omega),WW (by simp [qb];omega)]
  .rw [e69 _ (by omega),p6]
  .rw [e79 _ (by omega)];exact p7
  .rw [show H.n+7=G8.n by omega];exact p9
 obtain ⟨F,hF⟩:=uO (S:=λe0=>aa s003 e0 = .ptr H.n 0/\aa s006 e0 = .ptr (H.n+4) 0/\aa s004 e0 = .ptr (H.n+1) 0/\aa s005 e0 = .ptr (H.n+2) 0) H λe0 h=>key e0 h.1 h.2.1
 obtain ⟨e0,z,s0⟩:∃ e0:Env,(∀ (d) (k),aj (aQ (aO Tryz.prog) t fuel (d+3)) (.func 218 []) [v,.int 3 n] H k=k (.cV [.slice (H.n+3) 0 n (n+1) 0,.int 3 0]) ((((F e0).put (H.n+7) (.loop 3 0 e0 [s022] kR.1 kR.2)).put (H.n+1) (.cells [.slice (H.n+3) 0 n (n+1) 0])).put (H.n+2) (.cells [.int 3 0])))/\aa s003 e0 = .ptr H.n 0/\aa s006 e0 = .ptr (H.n+4) 0/\aa s004 e0 = .ptr (H.n+1) 0/\aa s005 e0 = .ptr (H.n+2) 0:=by
  have z5:=λ{d} {k}=>En (cp:=aO Tryz.prog) (fuel:=fuel) T w6 hR.one hR.form d k
  have e1:nn n:=by unfold nn;omega
  have e2:¬ 1024<n:=by omega
  have e3:H.n+4<G5.n:=by omega
  have m2:=f1.wf
  have m3:=f2.wf
  have m5:=f4.wf
  have m6:=f5.wf
  have q1:G3.get H.n = .cells [.int 3 n]:=by rw [f3.same _ (by omega),f2.same _ (by omega)];exact p1
  have N2:G2.n=H.n+2:=by omega
  have N4:G4.n=H.n+4:=by omega
  have N6:G6.n=H.n+5:=by omega
  apply Exists.intro
  refine ⟨λd k=>?_,?_,?_⟩
  .rw [aR T.abq rfl rfl]
   simp only [go_sem,ZE,aao,↓uK,hw,hG1,n1,m2,hG2,N2,m3,hG3,q1,e1,e2,↓z4,m5,hG5,N4,e3,p5,m6,hG6,z5,N6,hG7,WY]
   refine L1 f7.wf (by omega) rfl (λe he=>⟨(hF e he).1.gy,(hF e he).1.f.wf,(hF e he).1.n,(hF e he).2⟩) ⟨by simp only [go_sem],by simp only [go_sem],by simp only [go_sem],by simp only [go_sem]⟩ rfl d λe' he hs=>?_
   obtain ⟨⟨g,g0,g1,g2,g3,g4,g5,gy,gn⟩,-⟩:=hF e' hs
   obtain ⟨h3,h6,h4,h5⟩:=hs
   have gw:=g.wf
   have u1:H.n+1<(F e').n:=by omega
   have u2:H.n+2<(F e').n:=by omega
   have u4:¬ H.n+4=H.n+7:=by omega
   have u5:¬ H.n+1=H.n+7:=by omega
   have u6:¬ H.n+2=H.n+7:=by omega
   have u7:¬ H.n+2=H.n+1:=by omega
   have u8:¬ H.n+1=H.n+2:=by omega
   simp only [go_sem,h4,h5,h6,gw,gn,g1,g2,g4,u1,u2,u4,u5,u6,u7,u8,↓T9]
   subst he
   rfl
  .rfl
  .exact ⟨by simp only [go_sem],by simp only [go_sem],by simp only [go_sem]⟩
 obtain ⟨⟨g,g0,g1,g2,g3,g4,g5,gy,gn⟩,-⟩:=hF e0 s0
 obtain ⟨A1,hA1,a1,b1,c1,d1,r1⟩:=Heap.bd g (by omega) gn (.loop 3 0 e0 [s022] kR.1 kR.2)
 obtain ⟨A2,hA2,a2,b2,c2,d2,r2⟩:=Heap.bd (b:=H.n+1) a1 (by omega) (by omega) (.cells [.slice (H.n+3) 0 n (n+1) 0])
 obtain ⟨A3,hA3,a3,b3,c3,d3,r3⟩:=Heap.bd (b:=H.n+2) a2 (by omega) (by omega) (.cells [.int 3 0])
 rw [hA1,hA2,hA3]at z
 refine ⟨A3,_,z,a3,by simp [dO],by simp [V.one],YD ⟨H.n+3,n+1,0,[],rfl,?_,YG rfl,by omega,by omega⟩⟩
 rw [r3 _ (by omega),r2 _ (by omega),r1 _ (by omega),YV]
 exact g3
def dw (cs:List Nat):List Nat:=(WT cs.length).filter λi=>decide (193<=i/\cs[i]? = some 0)
def oh (cs:List Nat) (i:Nat):List Nat:=(WT i).filter λi=>decide (193<=i/\cs[i]? = some 0)
theorem Dm {cs} {i} (h1:193<=i) (h2):oh cs (i+1)=oh cs i ++ (if cs[i]=0 then [i] else []):=by
 rw [oh,List.range_succ,YE1]
 by_cases h0:cs[i]=0<;>simp [oh,h0,h1,h2]
theorem GK {cs}:oh cs 193=[]:=by
 rfl
theorem yd {cs} {i} (h:i<=cs.length):oh cs i <+: dw cs:=by
 refine List.IsPrefix.filter _ ?_
 rw [show cs.length=i+(cs.length-i) by omega,List.range_add]
 simp
theorem Dl {cs} (h:cs.length<=193):dw cs=[]:=by
 rw [dw,List.filter_eq_nil_iff]
 grind
theorem GL {cs}:oh cs (max 193 cs.length)=dw cs:=by
 by_cases h:cs.length<=193
 .rw [Dl h,Nat.max_eq_left h,GK]
 .rw [Nat.max_eq_right (by omega)];rfl
theorem AY (T:aG t) {y:V} {c B:Nat} {P Z:List Nat->Heap->Prop} {v:V} {cs:List Nat} (hI:dh H O v cs) (hl:cs.length<1000000) (hfu:1000000<fuel) (hP:∀ xs G,P xs G->ae H G/\G.get B = .cells [v])
 (hy:∀ xs a G,xs ++ [a] <+: dw cs->P xs G->(∃ G',P (xs ++ [a]) G'/\∀ (d:Nat) (k:K),aj (aQ cp t fuel (d+c)) y [.int 3 a] G k=k (.bool true) G')\/∃ G',Z xs G'/\∀ (d:Nat) (k:K),aj (aQ cp t fuel (d+c)) y [.int 3 a] G k=k (.bool false) G') {G:Heap} (h:P [] G):
 ∃ G',(P (dw cs) G'\/∃ xs a,xs ++ [a] <+: dw cs/\Z xs G')/\∀ (d:Nat) (k:K),aj (aQ cp t fuel (d+c+1)) (.func 332 [.ptr B 0]) [y] G k=k (.cV []) G':=by
 have nl:nn cs.length:=by unfold nn;omega
 have e1:cs.length<9223372036854775808:=by omega
 have hsn:=λ{id} {f}=>hI.sn (id:=id) (f:=f)
 have n0:=by omega
 have n1:=by omega
 have n2:=by omega
 have n3:¬ max 193 cs.length<cs.length:=by omega
 have hmx:=GL (cs:=cs)
 generalize hN:max 193 cs.length=N at n0 n1 n2 n3 hmx
 rcases iI (c:=sV) (ph:=λd=>aQ cp t fuel (d+c)) (n:=N) (j:=λ_=>0) (I:=λi _ G=>P (oh cs i) G/\193<=i)
  (S:=λi _ e=>aa s000 e=y/\aa s001 e = .ptr B 0/\aa s003 e = .int 3 i) (J:=λ_ G=>∃ xs a,xs ++ [a] <+: dw cs/\Z xs G) (Q:=λ_ _=>True) (λi _ G hil ⟨hG,hi⟩=>by
   have hlt:i<cs.length:=by omega
   obtain ⟨b,o,cc,z,rfl,hbn,hbO,hrd⟩:=hI.open hlt
   obtain ⟨hf,hB⟩:=hP _ _ hG
   have hrd:=λ{id} {k}=>@hrd G (hf.same b hbn) id k
   have hz:=Dm hi hlt
   have hpf:=yd hlt
   generalize cs[i]=q at hrd hz
   have e3:nn i:=by unfold nn;omega
   have e4:i<9223372036854775808:=by omega
   have e5:(i+1)%18446744073709551616=i+1:=by omega
   by_cases h0:q=0
   .rw [if_pos h0]at hz
    rcases hy _ i G (by grind) hG with ⟨G1,h1,z1⟩|⟨G1,h1,z1⟩
    .have z1':=λ{d} {k}=>z1 d k
     refine YG ⟨(),G1,⟨by grind,by omega⟩,λd kx r e x ⟨q0,q1,q3⟩ hk=>?_⟩
     rw [ak]
     simp only [go_sem,sV,q0,q1,q3,hB,↓hsn,hlt,e1,nl,e3,e4,e5,↓hrd,h0,↓z1']
     exact hk _ (by simp only [go_sem,q0,q1])
    .have z1':=λ{d} {k}=>z1 d k
     refine YD ⟨(),G1,⟨_,i,by grind,h1⟩,λd kx r e x ⟨q0,q1,q3⟩ hk=>?_⟩
     rw [ak]
     simp only [go_sem,sV,q0,q1,q3,hB,↓hsn,hlt,e1,nl,e3,e4,↓hrd,h0,↓z1']
     grind
   .rw [if_neg h0,YV]at hz
    refine YG ⟨(),G,⟨by grind,by omega⟩,λd kx r e x ⟨q0,q1,q3⟩ hk=>?_⟩
    rw [ak]
    simp only [go_sem,sV,q1,q3,hB,↓hsn,hlt,e1,nl,e3,e4,e5,↓hrd,h0]
    exact hk _ (by simp only [go_sem,q0,q1])) (N-193) 193 () G (by omega) ⟨by exact h,YA _⟩ with ⟨_,G',⟨hG',_⟩,z⟩|⟨_,G',hG',z⟩
 .rw [hmx]at hG'
  have hB:=(hP _ _ hG').2
  refine ⟨G',YG hG',λd k=>?_⟩
  rw [ax T.XP rfl rfl,Yb,YT]
  simp only [go_sem,W9]
  refine z d _ fuel _ _ (by omega) ⟨by simp only [go_sem],by simp only [go_sem],by simp only [go_sem]⟩ λr e' ⟨q0,q1,q3⟩=>?_
  have e3:nn N:=by unfold nn;omega
  rw [ak]
  simp only [go_sem,sV,q1,q3,hB,↓hsn,e1,nl,e3,n3]
 .refine ⟨G',YD hG',λd k=>?_⟩
  rw [ax T.XP rfl rfl,Yb,YT]
  simp only [go_sem,W9]
  exact z d _ fuel _ _ (by omega) ⟨by simp only [go_sem],by simp only [go_sem],by simp only [go_sem]⟩ λe' _=>by grind
end
end Go.Ev
end
section
namespace Go.Ev
open Go.Proofs
section
variable {cp:RC->ai} {t:Nat->Option cF} {fuel:Nat} {H:Heap} {O:Nat->Prop}
theorem yJ (T:aG t) {v} (hw:H.wf) (h1:v.one=true) (h2:v = .aB\/∃ b o n c s,v = .slice b o n c s) (d) (k):aj (aQ cp t fuel (d+1)) (.func 292 []) [v] H k=k (.func 332 [.ptr H.n 0]) (H.new (.cells [v])):=by
 rw [aR T.abL rfl rfl]
 rcases h2 with rfl|⟨b,o,n,c,s,rfl⟩<;>simp only [go_sem,aaC,hw]
theorem Di (cs):(dw cs).length<=cs.length:=by
 have:=YJ1 (λi=>decide (193<=i/\cs[i]? = some 0)) (WT cs.length)
 rw [Wx]at this
 exact this
structure FI (H:Heap) (v:V) (lp:eB) (xs:List Nat) (G:Heap):Prop where
 f:ae H G
 g0:G.get H.n = .cells [.int 3 xs.length]
 g1:G.get (H.n+1) = .cells [v]
 gy:G.get (H.n+3)=lp
 n:H.n+3<G.n
theorem GJ (T:aG t) {v:V} {cs:List Nat} (hw:H.wf) (hI:dh H O v cs) (hl:cs.length<1000000) (hfu:1000000<fuel):
 ∃ H',(∀ (d:Nat) (k:K),aj (aQ (aO Tryz.prog) t fuel (d+3)) (.func 290 []) [v] H k=k (.int 3 (dw cs).length) H')/\ae H H':=by
 obtain ⟨G0,hG0,f0,p0,n0⟩:=Heap.aU hw (.cells [.int 3 0])
 obtain ⟨G1,hG1,f1,p1,n1,w1,-⟩:=Heap.bd (b:=H.n) f0 (by omega) (by omega) (.cells [.int 3 0])
 obtain ⟨G2,hG2,f2,p2,n2⟩:=Heap.gO (m:=H.n+1) (by omega) f1.wf (.cells [v])
 have key:∀ e0,aa s003 e0 = .ptr H.n 0->∃ G',FI H v (.loop 0 0 e0 [s006] nM.1 nM.2) (dw cs) G'/\∀ (d) (k),aj (aQ (aO Tryz.prog) t fuel (d+2)) (.func 332 [.ptr (H.n+1) 0]) [.sK (H.n+3)] ((G2.new .mark).new (.loop 0 0 e0 [s006] nM.1 nM.2)) k=k (.cV []) G':=λe0 h3=>by
  obtain ⟨G3,hG3,f3,p3,n3⟩:=Heap.gO (by omega) f2.wf .mark
  obtain ⟨G4,hG4,f4,p4,n4⟩:=Heap.gO (by omega) f3.wf (.loop 0 0 e0 [s006] nM.1 nM.2)
  rw [hG3,hG4]
  obtain ⟨G',hG',z⟩:=AY (cp:=aO Tryz.prog) (P:=λxs G=>FI H v (.loop 0 0 e0 [s006] nM.1 nM.2) xs G) (Z:=λ_ _=>False) T hI hl hfu (λxs G I=>⟨I.f,I.g1⟩) (λxs a G hp ⟨f,g0,g1,gy,gn⟩=>by
   obtain ⟨A1,hA1,a1,b1,c1,w1,o1⟩:=Heap.bd f (by omega) gn (.loop 1 0 e0 [s006] nM.1 nM.2)
   obtain ⟨A2,hA2,a2,b2,c2,w2,o2⟩:=Heap.bd (b:=H.n) a1 (by omega) (by omega) (.cells [.int 3 (xs ++ [a]).length])
   obtain ⟨A3,hA3,a3,b3,c3,w3,o3⟩:=Heap.bd (b:=H.n+3) a2 (by omega) (by omega) (.loop 0 0 e0 [s006] nM.1 nM.2)
   have e1:(xs.length+1)%18446744073709551616=xs.length+1:=by
    have h1:=hp.length_le
    have h2:=Di cs
    grind
   have q0:=(o1 H.n (by omega)).trans g0
   have u1:H.n<A1.n:=by omega
   rw [YC,YF,YM]at hA2
   refine YG ⟨A3,⟨a3,(o3 _ (by omega)).trans b2,by grind,b3,by omega⟩,λd k=>?_⟩
   rw [pE,qK (e1:=kP s006 (.int 3 a) e0) (e2:=kP s006 (.int 3 a) e0) gy (λf=>by simp only [go_sem]) (λkn kx=>by rw [Vx.1];simp only [go_sem,UI]) gy f.wf gn (λkn kx x hk=>by
    rw [Vx.2,hA1]
    simp only [go_sem,UJ,h3,q0,w1,u1,e1,hA2]
    exact hk _) ((o2 _ (by omega)).trans b1) w2 (by omega),hA3])
   ⟨f1.trans (f2.trans (f3.trans f4)),by rw [f4.same _ (by omega),f3.same _ (by omega),f2.same _ (by omega)];exact p1,by rw [f4.same _ (by omega),f3.same _ (by omega)];exact p2,p4,by omega⟩
  grind
 obtain ⟨F,hF⟩:=uO H key
 obtain ⟨e0,z,s0⟩:∃ e0:Env,(∀ (d) (k),aj (aQ (aO Tryz.prog) t fuel (d+3)) (.func 290 []) [v] H k=k (.int 3 (dw cs).length) ((F e0).put (H.n+3) (.loop 3 0 e0 [s006] nM.1 nM.2)))/\aa s003 e0 = .ptr H.n 0:=by
  have w0:=f0.wf
  have N1:G1.n=H.n+1:=by omega
  have z5:=λ{d} {k}=>yJ (cp:=aO Tryz.prog) (fuel:=fuel) T w1 hI.one hI.form d k
  have u1:H.n<H.n+1:=by omega
  apply Exists.intro
  refine ⟨λd k=>?_,?_⟩
  .rw [aR T.abK rfl rfl]
   simp only [go_sem,aaB,↓uK,hw,hG0,n0,p0,w0,u1,hG1,z5,N1,hG2]
   refine L1 f2.wf (by omega) rfl (λe he=>⟨(hF e he).1.gy,(hF e he).1.f.wf,(hF e he).1.n,(hF e he).2⟩) rfl rfl d λe' he h3=>?_
   obtain ⟨⟨g,g0,g1,gy,gn⟩,-⟩:=hF e' h3
   have gw:=g.wf
   have u1:¬ H.n=H.n+3:=by omega
   simp only [go_sem,h3,gw,gn,g0,u1]
   subst he
   rfl
  .rfl
 obtain ⟨⟨g,g0,g1,gy,gn⟩,-⟩:=hF e0 s0
 exact ⟨_,z,g.put (by omega) gn⟩
structure TI (H:Heap) (v:V) (n B:Nat) (lp:eB) (xs:List Nat) (G:Heap):Prop where
 f:ae H G
 b:H.n<B
 g0:G.get H.n = .cells [.int 3 n]
 g1:∃ w,G.get (B) = .cells [w]/\Own H G w 1 xs.length (xs.map (V.int 3))/\jM w H.n/\jM w (B)/\jM w (B+1)/\jM w (B+3)
 g2:G.get (B+1) = .cells [v]
 gy:G.get (B+3)=lp
 n:B+3<G.n
theorem xF {v:V} {n a B:Nat} {xs:List Nat} {e0:Env} {G:Heap} (h3:aa s003 e0 = .ptr H.n 0) (h6:aa s006 e0 = .ptr (B) 0) (hx:xs.length<100000) (hn:nn n)
 (I:TI H v n B (.loop 0 0 e0 [s020] eh.1 eh.2) xs G):
 (xs.length≠n/\∃ G',TI H v n B (.loop 0 0 e0 [s020] eh.1 eh.2) (xs ++ [a]) G'/\∀ (d:Nat) (k:K),aj (aQ (aO Tryz.prog) t fuel (d+1)) (.sK (B+3)) [.int 3 a] G k=k (.bool true) G')\/
 (xs.length=n/\∃ G',TI H v n B (.loop 2 2 e0 [s020] eh.1 eh.2) xs G'/\∀ (d:Nat) (k:K),aj (aQ (aO Tryz.prog) t fuel (d+1)) (.sK (B+3)) [.int 3 a] G k=k (.bool false) G'):=by
 obtain ⟨f,hB,g0,⟨w,g1,ow,o0,o1,o2,o4⟩,g2,gy,gn⟩:=I
 have hw:=f.wf
 obtain ⟨A1,hA1,a1,b1,c1,w1,r1⟩:=Heap.bd f (by omega) gn (.loop 1 0 e0 [s020] eh.1 eh.2)
 have q0:=(r1 H.n (by omega)).trans g0
 have q1:=(r1 (B) (by omega)).trans g1
 have ow1:Own H A1 w 1 xs.length (xs.map (V.int 3)):=by rw [<- hA1];exact ow.nJ hw gn o4
 have hsn:=λ{id} {f}=>ow.sn (id:=id) (f:=f)
 have e1:xs.length<9223372036854775808:=by omega
 have e3:(dW .eq xs.length n=true)=(xs.length=n):=Vc
 by_cases he:xs.length=n
 .obtain ⟨A3,hA3,a3,b3,c3,w3,o3⟩:=Heap.bd (b:=B+3) a1 (by omega) (by omega) (.loop 2 2 e0 [s020] eh.1 eh.2)
  refine YD ⟨he,A3,⟨a3,hB,(o3 _ (by omega)).trans q0,⟨w,(o3 _ (by omega)).trans q1,by rw [<- hA3];exact ow1.nJ w1 (by omega) o4,o0,o1,o2,o4⟩,by grind,b3,by omega⟩,λd k=>?_⟩
  rw [pE,NI (e1:=kP s020 (.int 3 a) e0) (e2:=kP s007 (.int 3 a) (kP s020 (.int 3 a) e0)) gy (λf=>by simp only [go_sem]) (λkn kx=>by rw [JI.1];simp only [go_sem,Mp]) gy hw gn (λkn kx x hk=>by
   rw [JI.2,hA1]
   simp only [go_sem,↓dF,Mq,h3,h6,q0,q1,↓hsn,e1,e3]
   simp only [go_sem,he]
   exact hk _) b1 w1 (by omega),hA3]
 .obtain ⟨A2,hA2,a2,b2,n2⟩:=Heap.aU w1 (.cells [.int 3 a])
  obtain ⟨v',A3,z3,ow3,a3,k3,m3,off3⟩:=Own.app (w:=w) (x:=.slice A1.n 0 1 2 0) (a1.trans a2) (ow1.fresh a2) (λ{id f}=>kh b2 rfl) rfl (by simp [V.one]) (by omega)
  have w3:=a3.wf
  have k1:=λj hj ho=>(k3 j (by omega) ho).trans (a2.same j hj)
  obtain ⟨A4,hA4,a4,b4,n4,w4,r4⟩:=Heap.bd (b:=B) a3 (by omega) (by omega) (.cells [v'])
  obtain ⟨A5,hA5,a5,b5,n5,w5,r5⟩:=Heap.bd (b:=B+3) a4 (by omega) (by omega) (.loop 0 0 e0 [s020] eh.1 eh.2)
  have hf1:=off3 (B) (by omega) o1
  have hf4:=off3 (B+3) (by omega) o4
  have ow5:Own H A5 v' 1 (xs ++ [a]).length ((xs ++ [a]).map (V.int 3)):=by
   rw [YC,WE,<- hA5,<- hA4]
   exact (ow3.nJ w3 (by omega) hf1).nJ (by grind) (by grind) hf4
  refine YG ⟨he,A5,⟨a5,hB,?_,⟨v',(r5 _ (by omega)).trans b4,ow5,off3 _ (by omega) o0,hf1,off3 _ (by omega) o2,hf4⟩,?_,b5,by omega⟩,λd k=>?_⟩
  .grind
  .grind
  have q3:=(a2.same _ (by omega)).trans q1
  have q4:=(k1 _ (by omega) o1).trans q1
  have hi:=λ{id} {k}=>aI ow3.one (id:=id) (k:=k)
  have u1:B<A3.n:=by omega
  rw [pE,qK (e1:=kP s020 (.int 3 a) e0) (e2:=kP s007 (.int 3 a) (kP s020 (.int 3 a) e0)) gy (λf=>by simp only [go_sem]) (λkn kx=>by rw [JI.1];simp only [go_sem,Mp]) gy hw gn (λkn kx x hk=>by
   rw [JI.2,hA1]
   simp only [go_sem,Mq,h3,h6,q0,q1,↓hsn,e1,e3,he,w1,hA2,↓z3,q4,↓hi,w3,u1,hA4]
   exact hk _) ((r4 _ (by omega)).trans ((k1 _ (by omega) o4).trans b1)) w4 (by omega),hA5]
theorem Ur (T:aG t) {v:V} {cs:List Nat} {n:Nat} (hw:H.wf) (hI:dh H O v cs) (hl:cs.length<100000) (hfu:1000000<fuel) (hn:n<1000000):
 ∃ H' v',(∀ (d:Nat) (k:K),aj (aQ (aO Tryz.prog) t fuel (d+4)) (.func 220 []) [v,.int 3 n] H k=k (.cV [v',.int 3 (if (dw cs).length<n then 7 else 0)]) H')/\ae H H'/\(¬ (dw cs).length<n->Own H H' v' 1 n (((dw cs).take n).map (V.int 3))):=by
 have hnn:nn n:=by unfold nn;omega
 have hfl:=Di cs
 have Jl:nn (dw cs).length:=by unfold nn;omega
 obtain ⟨G1,hG1,f1,p1,n1⟩:=Heap.aU hw (.cells [.int 3 n])
 obtain ⟨G2m,z2,f2m⟩:=GJ (H:=G1.mark) T (by rw [Heap.dV];exact f1.wf) ((hI.fresh f1).fresh ⟨by rw [Heap.dV];exact f1.wf,YA _,λ_ _=>rfl,λlo h1 h2=>h2⟩) (by omega) hfu
 obtain ⟨f2,hlo⟩:=f2m.dY
 generalize hG2:G2m.dY G1.bj=G2 at f2
 have z2':=λ{d} {k}=>z2 d k
 have w1:=f1.wf
 by_cases hs:(dw cs).length<n
 .refine ⟨G2,.aB,λd k=>?_,f1.trans f2,λh=>absurd hs h⟩
  rw [if_pos hs,aR T.Tq rfl rfl]
  simp only [go_sem,ZE,Sg,hw,hG1,p1,hnn,WY,z2',hlo,hG2,Jl,hs]
 have q2:=(f2.same _ (by omega)).trans p1
 have n2:=f2.n
 have w2:=f2.wf
 generalize hB:G2.n=B at n2
 have hHB:H.n<B:=by omega
 obtain ⟨G3,hG3,f3,p3,n3⟩:=Heap.gO hB w2 (.cells [.aB])
 obtain ⟨G4,hG4,f4,p4,n4⟩:=Heap.gO n3 f3.wf (.cells [v])
 have f04:=f1.trans (f2.trans (f3.trans f4))
 have q4:G4.get H.n = .cells [.int 3 n]:=by rw [f4.same _ (by omega),f3.same _ (by omega)];exact q2
 have u1:=by omega
 have w3:=f3.wf
 have z5:=λ{d} {k}=>yJ (cp:=aO Tryz.prog) (fuel:=fuel) T w3 hI.one hI.form d k
 have off:∀ j,jM .aB j:=λj b o n c s e=>by cases e
 have start:∀ (e0) (xs),xs=[]->TI H v n B (.loop 0 0 e0 [s020] eh.1 eh.2) xs ((G4.new .mark).new (.loop 0 0 e0 [s020] eh.1 eh.2)):=λe0 xs hx=>by
  subst hx
  obtain ⟨G5,hG5,f5,p5,n5⟩:=Heap.gO n4 f4.wf .mark
  obtain ⟨G6,hG6,f6,p6,n6⟩:=Heap.gO n5 f5.wf (.loop 0 0 e0 [s020] eh.1 eh.2)
  rw [hG5,hG6]
  refine ⟨f04.trans (f5.trans f6),hHB,?_,⟨.aB,?_,Own.nil,off _,off _,off _,off _⟩,?_,p6,by omega⟩
  .rw [f6.same _ (by omega),f5.same _ (by omega)];exact q4
  .rw [f6.same _ (by omega),f5.same _ (by omega),f4.same _ (by omega)];exact p3
  .rw [f6.same _ (by omega),f5.same _ (by omega)];exact p4
 have fin:∀ (st j) (xs) (F:Env->Heap) (e0),TI H v n B (.loop st j e0 [s020] eh.1 eh.2) xs (F e0)->∃ w,(F e0).get B = .cells [w]/\w.one=true/\ae H ((F e0).put (B+3) (.loop 3 j e0 [s020] eh.1 eh.2))/\Own H ((F e0).put (B+3) (.loop 3 j e0 [s020] eh.1 eh.2)) w 1 xs.length (xs.map (V.int 3)):=λst j xs F e0 ⟨f,hB,g0,⟨w,g1,ow,o0,o1,o2,o4⟩,g2,gy,gn⟩=>
  ⟨w,g1,ow.one,f.put (by omega) gn,ow.nJ f.wf gn o4⟩
 by_cases hx:(dw cs).length=n
 .have key:∀ e0,(aa s003 e0 = .ptr H.n 0/\aa s006 e0 = .ptr B 0)->∃ G',TI H v n B (.loop 0 0 e0 [s020] eh.1 eh.2) (dw cs) G'/\∀ (d) (k),aj (aQ (aO Tryz.prog) t fuel (d+3)) (.func 332 [.ptr (B+1) 0]) [.sK (B+3)] ((G4.new .mark).new (.loop 0 0 e0 [s020] eh.1 eh.2)) k=k (.cV []) G':=λe0 ⟨h3,h6⟩=>by
   obtain ⟨G',hG',z⟩:=AY (c:=2) (Z:=λ_ _=>False) T hI (by omega) hfu (λxs G I=>⟨I.f,I.g2⟩) (λxs a G hp I=>by
    have h1:=hp.length_le
    rw [YC,YF,YM]at h1
    rcases xF h3 h6 (by omega) hnn I with ⟨_,G1,i1,z1⟩|⟨h2,_⟩
    .exact YG ⟨G1,i1,λd k=>z1 (d+1) k⟩
    .omega) (start e0 [] rfl)
   grind
  obtain ⟨F,hF⟩:=uO H key
  obtain ⟨e0,z,s0⟩:∃ e0:Env,(∀ (d) (k) (w),(F e0).get B = .cells [w]->aj (aQ (aO Tryz.prog) t fuel (d+4)) (.func 220 []) [v,.int 3 n] H k=k (.cV [w,.int 3 0]) ((F e0).put (B+3) (.loop 3 0 e0 [s020] eh.1 eh.2)))/\aa s003 e0 = .ptr H.n 0/\aa s006 e0 = .ptr B 0:=by
   apply Exists.intro
   refine ⟨λd k w g1=>?_,?_⟩
   .rw [aR T.Tq rfl rfl]
    simp only [go_sem,ZE,Sg,↓uK,hw,hG1,p1,hnn,WY,z2',hlo,hG2,Jl,hs,hB,w2,hG3,z5,n3,hG4]
    refine L1 f4.wf (by omega) rfl (λe he=>⟨(hF e he).1.gy,(hF e he).1.f.wf,(hF e he).1.n,(hF e he).2⟩) ⟨by simp only [go_sem],by simp only [go_sem]⟩ rfl d λe' he hs=>?_
    have gn:=(hF e' hs).1.n
    have gw:=(hF e' hs).1.f.wf
    have u1:¬ B=B+3:=by omega
    subst he
    simp only [go_sem,hs.2,gw,gn,u1]
    rw [g1]
    simp only [go_sem]
   .exact ⟨by simp only [go_sem],by simp only [go_sem]⟩
  obtain ⟨w,h1,h2,h3,h4⟩:=fin _ 0 _ F e0 (hF e0 s0).1
  grind
 .have key:∀ e0,(aa s003 e0 = .ptr H.n 0/\aa s006 e0 = .ptr B 0)->∃ G',∃ xs,TI H v n B (.loop 2 2 e0 [s020] eh.1 eh.2) xs G'/\xs=(dw cs).take n/\∀ (d) (k),aj (aQ (aO Tryz.prog) t fuel (d+3)) (.func 332 [.ptr (B+1) 0]) [.sK (B+3)] ((G4.new .mark).new (.loop 0 0 e0 [s020] eh.1 eh.2)) k=k (.cV []) G':=λe0 ⟨h3,h6⟩=>by
   obtain ⟨G',hG',z⟩:=AY (c:=2) (P:=λxs G=>TI H v n B (.loop 0 0 e0 [s020] eh.1 eh.2) xs G/\xs.length<=n) (Z:=λxs G=>TI H v n B (.loop 2 2 e0 [s020] eh.1 eh.2) xs G/\xs.length=n) T hI (by omega) hfu (λxs G I=>⟨I.1.f,I.1.g2⟩) (λxs a G hp I=>by
    rcases xF h3 h6 (by omega) hnn I.1 with ⟨h2,G1,i1,z1⟩|⟨h2,G1,i1,z1⟩
    .exact YG ⟨G1,⟨i1,by grind⟩,λd k=>z1 (d+1) k⟩
    grind) ⟨start e0 [] rfl,Yd _⟩
   rcases hG' with hG'|⟨xs,a,hp,hz⟩
   .omega
   .refine ⟨G',xs,hz.1,?_,z⟩
    have:=(List.prefix_append xs [a]).trans hp
    rw [List.prefix_iff_eq_take.1 this,hz.2]
  obtain ⟨F,hF⟩:=uO H key
  obtain ⟨e0,z,s0⟩:∃ e0:Env,(∀ (d) (k) (w),(F e0).get B = .cells [w]->aj (aQ (aO Tryz.prog) t fuel (d+4)) (.func 220 []) [v,.int 3 n] H k=k (.cV [w,.int 3 0]) ((F e0).put (B+3) (.loop 3 2 e0 [s020] eh.1 eh.2)))/\aa s003 e0 = .ptr H.n 0/\aa s006 e0 = .ptr B 0:=by
   apply Exists.intro
   refine ⟨λd k w g1=>?_,?_⟩
   .rw [aR T.Tq rfl rfl]
    simp only [go_sem,ZE,Sg,↓uK,hw,hG1,p1,hnn,WY,z2',hlo,hG2,Jl,hs,hB,w2,hG3,z5,n3,hG4]
    refine VN f4.wf (by omega) rfl (λe he=>⟨(hF e he).choose_spec.1.gy,(hF e he).choose_spec.1.f.wf,(hF e he).choose_spec.1.n,(hF e he).choose_spec.2.2⟩) ⟨by simp only [go_sem],by simp only [go_sem]⟩ rfl d λe' he hs=>?_
    have gn:=(hF e' hs).choose_spec.1.n
    have gw:=(hF e' hs).choose_spec.1.f.wf
    have u1:¬ B=B+3:=by omega
    subst he
    simp only [go_sem,hs.2,gw,gn,u1]
    rw [g1]
    simp only [go_sem]
   .exact ⟨by simp only [go_sem],by simp only [go_sem]⟩
  obtain ⟨xs,i1,i2,-⟩:=hF e0 s0
  obtain ⟨w,h1,h2,h3,h4⟩:=fin _ 2 _ F e0 i1
  grind
end
end Go.Ev
end
section
namespace Go.Ev
theorem Jx (p) (l):nz (p :: l)=if p=0 then nz l else p :: nz l:=by
 unfold nz
 rw [List.filter_cons]
 simp
theorem wI {n}:∀ {l seen} {tw},(tm n l seen tw=some false)↔(tw=false/\(∀ p ∈ l,p=0\/193<=p/\p<n)/\(nz l).Nodup/\∀ p ∈ nz l,p ∉ seen)
 | [],seen,tw=>by simp [tm,nz]
 | p :: l,seen,tw=>by
  rw [tm,Jx]
  by_cases p0:p=0
  .rw [if_pos p0,wI,if_pos p0]
   simp_all
  .rw [if_neg p0,if_neg p0]
   by_cases p1:p<193\/n<=p
   .rw [if_pos p1]
    constructor
    .simp
    .rintro ⟨a,b,c,d⟩
     have:=b p (YJ ..)
     omega
   .rw [if_neg p1,wI]
    constructor
    .rintro ⟨a,b,c,d⟩
     have ht:=by simpa using a
     rw [if_neg ht.2]at d
     refine ⟨ht.1,λq hq=>(YP.1 hq).elim (λe=>YD (by omega)) (b q),?_,?_⟩
     .rw [Wg]
      exact ⟨λh=>d p h (by simp),c⟩
     simp_all
    .rintro ⟨a,b,c,d⟩
     rw [Wg]at c
     refine ⟨by simp_all,λq hq=>b q (YI _ hq),c.2,λq hq=>?_⟩
     intro h
     simp_all
structure iO (l:List Nat) (b n:Nat):Prop where
 lo:1<=b
 hi:b<=8
 len:l.length=b
 pl:∀ p ∈ l,p=0\/193<=p/\p<n
 nd:(nz l).Nodup
theorem lZ {l} {b n}:oz l b n=0↔iO l b n:=by
 unfold oz
 by_cases h:b<1\/8<b\/l.length≠b
 .rw [if_pos h]
  constructor
  .simp
  .rintro ⟨h1,h2,h3,_,_⟩;omega
 .rw [if_neg h]
  have hi:=wI (n:=n) (l:=l) (seen:=[]) (tw:=false)
  constructor
  .intro h'
   have:tm n l [] false=some false:=by
    cases hr:tm n l [] false with
    | none=>simp_all
    | some tw=>simp_all
   obtain ⟨_,h1,h2,_⟩:=hi.1 this
   exact ⟨by omega,by omega,by omega,h1,h2⟩
  .rintro ⟨_,_,_,h1,h2⟩
   simp_all
def gY (b n:Nat):Gd->List Sn->Prop
 | _,[]=>True
 | last,s :: ss=>Du s.g last/\iO s.cD b n/\gY b n s.g ss
def yS:Gd->List Sn->Gd
 | last,[]=>last
 | _,s :: ss=>yS s.g ss
theorem BS {b n}:∀ {ss} {last},(yj b n last ss).1=0↔gY b n last ss
 | [],last=>by simp [yj,gY]
 | s :: ss,last=>by
  rw [yj,gY]
  by_cases h1:Du s.g last
  .rw [if_pos h1]
   by_cases h2:oz s.cD b n=0
   .rw [if_pos h2,BS]
    exact ⟨λh=>⟨h1,lZ.1 h2,h⟩,λh=>h.2.2⟩
   .rw [if_neg h2]
    exact ⟨λh=>absurd h h2,λh=>absurd (lZ.2 h.2.1) h2⟩
  simp_all
theorem EU {b n}:∀ {ss} {last},gY b n last ss->(yj b n last ss).2=yS last ss
 | [],last,_=>rfl
 | s :: ss,last,h=>by
  rw [yj,if_pos h.1,if_pos (lZ.2 h.2.1),EU h.2.2]
  rfl
def sN (t:Tk) (last:Gd) (b n:Nat):Prop:=if t.t=(0,0) then t.b=(0,0)/\t.next=0/\t.all=0/\t.cD=[] else t.b=last/\Du t.t last/\1<=t.next/\t.next<t.all/\t.all<=b/\iO t.cD b n
theorem PO {t} {last} {b n}:kS t last b n=0↔sN t last b n:=by
 unfold kS sN
 by_cases h:t.t=(0,0)
 .simp_all
 .rw [if_neg h,if_neg h]
  by_cases h2:t.b=last/\Du t.t last/\1<=t.next/\t.next<t.all/\t.all<=b
  .rw [if_pos h2,lZ]
   simp_all
  .rw [if_neg h2]
   exact ⟨λh=>(by omega),λg=>absurd ⟨g.1,g.2.1,g.2.2.1,g.2.2.2.1,g.2.2.2.2.1⟩ h2⟩
structure gk (m:MT) (b n:Nat):Prop where
 live:iO m.live b n
 num:m.ah.length<=20
 ah:gY b n (0,0) m.ah
 tok:sN m.tok (yS (0,0) m.ah) b n
theorem Jt {m} {b n}:KK m b n=0↔gk m b n:=by
 unfold KK
 by_cases h1:oz m.live b n=0
 .rw [if_pos h1]
  by_cases h2:20<m.ah.length
  .rw [if_pos h2]
   exact ⟨λh=>(by omega),λh=>absurd h.num (by omega)⟩
  .rw [if_neg h2]
   by_cases h3:(yj b n (0,0) m.ah).1=0
   .have h4:=BS.1 h3
    rw [if_pos h3,EU h4,PO]
    exact ⟨λh=>⟨lZ.1 h1,by omega,h4,h⟩,λh=>h.tok⟩
   .rw [if_neg h3]
    exact ⟨λh=>absurd h h3,λh=>absurd (BS.2 h.ah) h3⟩
 .rw [if_neg h1]
  exact ⟨λh=>absurd h h1,λh=>absurd (lZ.2 h.live) h1⟩
theorem gY.mem {b n:Nat}:∀ {ss:List Sn} {last:Gd} {s:Sn},gY b n last ss->s ∈ ss->iO s.cD b n
 | a :: ss,last,s,h,hs=>by
  rcases YP.1 hs with rfl|hs
  .exact h.2.1
  .exact gY.mem h.2.2 hs
theorem gk.lg {m:MT} {b n:Nat} (h:gk m b n) (hn:n<=1024) (hs:∀ s ∈ m.ah,jm s.g) (hb:jm m.tok.b) (ht:jm m.tok.t):lg m:=by
 have im:∀ {l:List Nat},iO l b n->Jy l:=λ{l} g=>⟨by have:=g.len;have:=g.hi;omega,λp hp=>by have:=g.pl p hp;unfold nn;omega⟩
 obtain ⟨h1,h2,h3,h4⟩:=h
 refine ⟨im h1,by omega,λs hm=>⟨hs s hm,im (h3.mem hm)⟩,hb,ht,?_⟩
 unfold sN at h4
 split at h4
 .obtain ⟨_,a,b,c⟩:=h4
  exact ⟨by rw [a];unfold nn;omega,by rw [b];unfold nn;omega,by rw [c];exact ⟨by simp,λp hp=>by cases hp⟩⟩
 .obtain ⟨_,_,a1,a2,a3,a4⟩:=h4
  have:=h1.hi
  exact ⟨by unfold nn;omega,by unfold nn;omega,im a4⟩
theorem Ef (k):∀ {l},(∀ p ∈ l,p<256 ^ k)->(nums l).length<=l.length*(k+1)
 | [],_=>Yd _
 | n :: l,h=>by
  have h1:=iW k n (h n (YJ ..))
  have h2:=Ef k λp hp=>h p (YI _ hp)
  have e:nums (n :: l)=bu n ++ nums l:=rfl
  rw [e,YC,YF,Wn,YA2]
  omega
theorem iO.nums {l:List Nat} {b n:Nat} (h:iO l b n) (hn:n<=1024):(nums l).length<=24:=by
 have:=Ef 2 (l:=l) λp hp=>by have:=h.pl p hp;omega
 have:=h.len
 have:=h.hi
 omega
theorem zI {b n} (hn:n<=1024):∀ {ss} {last},gY b n last ss->(nums (ss.flatMap uy)).length<=ss.length*44
 | [],_,_=>Yd _
 | s :: ss,last,h=>by
  have h1:=zI hn h.2.2
  have h2:=h.2.1.nums hn
  have h3:=bF s.g.1
  have h4:=bF s.g.2
  have h5:=iW 1 (if s.hid=true then 1 else 0) (by split<;>omega)
  have e:nums ((s :: ss).flatMap uy)=bu s.g.1 ++ (bu s.g.2 ++ (bu (if s.hid=true then 1 else 0) ++ (Go.Ev.nums s.cD ++ nums (ss.flatMap uy)))):=by
   rw [WZ,lf]
   simp only [uy,Go.Ev.nums,WZ,WG]
  rw [e]
  simp only [YC,YF]
  omega
theorem gk.text {m:MT} {b n:Nat} (h:gk m b n) (hn:n<=1024):(nums (nw m)).length<=1010:=by
 obtain ⟨h1,h2,h3,h4⟩:=h
 have a1:=h1.nums hn
 have a2:=zI hn h3
 have a3:=bF m.live.length
 have a4:=bF m.ah.length
 have a5:(Go.Ev.nums (Lu m.tok)).length<=80:=by
  unfold sN at h4
  unfold Lu
  by_cases ht:m.tok.t=(0,0)
  .rw [if_pos ht]
   have:=nums_length [0]
   simp only [YF,YM]at this
   omega
  .rw [if_neg ht]at h4 ⊢
   obtain ⟨_,_,c1,c2,c3,c4⟩:=h4
   have d1:=c4.nums hn
   have d2:=iW 1 1 (by omega)
   have d3:=bF m.tok.b.1
   have d4:=bF m.tok.b.2
   have d5:=bF m.tok.t.1
   have d6:=bF m.tok.t.2
   have d7:=iW 1 m.tok.next (by have:=h1.hi;omega)
   have d8:=iW 1 m.tok.all (by have:=h1.hi;omega)
   have e:Go.Ev.nums (1 :: m.tok.b.1 :: m.tok.b.2 :: m.tok.t.1 :: m.tok.t.2 :: m.tok.next :: m.tok.all :: m.tok.cD)=bu 1 ++ (bu m.tok.b.1 ++ (bu m.tok.b.2 ++ (bu m.tok.t.1 ++ (bu m.tok.t.2 ++ (bu m.tok.next ++ (bu m.tok.all ++ Go.Ev.nums m.tok.cD)))))):=rfl
   rw [e]
   simp only [YC]
   omega
 have e:Go.Ev.nums (nw m)=bu m.live.length ++ (Go.Ev.nums m.live ++ (bu m.ah.length ++ (Go.Ev.nums (m.ah.flatMap uy) ++ Go.Ev.nums (Lu m.tok)))):=by
  simp only [nw,Go.Ev.nums,WZ,Wy]
 rw [e]
 simp only [YC]
 omega
theorem gk.enc {m:MT} (h:gk m m.live.length 1024):oO m=(nums (nw m),0):=by
 unfold oO
 have:=h.text (YA _)
 rw [if_pos (Jt.2 h),if_neg (by omega)]
theorem gk.mono {m:MT} {b n n':Nat} (h:gk m b n) (hn:n<=n'):gk m b n':=by
 have im:∀ {l:List Nat},iO l b n->iO l b n':=λ{l} g=>⟨g.lo,g.hi,g.len,λp hp=>(g.pl p hp).imp id λq=>by omega,g.nd⟩
 have sn:∀ {ss:List Sn} {last:Gd},gY b n last ss->gY b n' last ss:=λ{ss}=>by
  induction ss with
  | nil=>intro _ _;trivial
  | cons s ss ih=>intro last h;exact ⟨h.1,im h.2.1,ih h.2.2⟩
 refine ⟨im h.live,h.num,sn h.ah,?_⟩
 have h4:=h.tok
 unfold sN at h4 ⊢
 split at h4
 .rename_i ht;rw [if_pos ht];exact h4
 .rename_i ht;rw [if_neg ht];exact ⟨h4.1,h4.2.1,h4.2.2.1,h4.2.2.2.1,h4.2.2.2.2.1,im h4.2.2.2.2.2⟩
end Go.Ev
end
section
namespace Go.Ev
section
variable {cp:RC->ai} {t:Nat->Option cF} {fuel:Nat} {H:Heap}
theorem gY.all {b n:Nat}:∀ {ss:List Sn} {last:Gd},gY b n last ss->∀ s ∈ ss,iO s.cD b n
 | _,_,h,s,hs=>h.mem hs
theorem zQ {v} (h:v.one=true) {id} {f}:dN id v f=f [v]:=by
 revert h;cases v<;>intro h<;>first|rfl|cases h
theorem vh {k} {e} {H} {s s'} {n}:tI [.lP s n,.tmp s'] k e H=ei 0 (aa s e) λb o=>eC 0 H b o n λl=>k (.cV [.agg l,aa s' e]) H:=by
 show jz s e (λv=>ei 0 v λb o=>eC 0 H b o n λl=>jz s' e λv'=>k (.cV [.agg l,v']) H)=_
 simp only [eg]
theorem xP.step {H G G':Heap} {A B:Nat->Prop} {v:V} {ss:List Sn} {xs:List V} (h:xP H G v ss xs) (s:Step G A G' B) (hA:∀ j,H.n<=j->j<G.n->¬ A j):xP H G' v ss xs:=
 ⟨h.1.step s hA,h.2.1,λi s' hs=>let ⟨x,h1,h2,h3⟩:=h.2.2 i s' hs; ⟨x,h1,h2.step s hA,h3⟩⟩
theorem dh.fM {H G:Heap} {O:Nat->Prop} {v:V} {l:List Nat} (h:Own H G v 1 l.length (l.map (V.int 3))) (hO:∀ b,O b->b<H.n):dh G O v l:=h.toRow hO
set_option maxRecDepth 4000 in
theorem CY (T:aG t) {m:MT} (hw:H.wf) (Y:gk m m.live.length 1024) (Z:lg m) (hfu:1000<fuel):
 ∃ H' vl vs vi,(∀ (d:Nat) (k:K),aj (aQ cp t fuel (d+8)) (.func 88 []) [tv (nums (nw m))] H k=k (.cV [.agg (aS m vl vs vi),.int 3 0]) H')/\ae H H'/\∀ O:Nat->Prop,(∀ b,O b->b<H.n)->gj H' O m vl vs vi:=by
 have htx:=Y.text (YA _)
 have Y2:=Y
 obtain ⟨yl,yn,ys,yt⟩:=Y
 have hll:=yl.hi
 have hl0:=yl.lo
 have il:∀ p ∈ m.live,p<=1024:=λp hp=>by have:=yl.pl p hp;omega
 have is:∀ s ∈ m.ah,s.cD.length=m.live.length/\jm s.g/\∀ p ∈ s.cD,p<=1024:=λs hs=>by
  have h:=ys.all s hs
  exact ⟨h.len,(Z.ah s hs).1,λp hp=>by have:=h.pl p hp;omega⟩
 obtain ⟨G1,hG1,f1,p1,n1⟩:=Heap.aU hw (.cells [.aB,.aB,.int 7 0,.int 7 0,.int 7 0,.int 7 0,.int 3 0,.int 3 0,.aB])
 have w1:=f1.wf
 have zr:=λ{d:Nat} {k:K}=>kj (cp:=cp) (fuel:=fuel) (H:=G1) (l:=nums (nw m)) (d:=d) (k:=k) T w1 (by omega)
 generalize hA:nums (nw m)=A at htx zr
 obtain ⟨G2,hG2,f2,p2,n2⟩:=Heap.gO (m:=H.n+1) (by omega) w1 (.bytes A.length (enc A))
 obtain ⟨G3,hG3,f3,p3,n3⟩:=Heap.gO (m:=H.n+2) (by omega) f2.wf (bJ (H.n+1) A 0)
 rw [n1,hG2,hG3,show H.n+1+1=H.n+2 by omega]at zr
 obtain ⟨G4,hG4,f4,p4,n4⟩:=Heap.gO (m:=H.n+3) (by omega) f3.wf (.cells [.jk])
 obtain ⟨G5,hG5,f5,p5,n5,w5,-⟩:=Heap.bd (b:=H.n+3) f4 (by omega) (by omega) (.cells [.ptr (H.n+2) 0])
 obtain ⟨G6,hG6,f6,p6,n6⟩:=Heap.gO (m:=H.n+4) (by omega) w5 (.cells [.tz])
 obtain ⟨G7,hG7,f7,p7,n7,w7,-⟩:=Heap.bd (b:=H.n+4) f6 (by omega) (by omega) (.cells [.func 190 [.ptr (H.n+3) 0]])
 obtain ⟨G8,hG8,f8,p8,n8⟩:=Heap.gO (m:=H.n+5) (by omega) w7 (.cells [.tz])
 obtain ⟨G9,hG9,f9,p9,n9,w9,-⟩:=Heap.bd (b:=H.n+5) f8 (by omega) (by omega) (.cells [.func 194 [.ptr (H.n+3) 0]])
 have hdrop:A.drop 0=bu m.live.length ++ nums (m.live ++ (m.ah.length :: (m.ah.flatMap uy ++ Lu m.tok))):=by rw [<- hA];rfl
 have g9r:G9.get (H.n+2)=bJ (H.n+1) A 0:=by rw [f9.same _ (by omega),f7.same _ (by omega),f5.same _ (by omega)];exact p3
 have g9b:G9.get (H.n+1) = .bytes A.length (enc A):=by rw [f9.same _ (by omega),f7.same _ (by omega),f5.same _ (by omega),f3.same _ (by omega)];exact p2
 have zn:=λ{d:Nat} {k:K}=>ko (cp:=cp) (fuel:=fuel) (d:=d) (k:=k) T w9 g9r (by omega) g9b (by omega) (by omega) (by omega) hdrop (by omega)
 obtain ⟨Ga,hGa,fa,pa,na,wa,oa⟩:=Heap.bd (b:=H.n+2) (H0:=G1) ((f2.trans f3).trans (f5.trans (f7.trans f9))) (by omega) (by omega) (bJ (H.n+1) A (0+(bu m.live.length).length))
 rw [hGa]at zn
 obtain ⟨Gb,hGb,fb,pb,nb⟩:=Heap.gO (m:=H.n+6) (by omega) wa (.cells [.int 7 0])
 obtain ⟨Gc,hGc,fc,pc,nc,wc,-⟩:=Heap.bd (b:=H.n+6) fb (by omega) (by omega) (.cells [.int 7 m.live.length])
 obtain ⟨Gd,hGd,fd,pd,nd⟩:=Heap.gO (m:=H.n+7) (by omega) wc (.cells [.tz])
 obtain ⟨E0,hE0,f0,p0,n0,w0,-⟩:=Heap.bd (b:=H.n+7) fd (by omega) (by omega) (.cells [.func 196 [.ptr (H.n+6) 0,.ptr (H.n+4) 0]])
 have fae:ae Ga E0:=fc.trans f0
 have ga:∀ j,j<Ga.n->E0.get j=Ga.get j:=fae.same
 have R0:RI A (H.n+1) (H.n+2) m.live.length G1 E0 (m.live ++ (m.ah.length :: (m.ah.flatMap uy ++ Lu m.tok))):=by
  refine ⟨fa.trans fae,⟨_,(ga _ (by omega)).trans pa,jE hdrop⟩,?_,?_,?_,?_,?_,?_,by omega,by omega,by omega,by omega⟩
  .rw [ga _ (by omega),oa _ (by omega)];exact g9b
  .rw [ga _ (by omega),oa _ (by omega),f9.same _ (by omega),f7.same _ (by omega)];exact p5
  .rw [ga _ (by omega),oa _ (by omega),f9.same _ (by omega)];exact p7
  .rw [ga _ (by omega),oa _ (by omega)];exact p9
  .rw [f0.same _ (by omega)];exact pc
  .exact p0
 obtain ⟨E1,vl,R1,s1,o1,z1⟩:=mK (cp:=cp) (fuel:=fuel) T R0 rfl hll il hfu
 have m1:=s1.n
 obtain ⟨E2,hE2,e2,y2,n2'⟩:=Heap.aU R1.f.wf (.cells [.aB,.aB,.int 7 0,.int 7 0,.int 7 0,.int 7 0,.int 3 0,.int 3 0,.aB])
 generalize hY:E1.n=Y at y2 n2'
 have R2:=R1.fresh e2
 have w2:=R2.f.wf
 have R3:=R2.put (j:=Y) (y:=.cells [vl,.aB,.int 7 0,.int 7 0,.int 7 0,.int 7 0,.int 3 0,.int 3 0,.aB]) (by omega) (by omega)
 have t3:=Step.eO (r:=Y) (x:=.cells [vl,.aB,.int 7 0,.int 7 0,.int 7 0,.int 7 0,.int 3 0,.int 3 0,.aB]) w2 (by omega)
 have y3:(E2.put Y (.cells [vl,.aB,.int 7 0,.int 7 0,.int 7 0,.int 7 0,.int 3 0,.int 3 0,.aB])).get Y = .cells [vl,.aB,.int 7 0,.int 7 0,.int 7 0,.int 7 0,.int 3 0,.int 3 0,.aB]:=by rw [Heap.aF w2 (by omega),if_pos rfl]
 have k3:(E2.put Y (.cells [vl,.aB,.int 7 0,.int 7 0,.int 7 0,.int 7 0,.int 3 0,.int 3 0,.aB])).n=E2.n:=Heap.aT
 generalize hE3:E2.put Y (.cells [vl,.aB,.int 7 0,.int 7 0,.int 7 0,.int 7 0,.int 3 0,.int 3 0,.aB])=E3 at R3 t3 y3 k3
 obtain ⟨E4,R4,s4,z4⟩:=R3.num (cp:=cp) (fuel:=fuel) T (by omega) (by omega)
 have m4:=s4.n
 have y4:=(s4.same Y (by omega) (by omega)).1.trans y3
 obtain ⟨E5,vs,xs,R5,s5,O5,z5⟩:=CZ (cp:=cp) (fuel:=fuel) T R4 yn is hll hfu
 have m5:=s5.n
 have y5:=(s5.same Y (by omega) (by omega)).1.trans y4
 have w5':=R5.f.wf
 have R6:=R5.put (j:=Y) (y:=.cells [vl,vs,.int 7 0,.int 7 0,.int 7 0,.int 7 0,.int 3 0,.int 3 0,.aB]) (by omega) (by omega)
 have t6:=Step.eO (r:=Y) (x:=.cells [vl,vs,.int 7 0,.int 7 0,.int 7 0,.int 7 0,.int 3 0,.int 3 0,.aB]) w5' (by omega)
 have y6:(E5.put Y (.cells [vl,vs,.int 7 0,.int 7 0,.int 7 0,.int 7 0,.int 3 0,.int 3 0,.aB])).get Y = .cells [vl,vs,.int 7 0,.int 7 0,.int 7 0,.int 7 0,.int 3 0,.int 3 0,.aB]:=by rw [Heap.aF w5' (by omega),if_pos rfl]
 have k6:(E5.put Y (.cells [vl,vs,.int 7 0,.int 7 0,.int 7 0,.int 7 0,.int 3 0,.int 3 0,.aB])).n=E5.n:=Heap.aT
 generalize hE6:E5.put Y (.cells [vl,vs,.int 7 0,.int 7 0,.int 7 0,.int 7 0,.int 3 0,.int 3 0,.aB])=E6 at R6 t6 y6 k6
 have O6:=O5.step t6 λj hj _=>by omega
 have l6:Own E0 E6 vl 1 m.live.length (m.live.map (V.int 3)):=by
  have a2:=o1.fresh e2
  have a3:Own E0 E3 vl 1 m.live.length (m.live.map (V.int 3)):=by rw [<- hE3];exact a2.nJ w2 (by omega) (o1.Br (by omega))
  have a4:=a3.step s4 λj hj _=>by omega
  have a5:=a4.step s5 λj hj _=>by omega
  rw [<- hE6];exact a5.nJ w5' (by omega) (o1.Br (by omega))
 have ix:=λ{id:Nat} {k:R}=>aI o1.one (id:=id) (k:=k)
 have cx:=λ{id:Nat} {f:List V->R}=>zQ o1.one (id:=id) (f:=f)
 have iy:=λ{id:Nat} {k:R}=>aI O5.1.one (id:=id) (k:=k)
 have zenc:∀ (F0:Heap) (vi:V),ae H F0->F0.get Y = .cells (aS m vl vs vi)->Own E0 F0 vl 1 m.live.length (m.live.map (V.int 3))->xP E4 F0 vs m.ah xs->Own E0 F0 vi 1 m.tok.cD.length (m.tok.cD.map (V.int 3))->Y<F0.n->F0.get H.n = .cells [.aB,.aB,.int 7 0,.int 7 0,.int 7 0,.int 7 0,.int 3 0,.int 3 0,.aB]->
  ∃ F1 F2,(∀ {d:Nat} {k:K},aj (aQ cp t fuel (d+6)) (.func 204 []) [.agg (aS m vl vs vi)] F0 k=k (.cV [tv A,.int 3 0]) F1)/\F1.get Y = .cells (aS m vl vs vi)/\F1.wf/\H.n<F1.n/\F1.get H.n = .cells [.aB,.aB,.int 7 0,.int 7 0,.int 7 0,.int 7 0,.int 3 0,.int 3 0,.aB]/\F1.put H.n (.cells (aS m vl vs vi))=F2/\F2.get H.n = .cells (aS m vl vs vi)/\ae H F2/\∀ O:Nat->Prop,(∀ b,O b->b<H.n)->gj F2 O m vl vs vi:=λF0 vi ff gy ol os ov yn gx=>by
  obtain ⟨F1,z,f⟩:=tZ (cp:=cp) (fuel:=fuel) (O:=λ_=>False) T ff.wf ⟨dh.fM ol λ_ h=>h.elim,os.at_ λ_ h=>h.elim,dh.fM ov λ_ h=>h.elim⟩ Z hfu
  rw [Y2.enc,hA]at z
  have fn:=f.n
  have hx:H.n<F1.n:=by omega
  obtain ⟨F2,hF2,f2',q2,r2,w2',o2⟩:=Heap.bd (b:=H.n) (ff.trans f) (YA _) hx (.cells (aS m vl vs vi))
  refine ⟨F1,F2,λ{d k}=>z d k,(f.same _ yn).trans gy,f.wf,hx,(f.same _ (by omega)).trans gx,hF2,q2,f2',λO hO=>?_⟩
  have st:Step F1 (λb=>b=H.n) F2 (λb=>b=H.n):=by rw [<- hF2];exact Step.eO f.wf hx
  exact ⟨dh.fM ((ol.fresh f).step st λj hj _=>by omega) λb hb=>by have:=hO b hb;omega,((os.step f.step λj hj _ h=>h).step st λj hj _=>by omega).at_ λb hb=>by have:=hO b hb;omega,dh.fM ((ov.fresh f).step st λj hj _=>by omega) λb hb=>by have:=hO b hb;omega⟩
 have x0:∀ (F:Heap),ae G1 F->F.get H.n = .cells [.aB,.aB,.int 7 0,.int 7 0,.int 7 0,.int 7 0,.int 3 0,.int 3 0,.aB]:=λF f=>(f.same _ (by omega)).trans p1
 have n3':G3.n=H.n+3:=by omega
 have n5':G5.n=H.n+4:=by omega
 have n7':G7.n=H.n+5:=by omega
 have na':Ga.n=H.n+6:=by omega
 have nc':Gc.n=H.n+7:=by omega
 have u4:H.n+3<G4.n:=by omega
 have u6:H.n+4<G6.n:=by omega
 have u8:H.n+5<G8.n:=by omega
 have ub:H.n+6<Gb.n:=by omega
 have ud:H.n+7<Gd.n:=by omega
 have u2:Y<E2.n:=by omega
 have uy5:Y<E5.n:=by omega
 have w3:=f3.wf
 have w4:=f4.wf
 have w6:=f6.wf
 have w8:=f8.wf
 have wb':=fb.wf
 have wd':=fd.wf
 have w1':=R1.f.wf
 have g5R:G9.get (H.n+3) = .cells [.ptr (H.n+2) 0]:=by rw [f9.same _ (by omega),f7.same _ (by omega)];exact p5
 have gR3:=R3.gR
 have gN6:=R6.gN
 have z1:=λ{d:Nat} {k:K}=>z1 (d:=d) (k:=k)
 by_cases ht:m.tok.t=(0,0)
 .have hN:Lu m.tok=[0]:=by unfold Lu;rw [if_pos ht]
  rw [hN]at R6
  obtain ⟨E7,R7,s7,z7⟩:=jD (cp:=cp) (fuel:=fuel) T R6 (by omega) (by omega)
  unfold sN at yt
  rw [if_pos ht]at yt
  obtain ⟨t1,t2,t3',t4⟩:=yt
  have hT:aS m vl vs .aB=[vl,vs,.int 7 0,.int 7 0,.int 7 0,.int 7 0,.int 3 0,.int 3 0,.aB]:=by
   simp only [aS,cg,ht,t1,t2,t3']
  have y7:=(s7.same Y (by omega) (by omega)).1.trans y6
  have m7:=s7.n
  obtain ⟨F1,F2,ze,gy,fw,fx,gx,hF2,g2,ff,M⟩:=zenc E7 .aB (f1.trans R7.f) (by rw [hT];exact y7) (l6.step s7 λj hj _=>by omega) (O6.step s7 λj hj _=>by omega) (by rw [t4];exact Own.nil) (by omega) (x0 _ R7.f)
  rw [hT]at gy hF2 g2 ze
  refine ⟨F2,vl,vs,.aB,λd k=>?_,ff,M⟩
  have z7:=λ{d:Nat} {k:K}=>z7 (d:=d) (k:=k)
  rw [hT,aR T.k44 rfl rfl]
  simp only [go_sem,c44,Mv,hw,hG1,↓zr,n3',w3,hG4,p4,u4,w4,hG5]
  simp only [go_sem,Mw,w5,n5',hG6,p6,u6,w6,hG7]
  simp only [go_sem,Mx,w7,n7',hG8,p8,u8,w8,hG9]
  simp only [go_sem,My,g5R,↓zn,wa,na',hGb,pb,ub,wb',hGc]
  simp only [go_sem,Mz,wc,nc',hGd,pd,ud,wd',hE0]
  simp only [go_sem,MA,p0,↓z1,↓ix,↓cx,w1',hY,hE2,y2,u2,w2,hE3]
  simp only [go_sem,MB,gR3,↓z4,↓z5,↓iy,y5,uy5,w5',hE6]
  simp only [go_sem,MC,gN6,↓z7]
  simp only [go_sem,MD,y7,↓ze]
  simp only [go_sem,FR,tv]
  simp only [go_sem,FT,FU,gy,gx,fw,fx,hF2,↓vh,g2,↓ix,↓iy]
 .have hN:Lu m.tok=1 :: m.tok.b.1 :: m.tok.b.2 :: m.tok.t.1 :: m.tok.t.2 :: m.tok.next :: m.tok.all :: (m.tok.cD ++ []):=by unfold Lu;rw [if_neg ht,YV]
  rw [hN]at R6
  unfold sN at yt
  rw [if_neg ht]at yt
  obtain ⟨-,-,t1,t2,t3,t4⟩:=yt
  have it:∀ p ∈ m.tok.cD,p<=1024:=λp hp=>by have:=t4.pl p hp;omega
  obtain ⟨E7,R7,s7,z7⟩:=jD (cp:=cp) (fuel:=fuel) T R6 (by omega) (by omega)
  obtain ⟨E8,R8,s8,z8⟩:=qE (cp:=cp) (fuel:=fuel) T R7 Z.tok.1 (by omega)
  have s68:=s7.trans s8
  have m8:=s68.n
  have y8:=(s68.same Y (by omega) (by omega)).1.trans y6
  obtain ⟨E9,hE9,e9,p9',n9'⟩:=Heap.aU R8.f.wf (.cells [.int 7 0,.int 7 0,.int 7 0,.int 7 0,.int 3 0,.int 3 0,.aB])
  generalize hZ:E8.n=Zb at p9' n9'
  have R9:=R8.fresh e9
  have w9':=R9.f.wf
  have w8':=R8.f.wf
  have v9:Zb<E9.n:=by omega
  have R10:=R9.put (j:=Zb) (y:=.cells [.int 7 m.tok.b.1,.int 7 m.tok.b.2,.int 7 0,.int 7 0,.int 3 0,.int 3 0,.aB]) (by omega) v9
  have t10:=Step.eO (r:=Zb) (x:=.cells [.int 7 m.tok.b.1,.int 7 m.tok.b.2,.int 7 0,.int 7 0,.int 3 0,.int 3 0,.aB]) w9' v9
  have q10:(E9.put Zb (.cells [.int 7 m.tok.b.1,.int 7 m.tok.b.2,.int 7 0,.int 7 0,.int 3 0,.int 3 0,.aB])).get Zb = .cells [.int 7 m.tok.b.1,.int 7 m.tok.b.2,.int 7 0,.int 7 0,.int 3 0,.int 3 0,.aB]:=by rw [Heap.aF w9' v9,if_pos rfl]
  have k10:(E9.put Zb (.cells [.int 7 m.tok.b.1,.int 7 m.tok.b.2,.int 7 0,.int 7 0,.int 3 0,.int 3 0,.aB])).n=E9.n:=Heap.aT
  generalize hE10:E9.put Zb (.cells [.int 7 m.tok.b.1,.int 7 m.tok.b.2,.int 7 0,.int 7 0,.int 3 0,.int 3 0,.aB])=E10 at R10 t10 q10 k10
  obtain ⟨E11,R11,s11,z11⟩:=qE (cp:=cp) (fuel:=fuel) T R10 Z.tok.2.1 (by omega)
  have m11:=s11.n
  have q11:=(s11.same Zb (by omega) (by omega)).1.trans q10
  have w11:=R11.f.wf
  have v11:Zb<E11.n:=by omega
  have R12:=R11.put (j:=Zb) (y:=.cells [.int 7 m.tok.b.1,.int 7 m.tok.b.2,.int 7 m.tok.t.1,.int 7 m.tok.t.2,.int 3 0,.int 3 0,.aB]) (by omega) v11
  have t12:=Step.eO (r:=Zb) (x:=.cells [.int 7 m.tok.b.1,.int 7 m.tok.b.2,.int 7 m.tok.t.1,.int 7 m.tok.t.2,.int 3 0,.int 3 0,.aB]) w11 v11
  have q12:(E11.put Zb (.cells [.int 7 m.tok.b.1,.int 7 m.tok.b.2,.int 7 m.tok.t.1,.int 7 m.tok.t.2,.int 3 0,.int 3 0,.aB])).get Zb = .cells [.int 7 m.tok.b.1,.int 7 m.tok.b.2,.int 7 m.tok.t.1,.int 7 m.tok.t.2,.int 3 0,.int 3 0,.aB]:=by rw [Heap.aF w11 v11,if_pos rfl]
  have k12:(E11.put Zb (.cells [.int 7 m.tok.b.1,.int 7 m.tok.b.2,.int 7 m.tok.t.1,.int 7 m.tok.t.2,.int 3 0,.int 3 0,.aB])).n=E11.n:=Heap.aT
  generalize hE12:E11.put Zb (.cells [.int 7 m.tok.b.1,.int 7 m.tok.b.2,.int 7 m.tok.t.1,.int 7 m.tok.t.2,.int 3 0,.int 3 0,.aB])=E12 at R12 t12 q12 k12
  obtain ⟨E13,R13,s13,z13⟩:=jD (cp:=cp) (fuel:=fuel) T R12 (by omega) (by omega)
  have m13:=s13.n
  have q13:=(s13.same Zb (by omega) (by omega)).1.trans q12
  have w13:=R13.f.wf
  have v13:Zb<E13.n:=by omega
  have R14:=R13.put (j:=Zb) (y:=.cells [.int 7 m.tok.b.1,.int 7 m.tok.b.2,.int 7 m.tok.t.1,.int 7 m.tok.t.2,.int 3 m.tok.next,.int 3 0,.aB]) (by omega) v13
  have t14:=Step.eO (r:=Zb) (x:=.cells [.int 7 m.tok.b.1,.int 7 m.tok.b.2,.int 7 m.tok.t.1,.int 7 m.tok.t.2,.int 3 m.tok.next,.int 3 0,.aB]) w13 v13
  have q14:(E13.put Zb (.cells [.int 7 m.tok.b.1,.int 7 m.tok.b.2,.int 7 m.tok.t.1,.int 7 m.tok.t.2,.int 3 m.tok.next,.int 3 0,.aB])).get Zb = .cells [.int 7 m.tok.b.1,.int 7 m.tok.b.2,.int 7 m.tok.t.1,.int 7 m.tok.t.2,.int 3 m.tok.next,.int 3 0,.aB]:=by rw [Heap.aF w13 v13,if_pos rfl]
  have k14:(E13.put Zb (.cells [.int 7 m.tok.b.1,.int 7 m.tok.b.2,.int 7 m.tok.t.1,.int 7 m.tok.t.2,.int 3 m.tok.next,.int 3 0,.aB])).n=E13.n:=Heap.aT
  generalize hE14:E13.put Zb (.cells [.int 7 m.tok.b.1,.int 7 m.tok.b.2,.int 7 m.tok.t.1,.int 7 m.tok.t.2,.int 3 m.tok.next,.int 3 0,.aB])=E14 at R14 t14 q14 k14
  obtain ⟨E15,R15,s15,z15⟩:=jD (cp:=cp) (fuel:=fuel) T R14 (by omega) (by omega)
  have m15:=s15.n
  have q15:=(s15.same Zb (by omega) (by omega)).1.trans q14
  have w15:=R15.f.wf
  have v15:Zb<E15.n:=by omega
  have R16:=R15.put (j:=Zb) (y:=.cells [.int 7 m.tok.b.1,.int 7 m.tok.b.2,.int 7 m.tok.t.1,.int 7 m.tok.t.2,.int 3 m.tok.next,.int 3 m.tok.all,.aB]) (by omega) v15
  have t16:=Step.eO (r:=Zb) (x:=.cells [.int 7 m.tok.b.1,.int 7 m.tok.b.2,.int 7 m.tok.t.1,.int 7 m.tok.t.2,.int 3 m.tok.next,.int 3 m.tok.all,.aB]) w15 v15
  have q16:(E15.put Zb (.cells [.int 7 m.tok.b.1,.int 7 m.tok.b.2,.int 7 m.tok.t.1,.int 7 m.tok.t.2,.int 3 m.tok.next,.int 3 m.tok.all,.aB])).get Zb = .cells [.int 7 m.tok.b.1,.int 7 m.tok.b.2,.int 7 m.tok.t.1,.int 7 m.tok.t.2,.int 3 m.tok.next,.int 3 m.tok.all,.aB]:=by rw [Heap.aF w15 v15,if_pos rfl]
  have k16:(E15.put Zb (.cells [.int 7 m.tok.b.1,.int 7 m.tok.b.2,.int 7 m.tok.t.1,.int 7 m.tok.t.2,.int 3 m.tok.next,.int 3 m.tok.all,.aB])).n=E15.n:=Heap.aT
  generalize hE16:E15.put Zb (.cells [.int 7 m.tok.b.1,.int 7 m.tok.b.2,.int 7 m.tok.t.1,.int 7 m.tok.t.2,.int 3 m.tok.next,.int 3 m.tok.all,.aB])=E16 at R16 t16 q16 k16
  obtain ⟨E17,vi,R17,s17,o17,z17⟩:=mK (cp:=cp) (fuel:=fuel) T R16 t4.len (by have:=t4.len;omega) it hfu
  have m17:=s17.n
  have q17:=(s17.same Zb (by omega) (by omega)).1.trans q16
  have w17:=R17.f.wf
  have v17:Zb<E17.n:=by omega
  have R18:=R17.put (j:=Zb) (y:=.cells (cg m.tok vi)) (by omega) v17
  have t18:=Step.eO (r:=Zb) (x:=.cells (cg m.tok vi)) w17 v17
  have q18:(E17.put Zb (.cells (cg m.tok vi))).get Zb = .cells (cg m.tok vi):=by rw [Heap.aF w17 v17,if_pos rfl]
  have k18:(E17.put Zb (.cells (cg m.tok vi))).n=E17.n:=Heap.aT
  generalize hE18:E17.put Zb (.cells (cg m.tok vi))=E18 at R18 t18 q18 k18
  have sw:∀ {B C:Heap} {a:Nat},Step B (λb=>b=a) C (λb=>b=a)->(a=Zb\/a=H.n+2)->Step B (λb=>b=Zb\/b=H.n+2) C (λb=>b=Zb\/b=H.n+2):=λ{B C a} s ha=>
   ⟨s.wf,s.n,λb hb ho=>⟨(s.same b hb λe=>ho (by rw [e];exact ha)).1,ho⟩,λlo h1 h2 h3=>⟨(s.lo lo h1 h2 λb hb=>h3 b (by rw [hb];exact ha)).1,h3⟩⟩
  have big:Step E6 (λb=>b=Zb\/b=H.n+2) E18 (λb=>b=Zb\/b=H.n+2):=(sw s68 (YD rfl)).trans (e9.step.trans ((sw t10 (YG rfl)).trans ((sw s11 (YD rfl)).trans ((sw t12 (YG rfl)).trans ((sw s13 (YD rfl)).trans ((sw t14 (YG rfl)).trans ((sw s15 (YD rfl)).trans ((sw t16 (YG rfl)).trans ((sw s17 (YD rfl)).trans (sw t18 (YG rfl)))))))))))
  have y18:=(big.same Y (by omega) (by omega)).1.trans y6
  have w18:=R18.f.wf
  have v18:Y<E18.n:=by omega
  obtain ⟨E19,hE19,t19,g19,n19⟩:∃ E19,E18.put Y (.cells (aS m vl vs vi))=E19/\Step E18 (λb=>b=Y) E19 (λb=>b=Y)/\E19.get Y = .cells (aS m vl vs vi)/\E19.n=E18.n:=⟨_,rfl,Step.eO w18 v18,by rw [Heap.aF w18 v18,if_pos rfl],Heap.aT⟩
  have l18:=l6.step big λj hj hj2=>by omega
  have O18:=O6.step big λj hj hj2=>by omega
  have l19:Own E0 E19 vl 1 m.live.length (m.live.map (V.int 3)):=by rw [<- hE19];exact l18.nJ w18 v18 (o1.Br (by omega))
  have O19:=O18.step t19 λj hj _=>by omega
  have v19:Own E0 E19 vi 1 m.tok.cD.length (m.tok.cD.map (V.int 3)):=((o17.step t18 λj hj _=>by omega).step t19 λj hj _=>by omega).sub (by omega)
  have f19:ae G1 E19:=by rw [<- hE19];exact R18.f.put (by omega) v18
  have iz:=λ{id:Nat} {k:R}=>aI o17.one (id:=id) (k:=k)
  obtain ⟨F1,F2,ze,gy,fw,fx,gx,hF2,g2,ff,M⟩:=zenc E19 vi (f1.trans f19) g19 l19 O19 v19 (by omega) (x0 _ f19)
  refine ⟨F2,vl,vs,vi,λd k=>?_,ff,M⟩
  have z7:=λ{d:Nat} {k:K}=>z7 (d:=d) (k:=k)
  have z8:=λ{d:Nat} {k:K}=>z8 (d:=d) (k:=k)
  have z11:=λ{d:Nat} {k:K}=>z11 (d:=d) (k:=k)
  have gQ7:=R7.gQ
  have gQ10:=R10.gQ
  have gN12:=R12.gN
  have gN14:=R14.gN
  have gP16:=R16.gP
  simp only [bq]at z8 z11
  simp only [cg]at hE18 q18
  simp only [aS,cg]at hE19 g19 gy hF2 g2 ze
  rw [aR T.k44 rfl rfl]
  simp only [go_sem,c44,Mv,hw,hG1,↓zr,n3',w3,hG4,p4,u4,w4,hG5]
  simp only [go_sem,Mw,w5,n5',hG6,p6,u6,w6,hG7]
  simp only [go_sem,Mx,w7,n7',hG8,p8,u8,w8,hG9]
  simp only [go_sem,My,g5R,↓zn,wa,na',hGb,pb,ub,wb',hGc]
  simp only [go_sem,Mz,wc,nc',hGd,pd,ud,wd',hE0]
  simp only [go_sem,MA,p0,↓z1,↓ix,↓cx,w1',hY,hE2,y2,u2,w2,hE3]
  simp only [go_sem,MB,gR3,↓z4,↓z5,↓iy,y5,uy5,w5',hE6]
  simp only [go_sem,MC,gN6,↓z7,gQ7,↓z8,w8',hZ,hE9,p9',v9,w9',hE10,gQ10,↓z11,q11,w11,v11,hE12,gN12,↓z13,q13,w13,v13,hE14,gN14,↓z15,q15,w15,v15,hE16,gP16,↓z17,↓iz,q17,w17,v17,hE18,q18,y18,w18,v18,hE19]
  simp only [go_sem,MD,g19,↓ze]
  simp only [go_sem,FR,tv]
  simp only [go_sem,FT,FU,gy,gx,fw,fx,hF2,↓vh,g2,↓ix,↓iy,↓iz,aS,cg]
end
end Go.Ev
end
section
namespace Go.Ev
theorem yB:∀ {ss} {xs} {i} {x},i<ss.length->i<xs.length->(dG ss xs).set (i*4+2) x=dG ss (xs.set i x)
 | [],_,i,_,h,_=>by rfl
 | _ :: _,[],i,_,_,h=>by rfl
 | a :: ss,b :: xs,0,x,_,_=>rfl
 | a :: ss,b :: xs,i+1,x,h,h'=>by
  rw [show (i+1)*4+2=(i*4+2)+4 by omega]
  show bQ a b ++ (dG ss xs).set (i*4+2) x=_
  rw [yB (by simp_all) (by simp_all)]
  rfl
theorem yA:∀ {ss} {xs},xs.length=ss.length->(dG ss xs).length=ss.length*4
 | [],[],_=>rfl
 | [],_ :: _,h=>by rfl
 | _ :: _,[],h=>by simp_all
 | a :: ss,b :: xs,h=>by
  have:=yA (by simpa using h)
  simp only [dG,bQ,YC,YF,YM,this]
  omega
section
variable {cp:RC->ai} {t:Nat->Option cF} {fuel:Nat} {H:Heap} {O:Nat->Prop}
theorem CU (T:aG t) {n} {v} {row} (hw:H.wf) (h:Row H O v 4 n row) (hn:n<1000000):
 ∃ H' v',(∀ (d) (k),aj (aQ cp t fuel (d+1)) (.func 294 []) [v] H k=k v' H')/\ae H H'/\Own H H' v' 4 n row:=sW T.abM hw h hn
theorem OT (T:aG t) {v:V} {ss:List Sn} {xs:List V} {B:Nat} {bc:List V} {G0:Heap} (hn:ss.length<1000) (him:∀ s ∈ ss,Jy s.cD) (hxl:xs.length=ss.length) (hx:∀ (i:Nat) (s:Sn),ss[i]? = some s->∃ x,xs[i]? = some x/\dh H O x s.cD) (f0:ae H G0) {H1:Heap} (hH1:H.n<=H1.n) (hH2:H1.n<=G0.n)
 (o0:Own H1 G0 v 4 ss.length (dG ss xs)) (gB:G0.get B = .cells bc) {v0:V} (hv0:v=v0) (hB:B<G0.n) (hb1:bc[1]? = some v0) (hHB:H.n<=B) (oB:jM v B) (hfu:1000<fuel) {C:Nat} {cc:List V} (gC:G0.get C = .cells cc) (hC:C<G0.n) (oC:jM v C) (b8:List V):
 ∃ G' ns,ae H G'/\xP H1 G' v ss ns/\G'.get B = .cells bc/\G'.get C = .cells cc/\G0.n<=G'.n/\(∀ j,j<G0.n->jM v j->G'.get j=G0.get j)/\∀ (d:Nat) (kx:Nat->KE) (e:Env) (x:R),aa s001 e = .ptr B 0->aa s002 e = .ptr C 0->aa s016 e=v->aa s017 e = .int 3 ss.length->aa s020 e = .int 3 0->
  (∀ e',aa s001 e' = .ptr B 0->aa s002 e' = .ptr C 0->kx 1 e' G'=x)->jF vK fuel (aQ cp t fuel (d+2)) kx fuel e G0=x:=by
 have nl:nn ss.length:=by unfold nn;omega
 obtain ⟨ns,G',⟨f',o',nl',ho',gB',gC',hn',hk'⟩,z⟩:=bV (c:=vK) (ph:=λd=>aQ cp t fuel (d+2))
  (I:=λi ns G=>ae H G/\Own H1 G v 4 ss.length (dG ss (ns ++ xs.drop i))/\ns.length=i/\(∀ (j) (s),j<i->ss[j]? = some s->∃ x,ns[j]? = some x/\Own H1 G x 1 s.cD.length (s.cD.map (V.int 3))/\∀ b o n c s,x = .slice b o n c s->jM v b)/\G.get B = .cells bc/\G.get C = .cells cc/\G0.n<=G.n/\∀ j,j<G0.n->jM v j->G.get j=G0.get j)
  (S:=λi ns e=>aa s001 e = .ptr B 0/\aa s002 e = .ptr C 0/\aa s016 e=v/\aa s017 e = .int 3 ss.length/\aa s020 e = .int 3 i) (λi ns G hil ⟨f,o,hnl,hov,gB,gC,hGn,hGk⟩=>by
   have hw:=f.wf
   have hsi:ss[i]? = some ss[i]:=YB hil
   have hmem:=him _ (Yl hil)
   obtain ⟨x,hxi,hI⟩:=hx i _ hsi
   generalize ss[i]=s at hsi hmem hI
   have hli:i<(ns ++ xs.drop i).length:=by grind
   have hgx:(ns ++ xs.drop i)[i]? = some x:=by grind
   have hel:(dG ss (ns ++ xs.drop i)).length=ss.length*4:=yA (by grind)
   obtain ⟨bs,c,z,l,rfl,gbs,hbs,hbn,hll,hput⟩:=o.put hw (by intro e;rw [e]at hel;simp at hel;omega)
   have bC:(l.drop (i*4)).take 4=bQ s x:=by
    have h1:=uT hsi hgx
    obtain ⟨_,_,⟨h,_⟩|⟨b',c',s',rest,h,g',_⟩⟩:=o
    .cases h
    grind
   obtain ⟨G1,hG1,f1,p1,n1⟩:=Heap.aU hw (.cells [.int 7 0,.int 7 0,.aB,.bool false])
   obtain ⟨G2,hG2,f2,p2,n2,w2,-⟩:=Heap.bd f1 (YA _) (by omega) (.cells (bQ s x))
   obtain ⟨Gm,G3,x',z3,hu3,hl3,f3,ox⟩:=Vo (fW (cp:=cp) (fuel:=fuel) T (by rw [Heap.dV];exact w2) (((hI.fresh f).fresh f2).fresh (ae.DW w2)) (by have:=hmem.1;omega))
   have f03:=f.trans (f2.trans f3)
   have m3:=f3.n
   have w3:=f3.wf
   have k3:∀ j,j<G.n->G3.get j=G.get j:=λj hj=>(f3.same _ (by omega)).trans (f2.same _ hj)
   have gb3:=(k3 _ hbn).trans gbs
   have o3:=(o.fresh f2).fresh f3
   obtain ⟨b3,c3,z3',l3,e3,gb3',hbs3,hbn3,hll3,hput3⟩:=o3.put w3 (by intro e;rw [e]at hel;simp at hel;omega)
   cases e3
   rw [gb3]at gb3'
   simp only [eB.cells.injEq]at gb3'
   subst gb3'
   obtain ⟨n4,o4,k4⟩:=hput3 (i*4+2) x' (by omega) ox.one
   have f4:=f03.put (x:=.cells (l.set (i*4+2) x')) (Yn hH1 hbs3) hbn3
   rw [yB hil hli,List.set_append_right _ _ (by omega),hnl,Nat.sub_self,QB (by omega),List.set_cons_zero]at o4
   generalize hG4:G3.put bs (.cells (l.set (i*4+2) x'))=G4 at f4 n4 o4 k4
   have t4:Step G3 (λb=>b=bs) G4 (λb=>b=bs):=by rw [<- hG4];exact Step.eO w3 hbn3
   have hi:=λ{id} {k}=>aI hI.one (id:=id) (k:=k)
   have hi':=λ{id} {k}=>aI ox.one (id:=id) (k:=k)
   have a1:nn i:=by unfold nn;omega
   have a2:i<9223372036854775808:=by omega
   have a3:(i+1)%18446744073709551616=i+1:=by omega
   have a4:G.n<G1.n:=by omega
   have a5:i*4<=l.length:=by omega
   have a6:4<=(l.drop (i*4)).length:=by rw [List.length_drop];omega
   have a7:i*4+2<l.length:=by omega
   have a8:=oB _ _ _ _ _ rfl
   have a9:=oC _ _ _ _ _ rfl
   have a10:=by omega
   have w1:=f1.wf
   have gB2:=(f2.same _ (by omega)).trans gB
   have gB2':=gB2
   have hnt:∀ {id} {k},nth id bc 1 k=k v0:=iL hb1
   have p2':=p2
   have z3:=λ{d} {k}=>z3 d k
   refine ⟨ns ++ [x'],G4,⟨f4,by rw [WG];exact o4,by simp [hnl],λj s' hj hs'=>?_,?_,?_,by omega,λj hj ho=>?_⟩,λd kx r e y ⟨q1,q2,q16,q17,q20⟩ hk=>?_⟩
   .by_cases hji:j<i
    .obtain ⟨y,b1,b2,b3⟩:=hov j s' hji hs'
     refine ⟨y,by grind,((b2.fresh f2).fresh f3).eQ (by omega) (λq hq ho=>k4 q (ho _ _ _ _ _ rfl)) b3,b3⟩
    .obtain rfl:j=i:=by omega
     rw [hsi]at hs'
     cases hs'
     refine ⟨x',by grind,(ox.sub (by omega)).eQ (by omega) (v:=.slice bs 0 ss.length c z) (λq hq ho=>k4 q (ho _ _ _ _ _ rfl)) (λb o n c s e b' o' n' c' s' e'=>by cases e';have:=(ox.cO e).1;omega),λb o n c s e b' o' n' c' s' e'=>by cases e';have:=(ox.cO e).1;omega⟩
   .rw [k4 _ a8,k3 _ (by omega)];exact gB
   .rw [k4 _ a9,k3 _ (by omega)];exact gC
   .rw [k4 _ (ho _ _ _ _ _ rfl),k3 _ (by omega)];exact hGk j hj ho
   simp only [bQ]at bC hG2 p2
   rw [ak]
   simp only [go_sem,vK,q1,q16,q17,q20,hil,nl,a1,a2,a3,a4,gbs,a5,a6,bC,hw,↓hi,↓hi',hG1,p1,w1,hG2,p2,gB2,↓hnt,↓z3,hu3,hl3,gb3,a7,w3,hbn3,hG4,<- hv0]
   exact hk _ (by simp only [go_sem,q1,q2,q16,q17])) ss.length 0 [] G0 (by omega) ⟨f0,by simpa using o0,rfl,λj s hj=>by omega,gB,gC,YA _,λ_ _ _=>rfl⟩
 rw [List.drop_of_length_le (by omega),YV]at o'
 refine ⟨G',ns,f',⟨o',nl',λj s hs=>ho' j s (YX.1 hs).1 hs⟩,gB',gC',hn',hk',λd kx e x q1 q2 q16 q17 q20 hk=>z d kx fuel e x (by omega) ⟨q1,q2,q16,q17,q20⟩ λr e' ⟨q1,q2,q16,q17,q20⟩=>?_⟩
 have e6:¬ ss.length<ss.length:=by omega
 rw [ak]
 simp only [go_sem,vK,q17,q20,nl,e6]
 exact hk _ q1 q2
structure MO (H G:Heap) (m:MT) (vl vs vi:V):Prop where
 live:Own H G vl 1 m.live.length (m.live.map (V.int 3))
 ah:∃ xs,xP H G vs m.ah xs
 cD:Own H G vi 1 m.tok.cD.length (m.tok.cD.map (V.int 3))
 dl:∀ b o n c s,vl = .slice b o n c s->jM vs b
 di:∀ b o n c s,vi = .slice b o n c s->jM vs b
theorem MO.at_ {H G:Heap} {m:MT} {vl vs vi:V} {O:Nat->Prop} (h:MO H G m vl vs vi) (hO:∀ b,O b->b<H.n):gj G O m vl vs vi:=⟨dh.fM h.live hO,let ⟨_,h⟩:=h.ah;h.at_ hO,dh.fM h.cD hO⟩
theorem MO.one {H G:Heap} {m:MT} {vl vs vi:V} (h:MO H G m vl vs vi):vl.one=true/\vs.one=true/\vi.one=true:=⟨h.live.one,let ⟨_,h⟩:=h.ah;h.1.one,h.cD.one⟩
set_option maxRecDepth 4000 in
theorem LJ (T:aG t) {m:MT} {vl vs vi:V} (hw:H.wf) (M:gj H O m vl vs vi) (Y:lg m) (hfu:1000<fuel):
 ∃ H' vl' vs' vi',(∀ (d:Nat) (k:K),aj (aQ cp t fuel (d+3)) (.func 222 []) [.agg (aS m vl vs vi)] H k=k (.agg (aS m vl' vs' vi')) H')/\ae H H'/\MO H H' m vl' vs' vi':=by
 obtain ⟨Ml,⟨xs,hR,hxl,hX⟩,Mi⟩:=M
 have l1:=Y.live.1
 have l2:=Y.num
 have l3:=Y.tok.2.2.2.2.1
 have i1:=λ{id} {k}=>aI Ml.one (id:=id) (k:=k)
 have i2:=λ{id} {k}=>aI hR.one (id:=id) (k:=k)
 have i3:=λ{id} {k}=>aI Mi.one (id:=id) (k:=k)
 obtain ⟨G1,hG1,f1,p1,n1⟩:=Heap.aU hw (.cells (aS m vl vs vi))
 obtain ⟨G2,hG2,f2,p2,n2⟩:=Heap.gO n1 f1.wf (.cells [.aB,.aB,.int 7 0,.int 7 0,.int 7 0,.int 7 0,.int 3 0,.int 3 0,.aB])
 have q2:=(f2.same _ (by omega)).trans p1
 have f02:=f1.trans f2
 obtain ⟨G3,vl',z3,f3,o3⟩:=fW (cp:=cp) (fuel:=fuel) T f02.wf (Ml.fresh f02) (by omega)
 have j1:=λ{id} {k}=>aI o3.one (id:=id) (k:=k)
 have m3:=f3.n
 have q3:=(f3.same _ (by omega)).trans q2
 have r3:=(f3.same _ (by omega)).trans p2
 obtain ⟨G4,hG4,f4,p4,n4,w4,k4⟩:=Heap.bd (f02.trans f3) (YA _) (by omega) (.cells (aS m vl' vs vi))
 have o4:Own G2 G4 vl' 1 m.live.length (m.live.map (V.int 3)):=by rw [<- hG4];exact o3.nJ f3.wf (by omega) (o3.off (by omega))
 have r4:=(k4 (H.n+1) (by omega)).trans r3
 obtain ⟨G5,vs',z5,f5,o5⟩:=CU (cp:=cp) (fuel:=fuel) T w4 (hR.fresh f4) (by omega)
 have j2:=λ{id} {k}=>aI o5.one (id:=id) (k:=k)
 have m5:=f5.n
 have q5:=(f5.same _ (by omega)).trans p4
 have r5:=(f5.same (H.n+1) (by omega)).trans r4
 obtain ⟨G6,hG6,f6,p6,n6,w6,k6⟩:=Heap.bd (f4.trans f5) (YA _) (by omega) (.cells (aS m vl' vs' vi))
 have o6:Own G4 G6 vs' 4 m.ah.length (dG m.ah xs):=by rw [<- hG6];exact o5.nJ f5.wf (by omega) (o5.off (by omega))
 have r6:=(k6 (H.n+1) (by omega)).trans r5
 have ol6:Own G2 G6 vl' 1 m.live.length (m.live.map (V.int 3)):=by rw [<- hG6];exact (o4.fresh f5).nJ f5.wf (by omega) (o3.off (by omega))
 have oX:jM vs' H.n:=o5.off (by omega)
 have oX1:jM vs' (H.n+1):=o5.off (by omega)
 obtain ⟨G7,ns,f7,o7,g7,r7,n7,k7,z7⟩:=OT T l2 (λs hs=>(Y.ah s hs).2) hxl hX f6 (by omega) (by omega) o6 p6 rfl (by omega) rfl (YA _) oX hfu r6 (by omega) oX1 []
 have m7:=by omega
 have oV:∀ b o n c s,vl' = .slice b o n c s->jM vs' b:=λb o n c s e=>o5.off (by have:=(o4.cO e).2;omega)
 have ol7:=ol6.eQ n7 k7 oV
 obtain ⟨G8,vi',z8,f8,o8⟩:=fW (cp:=cp) (fuel:=fuel) T f7.wf (Mi.fresh f7) (by omega)
 have j3:=λ{id} {k}=>aI o8.one (id:=id) (k:=k)
 have m8:=f8.n
 have q8:=(f8.same _ (by omega)).trans g7
 have r8:=(f8.same (H.n+1) (by omega)).trans r7
 obtain ⟨G9,hG9,f9,p9,n9,w9,k9⟩:=Heap.bd (f7.trans f8) (YA _) (by omega) (.cells (aS m vl' vs' vi'))
 have r9:=(k9 (H.n+1) (by omega)).trans r8
 obtain ⟨Ga,hGa,fa,pa,na,wa,ka⟩:=Heap.bd (b:=H.n+1) f9 (by omega) (by omega) (.cells (aS m vl' vs' vi'))
 have s9:Step G8 (λb=>b=H.n) G9 (λb=>b=H.n):=by rw [<- hG9];exact Step.eO f8.wf (by omega)
 have sa:Step G9 (λb=>b=H.n+1) Ga (λb=>b=H.n+1):=by rw [<- hGa];exact Step.eO w9 (by omega)
 refine ⟨Ga,vl',vs',vi',λd k=>?_,fa,⟨?_,⟨ns,?_⟩,?_,oV,λb o n c s e=>o7.1.Br (o8.cO e).1⟩⟩
 .have z3:=λ{d} {k}=>z3 d k
  have z5:=λ{d} {k}=>z5 d k
  have z8:=λ{d} {k}=>z8 d k
  have hs:=λ{id} {f}=>o5.sn (id:=id) (f:=f)
  have e1:m.ah.length<9223372036854775808:=by omega
  have u3:H.n<G3.n:=by omega
  have u5:H.n<G5.n:=by omega
  have u8:H.n<G8.n:=by omega
  have u9:H.n+1<G9.n:=by omega
  have w1:=f1.wf
  have w3:=f3.wf
  have w5:=f5.wf
  have w8:=f8.wf
  simp only [aS,cg]at hG1 p1 q2 q3 hG4 p4 q5 hG6 p6 g7 q8 hG9 p9 hGa pa
  rw [aR T.abr rfl rfl]
  simp only [go_sem,aap,aS,cg,hw,↓i1,↓i2,↓i3,hG1,w1,n1,hG2,q2,↓z3,↓j1,q3,w3,u3,hG4,p4,↓z5,↓j2,q5,w5,u5,hG6,p6,↓hs,e1]
  refine z7 d _ _ _ ?_ ?_ ?_ ?_ ?_ λe' h1 h2=>?_
  .rfl
  .rfl
  .rfl
  .rfl
  .rfl
  simp only [go_sem,h1,h2,g7,↓z8,↓j3,q8,w8,u8,hG9,p9,↓j1,↓j2,r9,w9,u9,hGa,↓dA,pa]
 .exact (((ol7.fresh f8).step s9 λj hj _=>by omega).step sa λj hj _=>by omega).sub (by omega)
 .have o9:=((o7.step f8.step λj hj _ h=>h).step s9 λj hj _=>by omega).step sa λj hj _=>by omega
  exact ⟨o9.1.sub (by omega),o9.2.1,λi s hs=>let ⟨x,a,b,c⟩:=o9.2.2 i s hs; ⟨x,a,b.sub (by omega),c⟩⟩
 .exact ((o8.step s9 λj hj _=>by omega).step sa λj hj _=>by omega).sub (by omega)
end
end Go.Ev
end

