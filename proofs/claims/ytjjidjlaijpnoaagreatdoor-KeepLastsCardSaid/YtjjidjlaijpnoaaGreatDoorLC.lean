/- LC: a part of the evaluator,of its logic,or of the laws' walk in it. -/
import Derived.Test.YtjjidjlaijpnoaaGreatDoorLB
set_option linter.unusedVariables false
set_option linter.unusedSimpArgs false
set_option linter.unusedSectionVars false
section
namespace Go.Ev
def isRow (bl:Blk) (row:List V):Prop:=bl = .cells row∨bl = .view row
theorem rd_row {bl:Blk} {row:List V} {o:Nat} {v:V} (h:isRow bl row) (hr:row[o]? = some v) (h1:v.one=true) {id:Nat} {k:V→R}:rdB id bl o k=k v:=by
 rcases h with rfl | rfl
 ·show nth id row o k=_
  exact nth_get hr
 ·show nth id row o (fun v=>isOne id v (k v))=_
  rw [nth_get hr]
  cases v <;> first | rfl | cases h1
def NoneV (v:V):Prop:=v = .nils ∨ ∃ b o c s,v = .slice b o 0 c s
theorem Fresh.own {H H1 H2:Heap} {O1 O2:Nat→Prop} (f:Fresh H H1) (s:Step H1 O1 H2 O2) (h:∀ b,O1 b→H.n≤b):Fresh H H2 ∧ ∀ b,O2 b→H.n≤b:=by
 have hn:∀ b,b<H.n → ¬ O1 b:=fun b hb ho=>by have:=h b ho;omega
 refine ⟨⟨s.wf,Nat.le_trans f.n s.n,fun b hb=>((s.same b (Nat.lt_of_lt_of_le hb f.n) (hn b hb)).1).trans (f.same b hb),fun lo h1 h2=>(s.lo lo (f.lo lo h1 h2) (Nat.le_trans h2 f.n) fun b hb=>Nat.le_trans h2 (h b hb)).1⟩,fun b hb => ?_⟩
 rcases Nat.lt_or_ge b H.n with h1 | h1
 ·exact absurd hb (s.same b (Nat.lt_of_lt_of_le h1 f.n) (hn b h1)).2
 ·exact h1
end Go.Ev
end
section
namespace Go.Ev
theorem find_laid_not:∀ {ws:List Wr} {es:List (Nat × Tx)} {k:Nat},k ∉ ws.map (·.1)→find (laid es ws) k=find es k
 | [],es,k,_=>rfl
 | w :: ws,es,k,h=>by
  simp only [List.map_cons,List.mem_cons,not_or] at h
  show find (laid (updS es w.1 w.2) ws) k=_
  rw [find_laid_not h.2,find_updS,if_neg h.1]
theorem find_laid_mem:∀ {ws:List Wr} {es:List (Nat × Tx)} {w:Wr},(ws.map (·.1)).Nodup→w ∈ ws→find (laid es ws) w.1=some w.2
 | [],es,w,_,h=>by cases h
 | v :: ws,es,w,hn,h=>by
  simp only [List.map_cons,List.nodup_cons] at hn
  show find (laid (updS es v.1 v.2) ws) w.1=_
  rcases List.mem_cons.1 h with rfl | h
  ·rw [find_laid_not hn.1,find_updS,if_pos rfl]
  ·exact find_laid_mem hn.2 h
theorem find_laid_some:∀ {ws:List Wr} {es:List (Nat × Tx)} {k:Nat},(find es k).isSome=true→(find (laid es ws) k).isSome=true
 | [],es,k,h=>h
 | v :: ws,es,k,h=>by
  show (find (laid (updS es v.1 v.2) ws) k).isSome=true
  refine find_laid_some ?_
  rw [find_updS]
  split
  ·rfl
  ·exact h
structure EsOK (len:Nat) (es:List (Nat × Tx)):Prop where
 nodup:(es.map (·.1)).Nodup
 lt:∀ e ∈ es,e.1<len
theorem updS_keys:∀ (es:List (Nat × Tx)) (a:Nat) (v:Tx),(updS es a v).map (·.1)=if a ∈ es.map (·.1) then es.map (·.1) else es.map (·.1) ++ [a]
 | [],a,v=>rfl
 | p :: es,a,v=>by
  unfold updS
  by_cases h:p.1=a
  ·rw [if_pos h,if_pos (by simp [h])]
   rfl
  ·rw [if_neg h,List.map_cons,updS_keys es a v,List.map_cons]
   have:¬ a=p.1:=fun e=>h e.symm
   by_cases h2:a ∈ es.map (·.1)
   ·rw [if_pos h2,if_pos (List.mem_cons_of_mem _ h2)]
   ·rw [if_neg h2,if_neg (fun hm=>(List.mem_cons.1 hm).elim this h2)]
    rfl
theorem EsOK.updS {len:Nat} {es:List (Nat × Tx)} (h:EsOK len es) {a:Nat} {v:Tx} (ha:a<len):EsOK len (updS es a v):=by
 have hk:=updS_keys es a v
 refine ⟨?_,fun e he => ?_⟩
 ·rw [hk]
  split
  ·exact h.nodup
  ·rename_i hn
   exact List.nodup_append.2 ⟨h.nodup,by simp,fun x hx y hy=>by rw [List.mem_singleton.1 hy];rintro rfl;exact hn hx⟩
 ·have:e.1 ∈ (Go.Ev.updS es a v).map (·.1):=List.mem_map.2 ⟨e,he,rfl⟩
  rw [hk] at this
  split at this
  ·obtain ⟨q,hq,e⟩:=List.mem_map.1 this
   have:=h.lt q hq
   omega
  ·rcases List.mem_append.1 this with h1 | h1
   ·obtain ⟨q,hq,e⟩:=List.mem_map.1 h1
    have:=h.lt q hq
    omega
   ·rw [List.mem_singleton.1 h1];exact ha
theorem EsOK.laid {len:Nat}:∀ {ws:List Wr} {es:List (Nat × Tx)},EsOK len es→(∀ w ∈ ws,w.1<len)→EsOK len (laid es ws)
 | [],es,h,_=>h
 | w :: ws,es,h,hw=>EsOK.laid (ws:=ws) (h.updS (hw w (List.mem_cons_self ..))) fun v hv=>hw v (List.mem_cons_of_mem _ hv)
theorem EsOK.length {len:Nat} {es:List (Nat × Tx)} (h:EsOK len es):es.length≤len:=by
 have h1:(es.map (·.1)) ⊆ List.range len:=fun k hk=>by
  obtain ⟨e,he,rfl⟩:=List.mem_map.1 hk
  exact List.mem_range.2 (h.lt e he)
 have:=List.Nodup.length_le_of_subset h.nodup h1
 simpa using this
theorem EsOK.nil {len:Nat}:EsOK len []:=⟨List.nodup_nil,fun _ h=>by cases h⟩
theorem wrs_calm:∀ {ws:List Wr} {A:AD},A.fuse=0→(A.wrs ws).2=0∧(A.wrs ws).1.fuse=0
 | [],A,h=>⟨rfl,h⟩
 | w :: ws,A,h=>by
  have hf:¬ A.fuse=1:=by omega
  have h1:(A.write w.1 w.2.2).2=0:=by simp only [AD.write,if_neg hf]
  simp only [AD.wrs,if_pos h1]
  exact wrs_calm (by simp only [AD.write,if_neg hf];omega)
theorem puts_calm {ws:List Wr} {A:AD} (h:A.fuse=0):(A.puts ws).2=0∧(A.puts ws).1.fuse=0:=by
 obtain ⟨h1,h2⟩:=wrs_calm (ws:=ws) h
 have hf:¬ (A.wrs ws).1.fuse=1:=by omega
 simp only [AD.puts,if_pos h1,AD.flush,if_neg hf,true_and]
 omega
theorem runs_calm:∀ {l:List (List Wr)} {A:AD},A.fuse=0→(A.runs l).2=0∧(A.runs l).1.fuse=0
 | [],A,h=>⟨rfl,h⟩
 | ws :: l,A,h=>by
  obtain ⟨h1,h2⟩:=puts_calm (ws:=ws) h
  simp only [AD.runs,if_pos h1]
  exact runs_calm h2
theorem runs_went:∀ {l:List (List Wr)} {A:AD},(∀ ws ∈ l,∀ w ∈ ws,w.2.1=32)→(A.runs l).2=0→Went A (A.runs l).1 (laid A.es l.flatten)∧(l≠[]→(A.runs l).1.us=[])
 | [],A,_,_=>⟨⟨rfl,rfl,rfl,rfl⟩,fun h=>absurd rfl h⟩
 | ws :: l,A,hl,h0=>by
  simp only [AD.runs] at h0 ⊢
  by_cases h1:(A.puts ws).2=0
  ·rw [if_pos h1] at h0 ⊢
   obtain ⟨⟨g1,g2,g3,g4⟩,g5⟩:=puts_went (hl ws (List.mem_cons_self ..)) h1
   obtain ⟨⟨k1,k2,k3,k4⟩,k5⟩:=runs_went (A:=(A.puts ws).1) (fun us hus=>hl us (List.mem_cons_of_mem _ hus)) h0
   refine ⟨⟨k1.trans g1,k2.trans g2,k3.trans g3, ?_⟩,fun _ => ?_⟩
   ·rw [k4,g4,List.flatten_cons,laid_append]
   ·by_cases hl0:l=[]
    ·subst hl0;exact g5
    ·exact k5 hl0
  ·rw [if_neg h1] at h0;exact absurd h0 h1
theorem outs_good {a:Nat} {ps:List (List UInt8)} (ha:a<2) (hn:ps.length≤72) (hl:∀ s ∈ ps,s.length=32):∀ w ∈ outs a ps,(1≤w.1∧w.1<145)∧w.2.1=32:=fun w hw=>by
 obtain ⟨i,hi,rfl⟩:=outs_mem hw
 refine ⟨⟨?_, ?_⟩,hl _ (List.getElem_mem hi)⟩
 ·show 1≤1+a * 72+i;omega
 ·show 1+a * 72+i<145;omega
theorem outs_nodup (a:Nat) (ps:List (List UInt8)):((outs a ps).map (·.1)).Nodup:=by
 have:(outs a ps).map (·.1)=(List.range ps.length).map (fun i=>1+a * 72+i):=by
  refine List.ext_getElem (by simp [outs]) fun i h1 h2 => ?_
  simp [outs]
 rw [this]
 refine List.Pairwise.map _ (fun x y h => ?_) List.nodup_range
 omega
theorem find_laid_congr:∀ {ws:List Wr} {es es':List (Nat × Tx)} {k:Nat},find es k=find es' k→find (laid es ws) k=find (laid es' ws) k
 | [],es,es',k,h=>h
 | w :: ws,es,es',k,h=>find_laid_congr (ws:=ws) (es:=updS es w.1 w.2) (es':=updS es' w.1 w.2) (by rw [find_updS,find_updS,h])
theorem laid_same:∀ {ws:List Wr} {es:List (Nat × Tx)} {k:Nat},(∀ w ∈ ws,find es w.1=some w.2)→find (laid es ws) k=find es k
 | [],_,_,_=>rfl
 | w :: ws,es,k,h=>by
  have hu:∀ k,find (updS es w.1 w.2) k=find es k:=fun k=>by
   rw [find_updS]
   split
   ·rename_i e;rw [e,h w (List.mem_cons_self ..)]
   ·rfl
  show find (laid (updS es w.1 w.2) ws) k=_
  rw [laid_same fun v hv=>by rw [hu];exact h v (List.mem_cons_of_mem _ hv),hu]
theorem roomy_some {room:Nat}:∀ {ws:List Wr} {es:List (Nat × Tx)},(∀ w ∈ ws,(find es w.1).isSome=true)→roomy room es ws
 | [],_,_=>trivial
 | w :: ws,es,h=>⟨Or.inl (h w (List.mem_cons_self ..)),roomy_some fun v hv=>by
   rw [find_updS]
   split
   ·rfl
   ·exact h v (List.mem_cons_of_mem _ hv)⟩
structure JD (pk:List UInt8→List (List UInt8)) (A:AD) (a n:Nat) (ws:List Wr):Prop where
 off:A.off=false
 keys:EsOK A.len A.es
 us:A.us=[]
 rec_:CanRecover A pk a n ws
 some_:n≠0 → ∀ w ∈ ws,find A.es w.1=some w.2
theorem hdr_wr (a n:Nat):(((0,tx (hdr a n)):Wr)).2.1=32:=hdr_length a n
theorem JD.start {pk:List UInt8→List (List UInt8)} {A:AD} (hl:145<A.len) (hl2:A.len≤1024) (ho:A.off=false) (hk:EsOK A.len A.es) (hf:A.fuse=0):JD pk (A.runs [[(0,tx (hdr 0 0))]]).1 0 0 []∧(A.runs [[(0,tx (hdr 0 0))]]).1.fuse=0∧(A.runs [[(0,tx (hdr 0 0))]]).2=0∧Went A (A.runs [[(0,tx (hdr 0 0))]]).1 (updS A.es 0 (tx (hdr 0 0))):=by
 obtain ⟨h1,h2⟩:=runs_calm (l:=[[(0,tx (hdr 0 0))]]) hf
 obtain ⟨⟨g1,g2,g3,g4⟩,g5⟩:=runs_went (l:=[[(0,tx (hdr 0 0))]]) (A:=A) (fun ws hws w hw=>by
  rw [List.mem_singleton.1 hws] at hw
  rw [List.mem_singleton.1 hw]
  exact hdr_wr 0 0) h1
 have g5:=g5 (by simp)
 have g4:_=updS A.es 0 (tx (hdr 0 0)):=g4
 generalize (A.runs [[(0,tx (hdr 0 0))]]).1=B at h2 g1 g2 g3 g4 g5 ⊢
 have hkB:EsOK B.len B.es:=by rw [g1,g4];exact hk.updS (by omega)
 have hlen:=hkB.length
 refine ⟨⟨g3.trans ho,hkB,g5,⟨⟨by omega,by omega,by omega,by rw [g5];simp, ?_,by omega,by omega⟩,fun h=>absurd rfl h⟩,fun h=>absurd rfl h⟩,h2,h1,⟨g1,g2,g3,g4⟩⟩
 rw [AD.read,g4,find_updS,if_pos rfl]
 rfl
structure Did (pk:List UInt8→List (List UInt8)) (A:AD) (ws:List Wr) (B:AD × Nat):Prop where
 no:B.2≠0→B.1=A
 fuse:B.1.fuse=0
 len:B.1.len=A.len
 room:B.1.room=A.room
 jd:∃ a n us,JD pk B.1 a n us
 yes:B.2=0→(∀ k,145≤k→find B.1.es k=find (laid A.es ws) k)∧mayP A.len [] ws=true
theorem JD.same {pk:List UInt8→List (List UInt8)} {A:AD} {a n e:Nat} {us ws:List Wr} (J:JD pk A a n us) (hf:A.fuse=0) (he:e≠0∨ws=[]):Did pk A ws (A,e):=
 ⟨fun _=>rfl,hf,rfl,rfl,⟨a,n,us,J⟩,fun h=>by
  rcases he with h1 | rfl
  ·exact absurd h h1
  ·exact ⟨fun k _=>rfl,rfl⟩⟩
theorem JD.ran {pk:List UInt8→List (List UInt8)} {unpk:List (List UInt8)→Option (List UInt8)} (F:FrameOK pk unpk) {A B:AD} {a n:Nat} {us ws:List Wr} (J:JD pk A a n us) (hm:mayP A.len [] ws=true) (h60:ws.length≤60) (h0:ws≠[]) (hws:∀ w ∈ ws,okT w.2)
  (w:Went A B (laid A.es (outs (1-a) (pk (recT ws)) ++ (0,tx (hdr (1-a) (pk (recT ws)).length)) :: ws))) (hu:B.us=[]):JD pk B (1-a) (pk (recT ws)).length ws ∧ ∀ k,145≤k→find B.es k=find (laid A.es ws) k:=by
 obtain ⟨h1,h2,h3,⟨⟨k1,k2,k3,k4,k5,k6,k7⟩,k8⟩,h5⟩:=J
 obtain ⟨hgood,hnd⟩:=mayP_good hm
 have hrec:RecOK ws:=⟨h60,fun w hw=>by have:=(hgood w hw).1.2.1;omega,fun w hw=>(hgood w hw).1.2.2,hws⟩
 have htl:=hrec.text
 have hpkn:=F.num _ htl
 have hpkp:=F.pos (recT ws) (by omega)
 have hpkl:=F.len (recT ws) (by omega)
 have ha1:1-a<2:=by omega
 have hout:=outs_good (a:=1-a) ha1 hpkn hpkl
 have hond:=outs_nodup (1-a) (pk (recT ws))
 have hom:∀ i (h:i < (pk (recT ws)).length),((1+(1-a) * 72+i,tx (pk (recT ws))[i]):Wr) ∈ outs (1-a) (pk (recT ws)):=fun i h=>by
  simp only [outs,List.mem_mapIdx]
  exact ⟨i,h,rfl⟩
 generalize hq:outs (1-a) (pk (recT ws))=first at w hout hond hom
 generalize hp:pk (recT ws)=ps at w hpkn hpkp hpkl hom
 obtain ⟨g1,g2,g3,g4⟩:=w
 rw [laid_append] at g4
 have g4:B.es=laid (updS (laid A.es first) 0 (tx (hdr (1-a) ps.length))) ws:=g4
 have hnw:∀ k,k<145→k ∉ ws.map (·.1):=fun k hk hm=>by
  obtain ⟨v,hv,e⟩:=List.mem_map.1 hm
  have:=(hgood v hv).1.1
  omega
 have hnf:∀ k,(k=0∨145≤k)→k ∉ first.map (·.1):=fun k hk hm=>by
  obtain ⟨v,hv,e⟩:=List.mem_map.1 hm
  have:=(hout v hv).1
  omega
 have hkB:EsOK B.len B.es:=by
  rw [g1,g4]
  exact ((h2.laid (ws:=first) fun v hv=>by have:=(hout v hv).1;omega).updS (by omega)).laid fun v hv=>(hgood v hv).1.2.1
 have hsome:∀ v ∈ ws,find B.es v.1=some v.2:=fun v hv=>by rw [g4];exact find_laid_mem hnd hv
 have hlB:=hkB.length
 refine ⟨⟨g3.trans h1,hkB,hu,⟨⟨by omega,by omega,by omega,by rw [hu];simp, ?_,ha1,hpkn⟩,fun _=>⟨by rw [hp],fun i hi => ?_,hrec,h0,by rw [g1];exact hm,roomy_some fun v hv=>by rw [hsome v hv];rfl⟩⟩,fun _=>hsome⟩,fun k hk => ?_⟩
 ·rw [AD.read,g4,find_laid_not (hnw 0 (by omega)),find_updS,if_pos rfl]
  rfl
 ·rw [hp] at hi
  have hm:=hom i hi
  have hb:=(hout _ hm).1
  have h3:∀ k v,(1≤k∧k<145)→((k,v):Wr) ∈ first→B.read k=v:=fun k v hk hm=>by
   rw [AD.read,g4,find_laid_not (hnw k hk.2),find_updS,if_neg (by omega),show find (laid A.es first) k=some v from find_laid_mem hond hm]
   rfl
  rw [h3 _ _ hb hm]
  simp only [hp]
 ·rw [g4]
  refine find_laid_congr ?_
  rw [find_updS,if_neg (by omega),find_laid_not (hnf k (Or.inr hk))]
theorem JD.commit {pk:List UInt8→List (List UInt8)} {unpk:List (List UInt8)→Option (List UInt8)} (F:FrameOK pk unpk) {A:AD} {a n:Nat} {us ws:List Wr} (J:JD pk A a n us) (hf:A.fuse=0) (hws:∀ w ∈ ws,okT w.2):Did pk A ws (A.commit pk a ws):=by
 unfold AD.commit
 rw [if_neg (by rw [J.off];exact Bool.false_ne_true)]
 by_cases h0:ws.length=0
 ·rw [if_pos h0];exact J.same hf (Or.inr (List.eq_nil_of_length_eq_zero h0))
 rw [if_neg h0]
 by_cases h6:60<ws.length
 ·rw [if_pos h6];exact J.same hf (Or.inl (by omega))
 rw [if_neg h6]
 by_cases hm:mayP A.len [] ws=false
 ·rw [if_pos hm];exact J.same hf (Or.inl (by omega))
 rw [if_neg hm]
 have hm:mayP A.len [] ws=true:=by simpa using hm
 split
 ·obtain ⟨h1,h2⟩:=runs_calm (l:=[outs (1-a) (pk (recT ws)),[(0,tx (hdr (1-a) (pk (recT ws)).length))],ws]) hf
  have hgood:=(mayP_good hm).1
  have hrec:RecOK ws:=⟨by omega,fun w hw=>by have:=(hgood w hw).1.2.1;have:=J.rec_.can.hi;omega,fun w hw=>(hgood w hw).1.2.2,hws⟩
  have htl:=hrec.text
  obtain ⟨g,g5⟩:=runs_went (l:=[outs (1-a) (pk (recT ws)),[(0,tx (hdr (1-a) (pk (recT ws)).length))],ws]) (A:=A) (fun us hus w hw=>by
   simp only [List.mem_cons,List.not_mem_nil,or_false] at hus
   rcases hus with rfl | rfl | rfl
   ·exact (outs_good (by omega) (F.num _ htl) (F.len _ (by omega)) w hw).2
   ·rw [List.mem_singleton.1 hw];exact hdr_wr _ _
   ·exact (hgood w hw).1.2.2) h1
  obtain ⟨j1,j2⟩:=J.ran F hm (by omega) (fun h=>h0 (by rw [h];rfl)) hws (by simpa using g) (g5 (by simp))
  exact ⟨fun h=>absurd h1 h,h2,g.len,g.room,⟨_,_,_,j1⟩,fun _=>⟨j2,hm⟩⟩
 ·exact J.same hf (Or.inl (by omega))
end Go.Ev
end
section
namespace Go.Ev
theorem find_isSome {es:List (Nat × Tx)} {k:Nat}:(find es k).isSome=true↔k ∈ es.map (·.1):=by
 unfold find
 rw [Option.isSome_map,List.find?_isSome]
 constructor
 ·rintro ⟨x,hx,e⟩
  exact List.mem_map.2 ⟨x,hx,by simpa using e⟩
 ·intro h
  obtain ⟨x,hx,e⟩:=List.mem_map.1 h
  exact ⟨x,hx,by simpa using e⟩
theorem updC_nodup:∀ (D:List (Nat × Nat)) (a v:Nat),(D.map (·.1)).Nodup→((updC D a v).map (·.1)).Nodup
 | [],a,v,_=>by simp [updC]
 | p :: D,a,v,h=>by
  rw [List.map_cons,List.nodup_cons] at h
  simp only [updC]
  split
  ·rename_i e
   rw [List.map_cons,List.nodup_cons]
   exact ⟨h.1,h.2⟩
  ·rename_i e
   rw [List.map_cons,List.nodup_cons]
   refine ⟨fun hm => ?_,updC_nodup D a v h.2⟩
   rcases (mem_updC D a v p.1).1 hm with h1 | h1
   ·exact e h1
   ·exact h.1 h1
theorem frs_ok {es:List (Nat × Tx)} {ns:List Nat} {len:Nat} (hns:∀ n ∈ ns,n<len):∀ m,m≤ns.length→((frs es ns m).map (·.1)).Nodup ∧ ∀ k ∈ (frs es ns m).map (·.1),k<len∧(find es k).isSome=false
 | 0,_=>⟨List.nodup_nil,fun k h=>by cases h⟩
 | m+1,hm=>by
  obtain ⟨h1,h2⟩:=frs_ok (es:=es) hns m (by omega)
  simp only [frs]
  split
  ·exact ⟨h1,h2⟩
  ·rename_i hs
   refine ⟨by rw [cnt];exact updC_nodup _ _ _ h1,fun k hk => ?_⟩
   rw [cnt,mem_updC] at hk
   rcases hk with rfl | hk
   ·have hg:ns.getD m 0=ns[m]:=by rw [List.getD_eq_getElem?_getD,List.getElem?_eq_getElem (by omega)];rfl
    exact ⟨by rw [hg];exact hns _ (List.getElem_mem _),by simpa using hs⟩
   ·exact h2 k hk
theorem fits_all_room {A:AD} {ns:List Nat} (hk:EsOK A.len A.es) (hr:A.len≤A.room) (hns:∀ n ∈ ns,n<A.len):A.fits ns=true:=by
 refine decide_eq_true (Or.inr ?_)
 obtain ⟨h1,h2⟩:=frs_ok (es:=A.es) hns ns.length (Nat.le_refl _)
 have hn:(A.es.map (·.1) ++ (frs A.es ns ns.length).map (·.1)).Nodup:=List.nodup_append.2 ⟨hk.nodup,h1,fun x hx y hy=>by
  rintro rfl
  have:=(h2 x hy).2
  rw [find_isSome.2 hx] at this;cases this⟩
 have hs:(A.es.map (·.1) ++ (frs A.es ns ns.length).map (·.1)) ⊆ List.range A.len:=fun k hk'=>by
  rw [List.mem_range]
  rcases List.mem_append.1 hk' with h | h
  ·obtain ⟨e,he,rfl⟩:=List.mem_map.1 h;exact hk.lt e he
  ·exact (h2 k h).1
 have:=List.Nodup.length_le_of_subset hn hs
 simp only [List.length_append,List.length_map,List.length_range] at this
 omega
def code (len:Nat) (ws:List Wr):Nat:=if ws.length=0 then 0 else if 60<ws.length then 3 else if mayP len [] ws=false then 2 else 0
variable {pk:List UInt8→List (List UInt8)} {unpk:List (List UInt8)→Option (List UInt8)}
theorem JD.code (F:FrameOK pk unpk) {A:AD} {a n:Nat} {us ws:List Wr} (J:JD pk A a n us) (hf:A.fuse=0) (hr:A.len≤A.room) (hws:∀ w ∈ ws,okT w.2):(A.commit pk a ws).2=Ev.code A.len ws:=by
 unfold AD.commit Ev.code
 rw [if_neg (by rw [J.off];exact Bool.false_ne_true)]
 by_cases h0:ws.length=0
 ·rw [if_pos h0,if_pos h0]
 rw [if_neg h0,if_neg h0]
 by_cases h6:60<ws.length
 ·rw [if_pos h6,if_pos h6]
 rw [if_neg h6,if_neg h6]
 by_cases hm:mayP A.len [] ws=false
 ·rw [if_pos hm,if_pos hm]
 rw [if_neg hm,if_neg hm]
 have hm:mayP A.len [] ws=true:=by simpa using hm
 have hgood:=(mayP_good hm).1
 have hrec:RecOK ws:=⟨by omega,fun w hw=>by have:=(hgood w hw).1.2.1;have:=J.rec_.can.hi;omega,fun w hw=>(hgood w hw).1.2.2,hws⟩
 have hnum:=F.num _ hrec.text
 have hlo:=J.rec_.can.lo
 rw [if_pos (fits_all_room J.keys hr fun n hn => ?_)]
 ·exact (runs_calm hf).1
 ·rcases List.mem_cons.1 hn with rfl | hn
  ·omega
  ·rw [List.map_append] at hn
   rcases List.mem_append.1 hn with h | h
   ·obtain ⟨w,hw,rfl⟩:=List.mem_map.1 h
    obtain ⟨i,hi,rfl⟩:=outs_mem hw
    show 1+(1-a) * 72+i<_
    have:(1-a)≤1:=by omega
    omega
   ·obtain ⟨w,hw,rfl⟩:=List.mem_map.1 h
    exact (hgood w hw).1.2.1
theorem JD.recovered {A:AD} {a n:Nat} {us:List Wr} (J:JD pk A a n us) (hf:A.fuse=0):(A.recover n us).2=0∧JD pk (A.recover n us).1 a n us∧(A.recover n us).1.fuse=0∧(A.recover n us).1.len=A.len∧(A.recover n us).1.room=A.room ∧ ∀ k,find (A.recover n us).1.es k=find A.es k:=by
 have hJ:=J
 obtain ⟨h1,h2,h3,⟨⟨k1,k2,k3,k4,k5,k6,k7⟩,k8⟩,h5⟩:=J
 unfold AD.recover
 rw [if_neg (by rw [h1];exact Bool.false_ne_true)]
 by_cases hn:n=0
 ·rw [if_pos hn];exact ⟨rfl,hJ,hf,rfl,rfl,fun _=>rfl⟩
 ·rw [if_neg hn]
  obtain ⟨r1,r2,r3,r4,r5,_⟩:=k8 hn
  obtain ⟨hgood,hnd⟩:=mayP_good r5
  obtain ⟨c1,c2⟩:=runs_calm (l:=[us]) hf
  obtain ⟨⟨g1,g2,g3,g4⟩,g5⟩:=runs_went (l:=[us]) (A:=A) (fun ws hws w hw=>by rw [List.mem_singleton.1 hws] at hw;exact r3.len w hw) c1
  have g5:=g5 (by simp)
  have g4:(A.runs [us]).1.es=laid A.es us:=by rw [g4];simp
  have hfd:∀ k,find (A.runs [us]).1.es k=find A.es k:=fun k=>by rw [g4];exact laid_same (h5 hn)
  generalize (A.runs [us]).1=B at c2 g1 g2 g3 g4 g5 hfd ⊢
  have hkB:EsOK B.len B.es:=by rw [g1,g4];exact h2.laid fun w hw=>(hgood w hw).1.2.1
  have hlen:=hkB.length
  refine ⟨c1,⟨g3.trans h1,hkB,g5,⟨⟨by omega,by omega,by omega,by rw [g5];simp,by rw [AD.read,hfd];exact k5,k6,k7⟩,fun _=>⟨r1,fun i hi=>by rw [AD.read,hfd];exact r2 i hi,r3,r4,by rw [g1];exact r5,roomy_some fun w hw=>by rw [hfd,h5 hn w hw];rfl⟩⟩,fun _ w hw=>(hfd _).trans (h5 hn w hw)⟩,c2,g1,g2,hfd⟩
end Go.Ev
end
section
namespace Go.Ev
theorem allOne_all {id:Nat} {k:R}:∀ {l:List V},(∀ v ∈ l,v.one=true)→allOne id l k=k
 | [],_=>rfl
 | v :: l,h=>by
  rw [allOne_cons,allOne_all fun v hv=>h v (List.mem_cons_of_mem _ hv)]
  have:=h v (List.mem_cons_self ..)
  cases v <;> first | rfl | (simp [V.one] at this)
def Gr (H G:Heap) (v:V) (size n:Nat) (row:List V):Prop:=row.length=n * size∧(∀ v ∈ row,v.one=true)∧((v = .nils∧n=0) ∨ ∃ b c s,v = .slice b 0 n c s∧0<n∧(c=n+1∨(c=0∧s=size))∧G.get b = .cells row∧H.n≤b∧b<G.n)
theorem Gr.nils {H G:Heap} {size:Nat}:Gr H G .nils size 0 []:=⟨by simp,fun v h=>(by cases h),Or.inl ⟨rfl,rfl⟩⟩
theorem Gr.fresh {H G G':Heap} {v:V} {size n:Nat} {row:List V} (h:Gr H G v size n row) (f:Fresh G G'):Gr H G' v size n row:=by
 obtain ⟨h1,h2,h | ⟨b,c,s,g1,g2,g3,g4,g5,g6⟩⟩:=h
 ·exact ⟨h1,h2,Or.inl h⟩
 ·exact ⟨h1,h2,Or.inr ⟨b,c,s,g1,g2,g3,(f.same b g6).trans g4,g5,Nat.lt_of_lt_of_le g6 f.n⟩⟩
theorem Gr.sn {H G:Heap} {v:V} {size n:Nat} {row:List V} (h:Gr H G v size n row) {id:Nat} {f:Nat→R}:vSliceN id v (fun _ _ len _ _=>f len) (f 0)=f n:=by
 obtain ⟨h1,h2,⟨rfl,rfl⟩ | ⟨b,c,s,rfl,_⟩⟩:=h <;> rfl
theorem Gr.one {H G:Heap} {v:V} {size n:Nat} {row:List V} (h:Gr H G v size n row):v.one=true:=by
 obtain ⟨h1,h2,⟨rfl,rfl⟩ | ⟨b,c,s,rfl,_⟩⟩:=h <;> rfl
theorem is1_of {v:V} (h:v.one=true) {id:Nat} {k:R}:isOne id v k=k:=by
 revert h;cases v <;> intro h <;> first | rfl | cases h
def Off (v:V) (j:Nat):Prop:=∀ b o n c s,v = .slice b o n c s→j≠b
theorem Gr.app {H G:Heap} {v:V} {size n X cx sx:Nat} {row new:List V} (f:Fresh H G) (h:Gr H G v size n row) (hX:G.get X = .cells new) (hl:new.length=size) (hone:∀ v ∈ new,v.one=true) (hb:n<1000000) :
  ∃ v' G',(∀ {id:Nat} {ph:Phi} {e:Env} {k:K} {a x:Arg},pgetA a e=v→pgetA x e = .slice X 0 1 cx sx→evOp (.app false size a x) id ph e G k=k v' G')∧Gr H G' v' size (n+1) (row ++ new)∧Fresh H G'∧(∀ j,j<G.n→Off v j→G'.get j=G.get j)∧G.n<G'.n ∧ ∀ j,j<G.n→Off v' j:=by
 have hw:=f.wf
 have hld:∀ {id:Nat} {g:List V→R},rdN id G X 0 (1 * size) g=g new:=fun {id g}=>by
  rw [rdN_on,hX,rdNB_cells,dropN_eq (Nat.zero_le _),takeN_eq (by simp [hl])]
  rw [List.drop_zero,Nat.one_mul,List.take_of_length_le (by omega)]
 obtain ⟨h1,h2,⟨rfl,rfl⟩ | ⟨b,c,s,rfl,g2,g3,g4,g5,g6⟩⟩:=h
 ·have hr:row=[]:=List.eq_nil_of_length_eq_zero (by omega)
  subst hr
  refine ⟨.slice G.n 0 1 0 size,G.new (.cells new),fun {id ph e k a x} ha hx => ?_,⟨by simp [hl],by simpa using hone,Or.inr ⟨G.n,0,size,rfl,by omega,Or.inr ⟨rfl,rfl⟩, ?_,f.n,by rw [Heap.n_new];omega⟩⟩,f.trans (Fresh.new hw),fun j hj _ => ?_,by rw [Heap.n_new];omega,fun j hj b o n c s he => ?_⟩
  ·rw [op_app,ha,hx,newCells_slice,if_neg (by omega),hld]
   rw [vSliceN_nils,if_neg (by omega),allOne_all hone,if_pos (by omega),hNew_new hw]
  ·rw [Heap.get_new hw,if_pos rfl];rfl
  ·rw [Heap.get_new hw,if_neg (by omega)]
  ·cases he;omega
 ·have hlr:∀ {id:Nat} {g:List V→R},loadN id G b 0 (n * size) g=g row:=fun {id g}=>by
   rw [loadN_on,g4,bOn_cells,dropN_eq (Nat.zero_le _),takeN_eq (by simp [h1])]
   rw [List.drop_zero,List.take_of_length_le (by omega)]
  have hlen:(row ++ new).length=(n+1) * size:=by rw [List.length_append,h1,hl,Nat.add_mul,Nat.one_mul]
  have hon:∀ v ∈ row ++ new,v.one=true:=fun v hv=>(List.mem_append.1 hv).elim (h2 v) (hone v)
  rcases g3 with rfl | ⟨rfl,rfl⟩
  ·refine ⟨.slice G.n 0 (n+1) 0 size,G.new (.cells (row ++ new)),fun {id ph e k a x} ha hx => ?_,⟨hlen,hon,Or.inr ⟨G.n,0,size,rfl,by omega,Or.inr ⟨rfl,rfl⟩, ?_,f.n,by rw [Heap.n_new];omega⟩⟩,f.trans (Fresh.new hw),fun j hj _ => ?_,by rw [Heap.n_new];omega,fun j hj b o n c s he => ?_⟩
   ·rw [op_app,ha,hx,newCells_slice,if_neg (by omega),hld]
    rw [vSliceN_slice,if_neg (by omega),appC_grow (by omega),allOne_all hone,if_pos (by omega),hlr,allOne_all h2,hNew_new hw]
   ·rw [Heap.get_new hw,if_pos rfl]
   ·rw [Heap.get_new hw,if_neg (by omega)]
   ·cases he;omega
  ·have hw2:(G.put b .dead).wf:=by rw [Heap.wf_put];exact hw
   refine ⟨.slice G.n 0 (n+1) 0 s,(G.put b .dead).new (.cells (row ++ new)),fun {id ph e k a x} ha hx => ?_,⟨hlen,hon,Or.inr ⟨G.n,0,s,rfl,by omega,Or.inr ⟨rfl,rfl⟩, ?_,f.n,by rw [Heap.n_new,Heap.n_put];omega⟩⟩,(f.put g5 g6).trans (Fresh.new hw2),fun j hj ho => ?_,by rw [Heap.n_new,Heap.n_put];omega,fun j hj b o n c s he => ?_⟩
   ·rw [op_app,ha,hx,newCells_slice,if_neg (by omega),hld]
    rw [vSliceN_slice,if_neg (by omega),appC_move,allOne_all hone,if_pos (by omega),g4,bOn_cells,if_pos h1,hSet_put hw g6,hNew_new hw2,Heap.n_put]
   ·rw [Heap.get_new hw2,if_pos (by rw [Heap.n_put])]
   ·rw [Heap.get_new hw2,if_neg (by rw [Heap.n_put];omega),Heap.get_put hw g6,if_neg (ho _ _ _ _ _ rfl)]
   ·cases he;omega
section
variable {id:Nat} {ph:Phi} {e:Env} {H:Heap} {k:K}
theorem isB_tup {l:List V} {b:Bool} {t f:R}:isB (.tup l) b t f=f:=Eq.trans rfl rfl
theorem eqCs_nil {f:Bool→R}:eqCs id [] [] [] f=f true:=Eq.trans rfl rfl
theorem eqCs_int {q a b:Nat} {cls:List Nat} {l m:List V} {f:Bool→R}:eqCs id (1 :: cls) (.int q a :: l) (.int q b :: m) f=if a=b then eqCs id cls l m f else f false:=by
 show ifB (Nat.beq q q) (ifB (Nat.beq a b) (eqCs id cls l m f) (f false)) (no 0)=_
 simp only [ifB_if,nbeq,if_true]
theorem op_aggEq {cls:List Nat} {neg:Bool} {x y:Arg}:evOp (.aggEq cls neg x y) id ph e H k=vAgg id (pgetA x e) fun l=>vAgg id (pgetA y e) fun m=>if l.length=cls.length∧m.length=cls.length then eqCs id cls l m fun b=>k (.bool (if b=true then !neg else neg)) H else no 0:=by
 show getA x e (fun x=>vAgg id x fun l=>getA y e fun y=>vAgg id y fun m=>ifB (Nat.beq (lenL l) (lenNs cls)) (ifB (Nat.beq (lenL m) (lenNs cls)) (eqCs id cls l m fun b=>ifB b (ifB neg (k (.bool false) H) (k (.bool true) H)) (k (.bool neg) H)) (no 0)) (no 0))=_
 rw [getA_eq]
 congr 1
 funext l
 rw [getA_eq]
 congr 1
 funext m
 have hb:(fun b=>ifB b (ifB neg (k (.bool false) H) (k (.bool true) H)) (k (.bool neg) H))=fun b=>k (.bool (if b=true then !neg else neg)) H:=by
  funext b;cases b <;> cases neg <;> rfl
 rw [hb]
 simp only [ifB_if,nbeq,lenL_eq,lenNs_eq]
 by_cases h1:l.length=cls.length
 ·by_cases h2:m.length=cls.length
  ·simp only [h1,h2,if_true,and_self]
  ·simp only [h1,h2,if_true,if_false,and_false]
 ·simp only [h1,if_false,false_and]
theorem retF_cellA {s:Slot} {n:Nat}:retF [.cellA s n] k e H=vPtr 0 (pget s e) fun b o=>loadN 0 H b o n fun l=>k (.agg l) H:=by
 show getS s e (fun v=>vPtr 0 v fun b o=>loadN 0 H b o n fun l=>k (.agg l) H)=_
 rw [getS_eq]
theorem retF_read {s s' s2:Slot} {n:Nat}:retF [.cellA s n, .cell1 s', .cell1 s2] k e H=vPtr 0 (pget s e) fun b o=>loadN 0 H b o n fun l=>vPtr 0 (pget s' e) fun b1 o1=>loadC 0 H b1 o1 fun v=>vPtr 0 (pget s2 e) fun b2 o2=>loadC 0 H b2 o2 fun u=>k (.tup [.agg l,v,u]) H:=by
 show getS s e (fun v=>vPtr 0 v fun b o=>loadN 0 H b o n fun l=>getS s' e fun v=>vPtr 0 v fun b1 o1=>loadC 0 H b1 o1 fun v=>getS s2 e fun v2=>vPtr 0 v2 fun b2 o2=>loadC 0 H b2 o2 fun u=>k (.tup [.agg l,v,u]) H)=_
 simp only [getS_eq]
end
end Go.Ev
end
section
namespace Go.Ev
abbrev Ent:=Nat × Nat × Nat × Nat
def encEnt1 (e:Ent):List V:=[.int 7 e.1, .int 3 e.2.1, .int 7 e.2.2.1, .int 7 e.2.2.2]
def encEnt (es:List Ent):List V:=es.flatMap encEnt1
def okE (e:Ent):Prop:=e.1<18446744073709551616∧e.2.1<18446744073709551616∧e.2.2.1<18446744073709551616∧e.2.2.2<18446744073709551616
structure EsRow (row:List V) (o:Nat) (es:List Ent):Prop where
 t:∀ i e,es[i]? = some e→row[o+i * 4]? = some (.int 7 e.1)
 k:∀ i e,es[i]? = some e→row[o+i * 4+1]? = some (.int 3 e.2.1)
 e:∀ i e,es[i]? = some e→row[o+i * 4+2]? = some (.int 7 e.2.2.1)
 c:∀ i e,es[i]? = some e→row[o+i * 4+3]? = some (.int 7 e.2.2.2)
 ok:∀ e ∈ es,okE e
def LogAt (H:Heap) (v:V) (es:List Ent) (O:Nat→Prop):Prop:=(NoneV v∧es=[]) ∨ ∃ b o c s row,v = .slice b o es.length c s∧isRow (H.get b) row∧b<H.n ∧ ¬ O b∧EsRow row o es
theorem LogAt.keep {H H':Heap} {v:V} {es:List Ent} {O O':Nat→Prop} (h:LogAt H v es O) (s:Step H O H' O'):LogAt H' v es O':=by
 rcases h with h | ⟨b,o,c,z,row,h1,h2,h3,h4,h5⟩
 ·exact Or.inl h
 ·exact Or.inr ⟨b,o,c,z,row,h1,by rw [(s.same b h3 h4).1];exact h2,Nat.lt_of_lt_of_le h3 s.n,(s.same b h3 h4).2,h5⟩
theorem LogAt.fresh {H H':Heap} {v:V} {es:List Ent} {O:Nat→Prop} (h:LogAt H v es O) (s:Fresh H H'):LogAt H' v es O:=h.keep s.step
theorem LogAt.one {H:Heap} {v:V} {es:List Ent} {O:Nat→Prop} (h:LogAt H v es O):v.one=true:=by
 rcases h with ⟨rfl | ⟨_,_,_,_,rfl⟩,_⟩ | ⟨_,_,_,_,_,rfl,_⟩ <;> rfl
theorem LogAt.is1 {H:Heap} {v:V} {es:List Ent} {O:Nat→Prop} (h:LogAt H v es O) {id:Nat} {k:R}:isOne id v k=k:=by
 have h:=h.one
 revert h;cases v <;> intro h <;> first | rfl | cases h
theorem LogAt.sn {H:Heap} {v:V} {es:List Ent} {O:Nat→Prop} (h:LogAt H v es O) {id:Nat} {f:Nat→R}:vSliceN id v (fun _ _ len _ _=>f len) (f 0)=f es.length:=by
 rcases h with ⟨rfl | ⟨_,_,_,_,rfl⟩,rfl⟩ | ⟨_,_,_,_,_,rfl,_⟩ <;> rfl
theorem LogAt.ok {H:Heap} {v:V} {es:List Ent} {O:Nat→Prop} (h:LogAt H v es O):∀ e ∈ es,okE e:=by
 rcases h with ⟨_,rfl⟩ | ⟨_,_,_,_,_,_,_,_,_,h⟩
 ·intro e h;cases h
 ·exact h.ok
def nums (l:List Nat):List UInt8:=l.flatMap pnum
def sec (l:List Nat):List UInt8:=nums l ++ List.replicate (32-(nums l).length) 0
theorem nums_append (a b:List Nat):nums (a ++ b)=nums a ++ nums b:=by simp only [nums,List.flatMap_append]
theorem nums_length:∀ l:List Nat,(nums l).length≤l.length * 9
 | []=>Nat.zero_le _
 | n :: l=>by
  have h1:=pnum_length n
  have h2:=nums_length l
  have:nums (n :: l)=pnum n ++ nums l:=rfl
  rw [this]
  simp only [List.length_append,List.length_cons]
  omega
theorem sec_length {l:List Nat} (h:(nums l).length≤32):(sec l).length=32:=by
 simp only [sec,List.length_append,List.length_replicate];omega
section
variable {cp:RC→CodeE} {t:Nat→Option FnE} {fuel:Nat} {H:Heap}
theorem ksector_loop (T:TCode t) {b c s n:Nat} {all:List Nat} (hfu:8<fuel) (hb:H.get b = .cells (all.map (V.int 7))) (hbn:b<H.n) (hn:n=all.length) (hnb:n<100) (hall:∀ x ∈ all,x<18446744073709551616) :
  ∀ (l pre:List Nat) (G:Heap),all=pre ++ l→Fresh H G →
  ∃ G',Fresh H G' ∧ ∀ (d:Nat) (kx:Nat→KE) (r:Nat) (e:Env),l.length<r→pget ⟨.i0, .i0, .i3⟩ e=tv (nums pre)→pget ⟨.i0, .i0, .i6⟩ e = .slice b 0 n c s→pget ⟨.i0, .i0, .i7⟩ e = .int 3 n→pget ⟨.i0, .i1, .i0⟩ e = .int 3 pre.length →
   ∀ x:R,(∀ e',pget ⟨.i0, .i0, .i3⟩ e'=tv (nums all)→kx 1 e' G'=x) →
   evL c52l0 fuel (evP cp t fuel (d+2)) kx r e G=x:=by
 intro l
 induction l with
 | nil=>
  intro pre G hal f
  refine ⟨G,f,fun d kx r e hr h3 h6 h7 h10 x hT => ?_⟩
  obtain ⟨r,rfl⟩:∃ q,r=q+1:=⟨r-1,by simp only [List.length_nil] at hr;omega⟩
  rw [List.append_nil] at hal
  subst hal
  have e1:¬ n<n:=by omega
  have e2:nn n:=by unfold nn;omega
  rw [← hn] at h10
  rw [evL_succ]
  simp only [go_sem,↓op_app,reduceCtorEq,Nat.reduceAdd,Nat.reduceSub,Nat.reduceMul,Nat.reduceEqDiff,Nat.reduceLT,Nat.reduceDiv,Nat.reduceMod,Nat.reduceLeDiff,↓reduceIte,c52l0,h3,h6,h7,h10,e1,e2]
  exact hT _ (by simp only [go_sem,reduceCtorEq,↓reduceIte,h3])
 | cons m l ih=>
  intro pre G hal f
  have hw:=f.wf
  have hlt:pre.length<n:=by rw [hn,hal];simp only [List.length_append,List.length_cons];omega
  have e1:nn pre.length:=by unfold nn;omega
  have e2:nn n:=by unfold nn;omega
  have e3:pre.length<9223372036854775808:=by omega
  have e9:(pre.length+1) % 18446744073709551616=pre.length+1:=by omega
  have hbG:G.get b = .cells (all.map (V.int 7)):=(f.same b hbn).trans hb
  have hm:(all.map (V.int 7))[pre.length]? = some (.int 7 m):=by rw [hal];simp
  have hrd:∀ {id:Nat} {k:V→R},nth id (all.map (V.int 7)) pre.length k=k (.int 7 m):=nth_get hm
  have hpl:=nums_length pre
  obtain ⟨G1,z1,f1⟩:=putNum_call (H:=G) (cp:=cp) (fuel:=fuel) T (a:=nums pre) (n:=m) hw (by omega) (hall m (by rw [hal];simp)) hfu
  obtain ⟨G',f',hG'⟩:=ih (pre ++ [m]) G1 (by rw [hal];simp) (f.trans f1)
  have hnm:nums pre ++ pnum m=nums (pre ++ [m]):=by rw [nums_append];simp [nums]
  refine ⟨G',f',fun d kx r e hr h3 h6 h7 h10 x hT => ?_⟩
  obtain ⟨r,rfl⟩:∃ q,r=q+1:=⟨r-1,by omega⟩
  have z1':=fun {d:Nat} {k:K}=>z1 d k
  rw [hnm] at z1'
  rw [evL_succ]
  simp only [go_sem,↓op_app,reduceCtorEq,Nat.reduceAdd,Nat.reduceSub,Nat.reduceMul,Nat.reduceEqDiff,Nat.reduceLT,Nat.reduceDiv,Nat.reduceMod,Nat.reduceLeDiff,↓reduceIte,c52l0,h3,h6,h7,h10,hlt,e1,e2,e3,e9,hbG,hrd,z1']
  refine hG' d kx r _ (by simp only [List.length_cons] at hr;omega) ?_ ?_ ?_ ?_ x hT
  ·simp only [go_sem,reduceCtorEq,↓reduceIte]
  ·simp only [go_sem,reduceCtorEq,↓reduceIte,h6]
  ·simp only [go_sem,reduceCtorEq,↓reduceIte,h7]
  ·simp only [go_sem,↓op_app,reduceCtorEq,Nat.reduceAdd,Nat.reduceSub,Nat.reduceMul,Nat.reduceEqDiff,Nat.reduceLT,Nat.reduceDiv,Nat.reduceMod,Nat.reduceLeDiff,↓reduceIte,List.length_append]
theorem ksector_call (T:TCode t) {b c s n:Nat} {all:List Nat} (hw:H.wf) (hb:H.get b = .cells (all.map (V.int 7))) (hbn:b<H.n) (hn:n=all.length) (hnb:n<100) (hall:∀ x ∈ all,x<18446744073709551616) (h32:(nums all).length≤32) (hfu:100<fuel) :
  ∃ H',(∀ (d:Nat) (k:K),callP (evP cp t fuel (d+3)) (.func 104 []) [.slice b 0 n c s] H k=k (tv (sec all)) H')∧Fresh H H':=by
 obtain ⟨H2,f2,hL⟩:=ksector_loop (cp:=cp) (fuel:=fuel) (c:=c) (s:=s) T (by omega) hb hbn hn hnb hall all [] H rfl (Fresh.refl hw)
 refine ⟨H2.new (.bytes (32-(nums all).length) 0),fun d k => ?_,f2.trans (Fresh.new f2.wf)⟩
 have e9:n<9223372036854775808:=by omega
 rw [call_entry T.k52 rfl rfl]
 simp only [go_sem,↓op_app,reduceCtorEq,Nat.reduceAdd,Nat.reduceSub,Nat.reduceMul,Nat.reduceEqDiff,Nat.reduceLT,Nat.reduceDiv,Nat.reduceMod,Nat.reduceLeDiff,↓reduceIte,c52,e9]
 refine hL d _ fuel _ (by omega) ?_ ?_ ?_ ?_ _ (fun e' h3 => ?_)
 ·simp only [go_sem,reduceCtorEq,↓reduceIte];rfl
 ·simp only [go_sem,reduceCtorEq,↓reduceIte]
 ·simp only [go_sem,reduceCtorEq,↓reduceIte]
 ·simp only [go_sem,↓op_app,reduceCtorEq,Nat.reduceAdd,Nat.reduceSub,Nat.reduceMul,Nat.reduceEqDiff,Nat.reduceLT,Nat.reduceDiv,Nat.reduceMod,Nat.reduceLeDiff,↓reduceIte,List.length_nil]
 unfold sec
 rw [← tv_append,enc_zeros,Nat.zero_mul,Nat.add_zero,List.length_replicate]
 rw [show tv (nums all) = .str (nums all).length (enc (nums all)) from rfl] at h3
 generalize nums all=s at h3 h32 ⊢
 have e4:s.length<9223372036854775808:=by omega
 have e5:(32+(18446744073709551616-s.length)) % 18446744073709551616=32-s.length:=by omega
 have e6:32-s.length≤16777216:=by omega
 have e7:s.length+(32-s.length)<9223372036854775808:=by omega
 have hw2:=f2.wf
 simp only [go_sem,↓op_app,reduceCtorEq,Nat.reduceAdd,Nat.reduceSub,Nat.reduceMul,Nat.reduceEqDiff,Nat.reduceLT,Nat.reduceDiv,Nat.reduceMod,Nat.reduceLeDiff,↓reduceIte,h3,e4,e5,e6,e7,hw2]
def hdT (term voted n:Nat):List UInt8:=sec [term,(voted+1) % 18446744073709551616,n]
def enT (e:Ent):List UInt8:=sec [e.1,e.2.1,e.2.2.1,e.2.2.2]
theorem hd32 (a b c:Nat):(nums [a,b,c]).length≤32:=by
 have:=nums_length [a,b,c]
 simp only [List.length_cons,List.length_nil] at this
 omega
theorem en32 {a b c d:Nat} (h:b<128):(nums [a,b,c,d]).length≤32:=by
 have h1:=pnum_length a
 have h2:=pnum_len 1 b (by omega)
 have h3:=pnum_length c
 have h4:=pnum_length d
 have:nums [a,b,c,d]=pnum a ++ (pnum b ++ (pnum c ++ (pnum d ++ []))):=rfl
 rw [this]
 simp only [List.length_append,List.length_nil]
 omega
theorem khead_call (T:TCode t) {term voted:Nat} {v:V} {es:List Ent} {O:Nat→Prop} (hw:H.wf) (ht:term<18446744073709551616) (hv:voted<18446744073709551616) (hl:LogAt H v es O) (hn:es.length<9223372036854775808) (hfu:100<fuel) :
  ∃ H',(∀ (d:Nat) (k:K),callP (evP cp t fuel (d+4)) (.func 62 []) [.agg [.int 7 term, .int 3 voted,v]] H k=k (tv (hdT term voted es.length)) H')∧Fresh H H':=by
 have f1:Fresh H ((H.new (.cells [.int 7 term, .int 3 voted,v])).new (.cells [.int 7 term, .int 7 ((voted+1) % 18446744073709551616), .int 7 es.length])):=(Fresh.new hw).trans (Fresh.new (by rw [Heap.wf_new];exact hw))
 obtain ⟨H2,z2,f2⟩:=ksector_call (cp:=cp) (fuel:=fuel) (b:=H.n+1) (c:=4) (s:=0) (n:=3) (all:=[term,(voted+1) % 18446744073709551616,es.length]) T f1.wf (by rw [Heap.get_new (by rw [Heap.wf_new];exact hw),if_pos (by rw [Heap.n_new])];rfl) (by simp only [Heap.n_new];omega) rfl (by omega) (fun x hx=>by simp only [List.mem_cons,List.not_mem_nil,or_false] at hx;rcases hx with rfl | rfl | rfl <;> omega) (hd32 _ _ _) hfu
 refine ⟨H2,fun d k => ?_,f1.trans f2⟩
 have hs:=fun {id:Nat} {f:Nat→R}=>hl.sn (id:=id) (f:=f)
 have hi:=fun {id:Nat} {k:R}=>hl.is1 (id:=id) (k:=k)
 have e1:es.length % 18446744073709551616=es.length:=by omega
 have z2':=fun {d:Nat} {k:K}=>z2 d k
 rw [call_entry T.k31 rfl rfl]
 simp only [go_sem,↓op_app,reduceCtorEq,Nat.reduceAdd,Nat.reduceSub,Nat.reduceMul,Nat.reduceEqDiff,Nat.reduceLT,Nat.reduceDiv,Nat.reduceMod,Nat.reduceLeDiff,↓reduceIte,c31,hw,hi,↓hs,hn,e1,Nat.mod_mod,z2']
 rfl
theorem kentry_call (T:TCode t) {e:Ent} (hw:H.wf) (he:okE e) (hk:e.2.1<128) (hfu:100<fuel) :
  ∃ H',(∀ (d:Nat) (k:K),callP (evP cp t fuel (d+4)) (.func 66 []) [.agg (encEnt1 e)] H k=k (tv (enT e)) H')∧Fresh H H':=by
 obtain ⟨a,b,c,g⟩:=e
 obtain ⟨h1,h2,h3,h4⟩:=he
 simp only at h1 h2 h3 h4 hk
 have f1:Fresh H ((H.new (.cells [.int 7 a, .int 3 b, .int 7 c, .int 7 g])).new (.cells [.int 7 a, .int 7 b, .int 7 c, .int 7 g])):=(Fresh.new hw).trans (Fresh.new (by rw [Heap.wf_new];exact hw))
 obtain ⟨H2,z2,f2⟩:=ksector_call (cp:=cp) (fuel:=fuel) (b:=H.n+1) (c:=5) (s:=0) (n:=4) (all:=[a,b,c,g]) T f1.wf (by rw [Heap.get_new (by rw [Heap.wf_new];exact hw),if_pos (by rw [Heap.n_new])];rfl) (by simp only [Heap.n_new];omega) rfl (by omega) (fun x hx=>by simp only [List.mem_cons,List.not_mem_nil,or_false] at hx;rcases hx with rfl | rfl | rfl | rfl <;> omega) (en32 hk) hfu
 refine ⟨H2,fun d k => ?_,f1.trans f2⟩
 have e1:b % 18446744073709551616=b:=by omega
 have z2':=fun {d:Nat} {k:K}=>z2 d k
 rw [call_entry T.k33 rfl rfl]
 simp only [go_sem,↓op_app,reduceCtorEq,Nat.reduceAdd,Nat.reduceSub,Nat.reduceMul,Nat.reduceEqDiff,Nat.reduceLT,Nat.reduceDiv,Nat.reduceMod,Nat.reduceLeDiff,↓reduceIte,c33,encEnt1,hw,e1,z2']
 rfl
end
end Go.Ev
end
section
namespace Go.Ev
theorem row_four {bl:Blk} {row:List V} {j:Nat} {a b c g:V} (h:isRow bl row) (h0:row[j]? = some a) (h1:row[j+1]? = some b) (h2:row[j+2]? = some c) (h3:row[j+3]? = some g) (o0:a.one=true) (o1:b.one=true) (o2:c.one=true) (o3:g.one=true) {id:Nat} {k:List V→R}:rdNB id bl j 4 k=k [a,b,c,g]:=by
 have hlt:j+3<row.length:=(List.getElem?_eq_some_iff.1 h3).1
 have hd:(row.drop j).take 4=[a,b,c,g]:=by
  refine List.ext_getElem? fun i => ?_
  rw [List.getElem?_take]
  by_cases hi:i<4
  ·rw [if_pos hi,List.getElem?_drop]
   match i,hi with
   | 0,_=>exact h0
   | 1,_=>exact h1
   | 2,_=>exact h2
   | 3,_=>exact h3
  ·rw [if_neg hi,List.getElem?_eq_none (by simp only [List.length_cons,List.length_nil];omega)]
 rcases h with rfl | rfl
 ·rw [rdNB_cells,dropN_eq (by omega),takeN_eq (by rw [List.length_drop];omega),hd]
 ·rw [rdNB_view,dropN_eq (by omega),takeN_eq (by rw [List.length_drop];omega),hd,allOne_cons,allOne_cons,allOne_cons,allOne_cons,is1_of o0,is1_of o1,is1_of o2,is1_of o3]
  rfl
theorem EsRow.four {bl:Blk} {row:List V} {o i:Nat} {es:List Ent} {e:Ent} (h:EsRow row o es) (hb:isRow bl row) (he:es[i]? = some e) {id:Nat} {k:List V→R}:rdNB id bl (o+i * 4) 4 k=k (encEnt1 e):=
 row_four hb (h.t i e he) (h.k i e he) (h.e i e he) (h.c i e he) rfl rfl rfl rfl
theorem take_step' {α β : Type} {l:List α} {i:Nat} {x : α} (f : α → β) (h:l[i]? = some x):(l.take (i+1)).map f=(l.take i).map f ++ [f x]:=by
 obtain ⟨hi,rfl⟩:=List.getElem?_eq_some_iff.1 h
 rw [List.take_succ_eq_append_getElem hi,List.map_append];rfl
def secs (h0:List UInt8) (es:List Ent):List V:=tv h0 :: es.map fun e=>tv (enT e)
section
variable {cp:RC→CodeE} {t:Nat→Option FnE} {fuel:Nat} {H:Heap}
set_option maxHeartbeats 1000000 in
theorem sectors_loop (T:TCode t) {v:V} {es:List Ent} {O:Nat→Prop} {h0:List UInt8} (hl:LogAt H v es O) (hn:es.length<100000) (hk:∀ e ∈ es,e.2.1<128) (hfu:100<fuel) :
  ∀ (m i:Nat) (G:Heap) (vg:V),i+m=es.length→Fresh H G→Gr H G vg 1 (1+i) (secs h0 (es.take i)) →
  ∃ G' vg',Fresh H G'∧Gr H G' vg' 1 (1+es.length) (secs h0 es) ∧ ∀ (d:Nat) (kx:Nat→KE) (r:Nat) (e:Env),m<r→pget ⟨.i0, .i0, .i3⟩ e=vg→pget ⟨.i0, .i1, .i2⟩ e=v→pget ⟨.i0, .i1, .i3⟩ e = .int 3 es.length→pget ⟨.i0, .i1, .i4⟩ e = .int 3 i →
   ∀ x:R,(∀ e',pget ⟨.i0, .i0, .i3⟩ e'=vg'→kx 1 e' G'=x) →
   evL c17l0 fuel (evP cp t fuel (d+4)) kx r e G=x:=by
 intro m
 induction m with
 | zero=>
  intro i G vg hi f hg
  obtain rfl:i=es.length:=by omega
  rw [List.take_length] at hg
  refine ⟨G,vg,f,hg,fun d kx r e hr h3 h12 h13 h14 x hT => ?_⟩
  obtain ⟨r,rfl⟩:∃ q,r=q+1:=⟨r-1,by omega⟩
  have e1:¬ es.length<es.length:=by omega
  have e2:nn es.length:=by unfold nn;omega
  rw [evL_succ]
  simp only [go_sem,↓op_app,reduceCtorEq,Nat.reduceAdd,Nat.reduceSub,Nat.reduceMul,Nat.reduceEqDiff,Nat.reduceLT,Nat.reduceDiv,Nat.reduceMod,Nat.reduceLeDiff,↓reduceIte,c17l0,h3,h12,h13,h14,e1,e2]
  exact hT _ (by simp only [go_sem,reduceCtorEq,↓reduceIte,h3])
 | succ m ih=>
  intro i G vg hi f hg
  have hw:=f.wf
  have hlt:i<es.length:=by omega
  have hget:es[i]? = some es[i]:=List.getElem?_eq_getElem hlt
  generalize es[i]=en at hget
  rcases hl with ⟨_,rfl⟩ | ⟨b,o,c,s,row,rfl,hb,hbn,hbO,hrow⟩
  ·simp at hlt
  have hmem:=List.mem_of_getElem? hget
  have e1:nn i:=by unfold nn;omega
  have e2:nn es.length:=by unfold nn;omega
  have e3:i<9223372036854775808:=by omega
  have e9:(i+1) % 18446744073709551616=i+1:=by omega
  have hbG:isRow (G.get b) row:=by rw [f.same b hbn];exact hb
  have hrd:∀ {id:Nat} {k:List V→R},rdNB id (G.get b) (o+i * 4) 4 k=k (encEnt1 en):=fun {id k}=>hrow.four hbG hget
  have e8:G.n<G.n+1:=by omega
  generalize hG1:(G.new (.cells [.int 7 0, .int 3 0, .int 7 0, .int 7 0])).put G.n (.cells (encEnt1 en))=G1
  have f1:Fresh G G1:=by rw [← hG1];exact Fresh.put (Fresh.new hw) (Nat.le_refl _) (by rw [Heap.n_new];omega)
  have g1:G1.get G.n = .cells (encEnt1 en):=by rw [← hG1,Heap.get_put (by rw [Heap.wf_new];exact hw) (by rw [Heap.n_new];omega),if_pos rfl]
  obtain ⟨G2,z2,f2⟩:=kentry_call (cp:=cp) (fuel:=fuel) (e:=en) T f1.wf (hrow.ok en hmem) (hk en hmem) hfu
  have f3:Fresh G2 (G2.new (.cells [tv (enT en)])):=Fresh.new f2.wf
  have g3:(G2.new (.cells [tv (enT en)])).get G2.n = .cells [tv (enT en)]:=by rw [Heap.get_new f2.wf,if_pos rfl]
  have f13:=(f1.trans f2).trans f3
  obtain ⟨v',G4,hop,hg4,f4,_,_,_⟩:=Gr.app (cx:=2) (sx:=0) (f.trans f13) (hg.fresh f13) g3 rfl (by simp [tv,V.one]) (by omega)
  have hs:secs h0 (es.take i) ++ [tv (enT en)]=secs h0 (es.take (i+1)):=by
   unfold secs
   rw [take_step' (fun e=>tv (enT e)) hget];rfl
  rw [hs] at hg4
  obtain ⟨G',vg',f',hg',hL⟩:=ih (i+1) G4 v' (by omega) f4 (by rw [show 1+(i+1)=1+i+1 by omega];exact hg4)
  refine ⟨G',vg',f',hg',fun d kx r e hr h3 h12 h13 h14 x hT => ?_⟩
  obtain ⟨r,rfl⟩:∃ q,r=q+1:=⟨r-1,by omega⟩
  have z2':=fun {d:Nat} {k:K}=>z2 d k
  have hw2:=f2.wf
  simp only [tv] at z2'
  simp only [tv] at hop
  simp only [encEnt1] at hG1 g1 z2' hrd
  rw [evL_succ]
  simp only [go_sem,reduceCtorEq,Nat.reduceAdd,Nat.reduceSub,Nat.reduceMul,Nat.reduceEqDiff,Nat.reduceLT,Nat.reduceDiv,Nat.reduceMod,Nat.reduceLeDiff,↓reduceIte,c17l0,h3,h12,h13,h14,hlt,e1,e2,e3,e8,e9,hrd,hw,hG1,g1,z2',hw2,↓hop]
  refine hL d kx r _ (by omega) ?_ ?_ ?_ ?_ x hT
  ·simp only [go_sem,reduceCtorEq,↓reduceIte]
  ·simp only [go_sem,reduceCtorEq,↓reduceIte,h12]
  ·simp only [go_sem,reduceCtorEq,↓reduceIte,h13]
  ·simp only [go_sem,reduceCtorEq,↓reduceIte]
theorem sectors_call (T:TCode t) {term voted:Nat} {v:V} {es:List Ent} {O:Nat→Prop} (hw:H.wf) (ht:term<18446744073709551616) (hv:voted<18446744073709551616) (hl:LogAt H v es O) (hn:es.length<100000) (hk:∀ e ∈ es,e.2.1<128) (hfu:100000<fuel) :
  ∃ H' v',(∀ (d:Nat) (k:K),callP (evP cp t fuel (d+5)) (.func 34 []) [.agg [.int 7 term, .int 3 voted,v]] H k=k v' H')∧Fresh H H'∧Gr H H' v' 1 (1+es.length) (secs (hdT term voted es.length) es):=by
 have f1:Fresh H (H.new (.cells [.int 7 term, .int 3 voted,v])):=Fresh.new hw
 have g1:(H.new (.cells [.int 7 term, .int 3 voted,v])).get H.n = .cells [.int 7 term, .int 3 voted,v]:=by rw [Heap.get_new hw,if_pos rfl]
 have n1:H.n < (H.new (.cells [.int 7 term, .int 3 voted,v])).n:=by rw [Heap.n_new];omega
 generalize hG1:H.new (.cells [.int 7 term, .int 3 voted,v])=G1 at f1 g1 n1
 obtain ⟨H2,z2,f2⟩:=khead_call (cp:=cp) (fuel:=fuel) T f1.wf ht hv (hl.fresh f1) (by omega) (by omega)
 have f3:Fresh H2 (H2.new (.cells [tv (hdT term voted es.length)])):=Fresh.new f2.wf
 have g3:(H2.new (.cells [tv (hdT term voted es.length)])).get H2.n = .cells [tv (hdT term voted es.length)]:=by rw [Heap.get_new f2.wf,if_pos rfl]
 have n3:H2.n < (H2.new (.cells [tv (hdT term voted es.length)])).n:=by rw [Heap.n_new];omega
 generalize hG3:H2.new (.cells [tv (hdT term voted es.length)])=G3 at f3 g3 n3
 have f13:=(f1.trans f2).trans f3
 obtain ⟨H',v',f',hg',hL⟩:=sectors_loop (cp:=cp) (fuel:=fuel) (h0:=hdT term voted es.length) T hl hn hk (by omega) es.length 0 G3 (.slice H2.n 0 1 2 0) (by omega) f13 ⟨by simp [secs],by simp [secs,tv,V.one],Or.inr ⟨H2.n,2,0,rfl,by omega,Or.inl rfl,by simp only [g3,secs,List.take_zero,List.map_nil],(f1.trans f2).n,n3⟩⟩
 refine ⟨H',v',fun d k => ?_,f',hg'⟩
 have hs:=fun {id:Nat} {f:Nat→R}=>hl.sn (id:=id) (f:=f)
 have hi:=fun {id:Nat} {k:R}=>hl.is1 (id:=id) (k:=k)
 have gB:G3.get H.n = .cells [.int 7 term, .int 3 voted,v]:=((f2.trans f3).same _ n1).trans g1
 have z2':=fun {d:Nat} {k:K}=>z2 d k
 have hw2:=f2.wf
 have e9:es.length<9223372036854775808:=by omega
 simp only [tv] at z2' hG3
 rw [call_entry T.k17 rfl rfl]
 simp only [go_sem,↓op_app,reduceCtorEq,Nat.reduceAdd,Nat.reduceSub,Nat.reduceMul,Nat.reduceEqDiff,Nat.reduceLT,Nat.reduceDiv,Nat.reduceMod,Nat.reduceLeDiff,↓reduceIte,c17,hw,hi,hG1,g1,z2',hw2,hG3,gB,↓hs,e9]
 refine hL d _ fuel _ (by omega) ?_ ?_ ?_ ?_ _ (fun e' h3 => ?_)
 ·simp only [go_sem,reduceCtorEq,↓reduceIte]
 ·simp only [go_sem,reduceCtorEq,↓reduceIte]
 ·simp only [go_sem,reduceCtorEq,↓reduceIte]
 ·simp only [go_sem,reduceCtorEq,↓reduceIte]
 simp only [go_sem,↓op_app,reduceCtorEq,Nat.reduceAdd,Nat.reduceSub,Nat.reduceMul,Nat.reduceEqDiff,Nat.reduceLT,Nat.reduceDiv,Nat.reduceMod,Nat.reduceLeDiff,↓reduceIte,h3]
end
end Go.Ev
end
section
namespace Go.Ev
noncomputable def wrongE (e:Ent):Bool:=
 if e.2.1=1∨e.2.1=2 then (if e.2.2.1=0∧e.2.2.2=0 then evCF (.lt 0 18446744073709551616) e.1 1 else true)
 else if e.2.1=3 then (evCF (.lt 0 18446744073709551616) e.1 1 || !(evCF (.gt 0 18446744073709551616) e.2.2.1 0 && evCF (.gt 0 18446744073709551616) e.2.2.2 0)) else true
theorem LogAt.four {H:Heap} {v:V} {es:List Ent} {O:Nat→Prop} (h:LogAt H v es O) {i:Nat} {e:Ent} (he:es[i]? = some e):∃ b o c s,v = .slice b o es.length c s∧b<H.n ∧ ∀ {id:Nat} {k:List V→R},rdNB id (H.get b) (o+i * 4) 4 k=k (encEnt1 e):=by
 rcases h with ⟨_,rfl⟩ | ⟨b,o,c,s,row,rfl,hb,hbn,hbO,hrow⟩
 ·simp at he
 ·exact ⟨b,o,c,s,rfl,hbn,hrow.four hb he⟩
section
variable {cp:RC→CodeE} {t:Nat→Option FnE} {fuel:Nat} {H:Heap}
set_option maxHeartbeats 1000000 in
theorem wrong_call (T:TCode t) {e:Ent} (hw:H.wf) (d:Nat) (k:K) :
  callP (evP cp t fuel (d+1)) (.func 112 []) [.agg (encEnt1 e)] H k=k (.bool (wrongE e)) (H.new (.cells (encEnt1 e))):=by
 obtain ⟨a,b,c,g⟩:=e
 have z00:evCF (.gt 0 18446744073709551616) 0 0=false:=by rfl
 rw [call_entry T.k56 rfl rfl]
 simp only [wrongE]
 by_cases b1:b=1
 ·subst b1
  by_cases hc:c=0
  ·by_cases hg:g=0
   ·cases hx:evCF (.lt 0 18446744073709551616) a 1 <;> simp only [go_sem,↓op_app,reduceCtorEq,Nat.reduceAdd,Nat.reduceSub,Nat.reduceMul,Nat.reduceEqDiff,Nat.reduceLT,Nat.reduceDiv,Nat.reduceMod,Nat.reduceLeDiff,↓reduceIte,c56,encEnt1,hw,↓op_aggEq,eqCs_int,eqCs_nil,isB_tup,hc,hg,hx,z00,true_or,and_self,Bool.or_false,Bool.or_true]
   ·simp only [go_sem,↓op_app,reduceCtorEq,Nat.reduceAdd,Nat.reduceSub,Nat.reduceMul,Nat.reduceEqDiff,Nat.reduceLT,Nat.reduceDiv,Nat.reduceMod,Nat.reduceLeDiff,↓reduceIte,c56,encEnt1,hw,↓op_aggEq,eqCs_int,eqCs_nil,hc,hg,true_or,and_self]
  ·simp only [go_sem,↓op_app,reduceCtorEq,Nat.reduceAdd,Nat.reduceSub,Nat.reduceMul,Nat.reduceEqDiff,Nat.reduceLT,Nat.reduceDiv,Nat.reduceMod,Nat.reduceLeDiff,↓reduceIte,c56,encEnt1,hw,↓op_aggEq,eqCs_int,eqCs_nil,hc,true_or,and_self]
 by_cases b2:b=2
 ·subst b2
  by_cases hc:c=0
  ·by_cases hg:g=0
   ·cases hx:evCF (.lt 0 18446744073709551616) a 1 <;> simp only [go_sem,↓op_app,reduceCtorEq,Nat.reduceAdd,Nat.reduceSub,Nat.reduceMul,Nat.reduceEqDiff,Nat.reduceLT,Nat.reduceDiv,Nat.reduceMod,Nat.reduceLeDiff,↓reduceIte,c56,encEnt1,hw,↓op_aggEq,eqCs_int,eqCs_nil,isB_tup,hc,hg,hx,z00,or_true,and_self,Bool.or_false,Bool.or_true]
   ·simp only [go_sem,↓op_app,reduceCtorEq,Nat.reduceAdd,Nat.reduceSub,Nat.reduceMul,Nat.reduceEqDiff,Nat.reduceLT,Nat.reduceDiv,Nat.reduceMod,Nat.reduceLeDiff,↓reduceIte,c56,encEnt1,hw,↓op_aggEq,eqCs_int,eqCs_nil,hc,hg,or_true,and_self]
  ·simp only [go_sem,↓op_app,reduceCtorEq,Nat.reduceAdd,Nat.reduceSub,Nat.reduceMul,Nat.reduceEqDiff,Nat.reduceLT,Nat.reduceDiv,Nat.reduceMod,Nat.reduceLeDiff,↓reduceIte,c56,encEnt1,hw,↓op_aggEq,eqCs_int,eqCs_nil,hc,or_true,and_self]
 by_cases b3:b=3
 ·subst b3
  cases hx:evCF (.lt 0 18446744073709551616) a 1 <;> cases hy:evCF (.gt 0 18446744073709551616) c 0 <;> cases hz:evCF (.gt 0 18446744073709551616) g 0 <;> simp only [go_sem,↓op_app,reduceCtorEq,Nat.reduceAdd,Nat.reduceSub,Nat.reduceMul,Nat.reduceEqDiff,Nat.reduceLT,Nat.reduceDiv,Nat.reduceMod,Nat.reduceLeDiff,↓reduceIte,c56,encEnt1,hw,isB_tup,hx,hy,hz,or_self,Bool.or_false,Bool.or_true,Bool.and_false,Bool.and_true,Bool.false_or,Bool.true_or]
 ·simp only [go_sem,↓op_app,reduceCtorEq,Nat.reduceAdd,Nat.reduceSub,Nat.reduceMul,Nat.reduceEqDiff,Nat.reduceLT,Nat.reduceDiv,Nat.reduceMod,Nat.reduceLeDiff,↓reduceIte,c56,encEnt1,hw,b1,b2,b3,or_self]
theorem cmp_call (T:TCode t) {e f:Ent} (he:okE e) (hf:okE f) (hw:H.wf) (d:Nat) (k:K) :
  callP (evP cp t fuel (d+1)) (.func 108 []) [.agg (encEnt1 e), .agg (encEnt1 f)] H k=k (.int 3 (if e.1<f.1 then 18446744073709551615 else if f.1<e.1 then 1 else 0)) ((H.new (.cells (encEnt1 e))).new (.cells (encEnt1 f))):=by
 have h1:=lt_un he.1 hf.1
 have h2:=gt_un he.1 hf.1
 have e1:H.n<H.n+1+1:=by omega
 have e2:¬ H.n=H.n+1:=by omega
 rw [call_entry T.k54 rfl rfl]
 by_cases q1:e.1<f.1
 ·simp only [go_sem,↓op_app,reduceCtorEq,Nat.reduceAdd,Nat.reduceSub,Nat.reduceMul,Nat.reduceEqDiff,Nat.reduceLT,Nat.reduceDiv,Nat.reduceMod,Nat.reduceLeDiff,↓reduceIte,c54,encEnt1,hw,h1,q1,e1,e2]
 ·by_cases q2:f.1<e.1
  ·simp only [go_sem,↓op_app,reduceCtorEq,Nat.reduceAdd,Nat.reduceSub,Nat.reduceMul,Nat.reduceEqDiff,Nat.reduceLT,Nat.reduceDiv,Nat.reduceMod,Nat.reduceLeDiff,↓reduceIte,c54,encEnt1,hw,h1,h2,q1,q2,e1,e2]
  ·simp only [go_sem,↓op_app,reduceCtorEq,Nat.reduceAdd,Nat.reduceSub,Nat.reduceMul,Nat.reduceEqDiff,Nat.reduceLT,Nat.reduceDiv,Nat.reduceMod,Nat.reduceLeDiff,↓reduceIte,c54,encEnt1,hw,h1,h2,q1,q2,e1,e2]
def upE (es:List Ent):Nat→Bool
 | 0=>true
 | m+1=>if (es.getD (m+1) (0,0,0,0)).1 < (es.getD m (0,0,0,0)).1 then false else upE es m
set_option maxHeartbeats 1000000 in
theorem sorted_loop (T:TCode t) {v:V} {es:List Ent} {O:Nat→Prop} (hl:LogAt H v es O) (hn:es.length<100000) :
  ∀ (i:Nat) (G:Heap),(i=0∨i<es.length)→Fresh H G → ∃ G',Fresh H G' ∧ ∀ (d:Nat) (kx:Nat→KE) (r:Nat) (e:Env),i<r→pget ⟨.i0, .i0, .i0⟩ e=v→pget ⟨.i0, .i0, .i1⟩ e = .func 108 []→pget ⟨.i0, .i0, .i5⟩ e = .int 3 i →
   ∀ x:R,(upE es i=true → ∀ e',kx 1 e' G'=x)→(upE es i=false → ∀ e',pget ⟨.i0, .i0, .i4⟩ e' = .bool false→kx 0 e' G'=x) →
   evL c53l0 fuel (evP cp t fuel (d+1)) kx r e G=x:=by
 intro i
 induction i with
 | zero=>
  intro G hi f
  refine ⟨G,f,fun d kx r e hr h0 h1 h5 x hT hF => ?_⟩
  obtain ⟨r,rfl⟩:∃ q,r=q+1:=⟨r-1,by omega⟩
  have n0:nn 0:=by unfold nn;omega
  rw [evL_succ]
  simp only [go_sem,↓op_app,reduceCtorEq,Nat.reduceAdd,Nat.reduceSub,Nat.reduceMul,Nat.reduceEqDiff,Nat.reduceLT,Nat.reduceDiv,Nat.reduceMod,Nat.reduceLeDiff,↓reduceIte,c53l0,h0,h1,h5,n0,Nat.lt_irrefl]
  exact hT rfl _
 | succ i ih=>
  intro G hi f
  have hlt:i+1<es.length:=by omega
  have g1:es[i+1]? = some es[i+1]:=List.getElem?_eq_getElem hlt
  have g0:es[i]? = some es[i]:=List.getElem?_eq_getElem (by omega)
  have d1:es.getD (i+1) (0,0,0,0)=es[i+1]:=by rw [List.getD_eq_getElem?_getD,g1];rfl
  have d0:es.getD i (0,0,0,0)=es[i]:=by rw [List.getD_eq_getElem?_getD,g0];rfl
  generalize es[i+1]=ea at g1 d1
  generalize es[i]=eb at g0 d0
  have oka:=hl.ok ea (List.mem_of_getElem? g1)
  have okb:=hl.ok eb (List.mem_of_getElem? g0)
  have hw:=f.wf
  have hlG:=hl.fresh f
  obtain ⟨b,o,c,s,hv,hbn,r1⟩:=hlG.four g1
  obtain ⟨b',o',c',s',hv',hbn',r0⟩:=hlG.four g0
  rw [hv] at hv'
  simp only [V.slice.injEq] at hv'
  obtain ⟨rfl,rfl,_,rfl,rfl⟩:=hv'
  subst hv
  have n1:nn (i+1):=by unfold nn;omega
  have n0:nn 0:=by unfold nn;omega
  have e2:(i+1+18446744073709551615) % 18446744073709551616=i:=by omega
  have e3:i+1<9223372036854775808:=by omega
  have e4:i<9223372036854775808:=by omega
  have e5:i<es.length:=by omega
  have e6:0<i+1:=by omega
  have hup:upE es (i+1)=if ea.1<eb.1 then false else upE es i:=by rw [← d1,← d0];rfl
  have c1:=fun {d:Nat} {k:K} {G:Heap} (hw:G.wf)=>cmp_call (cp:=cp) (fuel:=fuel) (e:=ea) (f:=eb) T oka okb (H:=G) hw d k
  have f2:Fresh H ((G.new (.cells (encEnt1 ea))).new (.cells (encEnt1 eb))):=(f.trans (Fresh.new hw)).trans (Fresh.new (by rw [Heap.wf_new];exact hw))
  obtain ⟨G',f',hL⟩:=ih _ (by omega) f2
  have k1:evCF (.lt 9223372036854775808 18446744073709551616) 18446744073709551615 0=true:=by rfl
  have m1:nn 1:=by unfold nn;omega
  have c1':=fun {k:K}=>c1 (d:=0) (k:=k) hw
  by_cases q1:ea.1<eb.1
  ·rw [if_pos q1] at hup
   refine ⟨_,f2,fun d kx r e hr h0 h1 h5 x hT hF => ?_⟩
   obtain ⟨r,rfl⟩:∃ q,r=q+1:=⟨r-1,by omega⟩
   have c1':=fun {k:K}=>c1 (d:=d) (k:=k) hw
   rw [evL_succ]
   simp only [go_sem,↓op_app,reduceCtorEq,Nat.reduceAdd,Nat.reduceSub,Nat.reduceMul,Nat.reduceEqDiff,Nat.reduceLT,Nat.reduceDiv,Nat.reduceMod,Nat.reduceLeDiff,↓reduceIte,c53l0,h0,h1,h5,n0,n1,e2,e3,e4,e5,e6,hlt,r1,r0,c1',q1,k1,hw]
   exact hF hup _ (by simp only [go_sem,reduceCtorEq,↓reduceIte])
  ·rw [if_neg q1] at hup
   refine ⟨G',f',fun d kx r e hr h0 h1 h5 x hT hF => ?_⟩
   obtain ⟨r,rfl⟩:∃ q,r=q+1:=⟨r-1,by omega⟩
   have c1':=fun {k:K}=>c1 (d:=d) (k:=k) hw
   rw [← hup] at hL
   rw [evL_succ]
   by_cases q2:eb.1<ea.1
   ·have k2:¬ (1:Nat)<0:=by omega
    simp only [go_sem,↓op_app,reduceCtorEq,Nat.reduceAdd,Nat.reduceSub,Nat.reduceMul,Nat.reduceEqDiff,Nat.reduceLT,Nat.reduceDiv,Nat.reduceMod,Nat.reduceLeDiff,↓reduceIte,c53l0,h0,h1,h5,n0,n1,m1,e2,e3,e4,e5,e6,hlt,r1,r0,c1',q1,q2,k2,hw]
    refine hL d kx r _ (by omega) ?_ ?_ ?_ x hT hF
    ·simp only [go_sem,reduceCtorEq,↓reduceIte,h0]
    ·simp only [go_sem,reduceCtorEq,↓reduceIte,h1]
    ·simp only [go_sem,reduceCtorEq,↓reduceIte]
   ·simp only [go_sem,↓op_app,reduceCtorEq,Nat.reduceAdd,Nat.reduceSub,Nat.reduceMul,Nat.reduceEqDiff,Nat.reduceLT,Nat.reduceDiv,Nat.reduceMod,Nat.reduceLeDiff,↓reduceIte,c53l0,h0,h1,h5,n0,n1,m1,e2,e3,e4,e5,e6,hlt,r1,r0,c1',q1,q2,Nat.lt_irrefl,hw]
    refine hL d kx r _ (by omega) ?_ ?_ ?_ x hT hF
    ·simp only [go_sem,reduceCtorEq,↓reduceIte,h0]
    ·simp only [go_sem,reduceCtorEq,↓reduceIte,h1]
    ·simp only [go_sem,reduceCtorEq,↓reduceIte]
end
end Go.Ev
end
section
namespace Go.Ev
section
variable {cp:RC→CodeE} {t:Nat→Option FnE} {fuel:Nat} {H:Heap}
theorem sorted_call (T:TCode t) {v:V} {es:List Ent} {O:Nat→Prop} (hw:H.wf) (hl:LogAt H v es O) (hn:es.length<100000) (hfu:100000<fuel) :
  ∃ H',(∀ (d:Nat) (k:K),callP (evP cp t fuel (d+2)) (.func 106 []) [v, .func 108 []] H k=k (.bool (upE es (es.length-1))) H')∧Fresh H H':=by
 have hs:=fun {id:Nat} {f:Nat→R}=>hl.sn (id:=id) (f:=f)
 have e9:es.length<9223372036854775808:=by omega
 by_cases h0:es.length=0
 ·refine ⟨H,fun d k => ?_,Fresh.refl hw⟩
  obtain ⟨fu,rfl⟩:∃ f,fuel=f+1:=⟨fuel-1,by omega⟩
  have k1:evCF (.gt 9223372036854775808 18446744073709551616) 18446744073709551615 0=false:=by rfl
  have e8:(0:Nat)<9223372036854775808:=by omega
  have hu:upE es (0-1)=true:=rfl
  rw [h0] at hs
  rw [h0,hu]
  rw [call_entry T.k53 rfl rfl]
  simp only [go_sem,↓op_app,reduceCtorEq,Nat.reduceAdd,Nat.reduceSub,Nat.reduceMul,Nat.reduceEqDiff,Nat.reduceLT,Nat.reduceDiv,Nat.reduceMod,Nat.reduceLeDiff,↓reduceIte,c53,↓hs,e8,evL_succ,c53l0,k1]
 ·obtain ⟨H',f',hL⟩:=sorted_loop (cp:=cp) (fuel:=fuel) T hl hn (es.length-1) H (by omega) (Fresh.refl hw)
  refine ⟨H',fun d k => ?_,f'⟩
  have e2:(es.length+18446744073709551615) % 18446744073709551616=es.length-1:=by omega
  rw [call_entry T.k53 rfl rfl]
  simp only [go_sem,↓op_app,reduceCtorEq,Nat.reduceAdd,Nat.reduceSub,Nat.reduceMul,Nat.reduceEqDiff,Nat.reduceLT,Nat.reduceDiv,Nat.reduceMod,Nat.reduceLeDiff,↓reduceIte,c53,↓hs,e9,e2]
  refine hL d _ fuel _ (by omega) ?_ ?_ ?_ _ (fun hu e' => ?_) (fun hu e' h4 => ?_)
  ·simp only [go_sem,reduceCtorEq,↓reduceIte]
  ·simp only [go_sem,reduceCtorEq,↓reduceIte]
  ·simp only [go_sem,reduceCtorEq,↓reduceIte]
  ·simp only [go_sem,↓op_app,reduceCtorEq,Nat.reduceAdd,Nat.reduceSub,Nat.reduceMul,Nat.reduceEqDiff,Nat.reduceLT,Nat.reduceDiv,Nat.reduceMod,Nat.reduceLeDiff,↓reduceIte,hu]
  ·simp only [go_sem,↓op_app,reduceCtorEq,Nat.reduceAdd,Nat.reduceSub,Nat.reduceMul,Nat.reduceEqDiff,Nat.reduceLT,Nat.reduceDiv,Nat.reduceMod,Nat.reduceLeDiff,↓reduceIte,hu,h4]
theorem any_step {es:List Ent} {i:Nat} {e:Ent} (h:es[i]? = some e):(es.take (i+1)).any wrongE=((es.take i).any wrongE || wrongE e):=by
 obtain ⟨hi,rfl⟩:=List.getElem?_eq_some_iff.1 h
 rw [List.take_succ_eq_append_getElem hi,List.any_append];simp
set_option maxHeartbeats 1000000 in
theorem index_loop (T:TCode t) {v:V} {es:List Ent} {O:Nat→Prop} (hl:LogAt H v es O) (hn:es.length<100000) :
  ∀ (m i:Nat) (G:Heap),i+m=es.length→(es.take i).any wrongE=false→Fresh H G → ∃ G',Fresh H G' ∧ ∀ (d:Nat) (kx:Nat→KE) (r:Nat) (e:Env),m<r→pget ⟨.i0, .i0, .i0⟩ e=v→pget ⟨.i0, .i0, .i1⟩ e = .func 112 []→pget ⟨.i0, .i0, .i7⟩ e = .int 3 es.length→pget ⟨.i0, .i1, .i0⟩ e = .int 3 i →
   ∀ x:R,(es.any wrongE=false → ∀ e',kx 1 e' G'=x)→(es.any wrongE=true → ∀ e' j,j<es.length→pget ⟨.i0, .i0, .i4⟩ e' = .int 3 j→kx 0 e' G'=x) →
   evL c73l0 fuel (evP cp t fuel (d+1)) kx r e G=x:=by
 intro m
 induction m with
 | zero=>
  intro i G hi ha f
  obtain rfl:i=es.length:=by omega
  rw [List.take_length] at ha
  refine ⟨G,f,fun d kx r e hr h0 h1 h7 h10 x hT hF => ?_⟩
  obtain ⟨r,rfl⟩:∃ q,r=q+1:=⟨r-1,by omega⟩
  have e1:¬ es.length<es.length:=by omega
  have e2:nn es.length:=by unfold nn;omega
  rw [evL_succ]
  simp only [go_sem,↓op_app,reduceCtorEq,Nat.reduceAdd,Nat.reduceSub,Nat.reduceMul,Nat.reduceEqDiff,Nat.reduceLT,Nat.reduceDiv,Nat.reduceMod,Nat.reduceLeDiff,↓reduceIte,c73l0,h0,h1,h7,h10,e1,e2]
  exact hT ha _
 | succ m ih=>
  intro i G hi ha f
  have hlt:i<es.length:=by omega
  have g1:es[i]? = some es[i]:=List.getElem?_eq_getElem hlt
  generalize es[i]=en at g1
  have hw:=f.wf
  have hlG:=hl.fresh f
  obtain ⟨b,o,c,s,hv,hbn,r1⟩:=hlG.four g1
  subst hv
  have e1:nn i:=by unfold nn;omega
  have e2:nn es.length:=by unfold nn;omega
  have e3:i<9223372036854775808:=by omega
  have e9:(i+1) % 18446744073709551616=i+1:=by omega
  have f1:Fresh H (G.new (.cells (encEnt1 en))):=f.trans (Fresh.new hw)
  have hst:=any_step g1
  rw [ha,Bool.false_or] at hst
  cases hq:wrongE en with
  | true=>
   refine ⟨_,f1,fun d kx r e hr h0 h1 h7 h10 x hT hF => ?_⟩
   obtain ⟨r,rfl⟩:∃ q,r=q+1:=⟨r-1,by omega⟩
   have c1:=fun {k:K}=>wrong_call (cp:=cp) (fuel:=fuel) (e:=en) T hw d k
   rw [hq] at c1
   have hany:es.any wrongE=true:=List.any_eq_true.2 ⟨en,List.mem_of_getElem? g1,hq⟩
   rw [evL_succ]
   simp only [go_sem,↓op_app,reduceCtorEq,Nat.reduceAdd,Nat.reduceSub,Nat.reduceMul,Nat.reduceEqDiff,Nat.reduceLT,Nat.reduceDiv,Nat.reduceMod,Nat.reduceLeDiff,↓reduceIte,c73l0,h0,h1,h7,h10,hlt,e1,e2,e3,e9,r1,c1]
   exact hF hany _ i hlt (by simp only [go_sem,reduceCtorEq,↓reduceIte])
  | false=>
   rw [hq] at hst
   obtain ⟨G',f',hL⟩:=ih (i+1) _ (by omega) hst f1
   refine ⟨G',f',fun d kx r e hr h0 h1 h7 h10 x hT hF => ?_⟩
   obtain ⟨r,rfl⟩:∃ q,r=q+1:=⟨r-1,by omega⟩
   have c1:=fun {k:K}=>wrong_call (cp:=cp) (fuel:=fuel) (e:=en) T hw d k
   rw [hq] at c1
   rw [evL_succ]
   simp only [go_sem,↓op_app,reduceCtorEq,Nat.reduceAdd,Nat.reduceSub,Nat.reduceMul,Nat.reduceEqDiff,Nat.reduceLT,Nat.reduceDiv,Nat.reduceMod,Nat.reduceLeDiff,↓reduceIte,c73l0,h0,h1,h7,h10,hlt,e1,e2,e3,e9,r1,c1]
   refine hL d kx r _ (by omega) ?_ ?_ ?_ ?_ x hT hF
   ·simp only [go_sem,reduceCtorEq,↓reduceIte,h0]
   ·simp only [go_sem,reduceCtorEq,↓reduceIte,h1]
   ·simp only [go_sem,reduceCtorEq,↓reduceIte,h7]
   ·simp only [go_sem,reduceCtorEq,↓reduceIte]
theorem contains_call (T:TCode t) {v:V} {es:List Ent} {O:Nat→Prop} (hw:H.wf) (hl:LogAt H v es O) (hn:es.length<100000) (hfu:100000<fuel) :
  ∃ H',(∀ (d:Nat) (k:K),callP (evP cp t fuel (d+3)) (.func 110 []) [v, .func 112 []] H k=k (.bool (es.any wrongE)) H')∧Fresh H H':=by
 obtain ⟨H',f',hL⟩:=index_loop (cp:=cp) (fuel:=fuel) T hl hn es.length 0 H (by omega) rfl (Fresh.refl hw)
 refine ⟨H',fun d k => ?_,f'⟩
 have hs:=fun {id:Nat} {f:Nat→R}=>hl.sn (id:=id) (f:=f)
 have e9:es.length<9223372036854775808:=by omega
 have k1:evCF (.ge 9223372036854775808 18446744073709551616) 18446744073709551615 0=false:=by rfl
 have n0:nn 0:=by unfold nn;omega
 rw [call_entry T.k55 rfl rfl]
 simp only [go_sem,↓op_app,reduceCtorEq,Nat.reduceAdd,Nat.reduceSub,Nat.reduceMul,Nat.reduceEqDiff,Nat.reduceLT,Nat.reduceDiv,Nat.reduceMod,Nat.reduceLeDiff,↓reduceIte,c55]
 rw [call_entry T.k73 rfl rfl]
 simp only [go_sem,↓op_app,reduceCtorEq,Nat.reduceAdd,Nat.reduceSub,Nat.reduceMul,Nat.reduceEqDiff,Nat.reduceLT,Nat.reduceDiv,Nat.reduceMod,Nat.reduceLeDiff,↓reduceIte,c73,↓hs,e9]
 refine hL (d+0) _ fuel _ (by omega) ?_ ?_ ?_ ?_ _ (fun hu e' => ?_) (fun hu e' j hj h4 => ?_)
 ·simp only [go_sem,reduceCtorEq,↓reduceIte]
 ·simp only [go_sem,reduceCtorEq,↓reduceIte]
 ·simp only [go_sem,reduceCtorEq,↓reduceIte]
 ·simp only [go_sem,reduceCtorEq,↓reduceIte]
 ·simp only [go_sem,↓op_app,reduceCtorEq,Nat.reduceAdd,Nat.reduceSub,Nat.reduceMul,Nat.reduceEqDiff,Nat.reduceLT,Nat.reduceDiv,Nat.reduceMod,Nat.reduceLeDiff,↓reduceIte,hu,k1]
 ·have nj:nn j:=by unfold nn;omega
  simp only [go_sem,↓op_app,reduceCtorEq,Nat.reduceAdd,Nat.reduceSub,Nat.reduceMul,Nat.reduceEqDiff,Nat.reduceLT,Nat.reduceDiv,Nat.reduceMod,Nat.reduceLeDiff,↓reduceIte,hu,h4,nj,n0,Nat.zero_le,decide_true]
noncomputable def checkE (es:List Ent):Nat:=if 300<es.length then 3 else if upE es (es.length-1)=false∨es.any wrongE=true then 2 else 0
theorem check_call (T:TCode t) {v:V} {es:List Ent} {O:Nat→Prop} (hw:H.wf) (hl:LogAt H v es O) (hn:es.length<9223372036854775808) (hfu:100000<fuel) :
  ∃ H',(∀ (d:Nat) (k:K),callP (evP cp t fuel (d+4)) (.func 64 []) [v] H k=k (.int 3 (checkE es)) H')∧Fresh H H':=by
 have hs:=fun {id:Nat} {f:Nat→R}=>hl.sn (id:=id) (f:=f)
 have e9:es.length<9223372036854775808:=by omega
 have n1:nn es.length:=by unfold nn;omega
 have n3:nn 300:=by unfold nn;omega
 by_cases h3:300<es.length
 ·refine ⟨H,fun d k => ?_,Fresh.refl hw⟩
  rw [call_entry T.k32 rfl rfl]
  simp only [go_sem,↓op_app,reduceCtorEq,Nat.reduceAdd,Nat.reduceSub,Nat.reduceMul,Nat.reduceEqDiff,Nat.reduceLT,Nat.reduceDiv,Nat.reduceMod,Nat.reduceLeDiff,↓reduceIte,c32,↓hs,e9,n1,n3,h3,checkE]
 ·have hn':es.length<100000:=by omega
  obtain ⟨H1,z1,f1⟩:=sorted_call (cp:=cp) (fuel:=fuel) T hw hl hn' hfu
  have z1':=fun {d:Nat} {k:K}=>z1 (d+1) k
  cases hu:upE es (es.length-1) with
  | false=>
   rw [hu] at z1'
   refine ⟨H1,fun d k => ?_,f1⟩
   rw [call_entry T.k32 rfl rfl]
   simp only [go_sem,↓op_app,reduceCtorEq,Nat.reduceAdd,Nat.reduceSub,Nat.reduceMul,Nat.reduceEqDiff,Nat.reduceLT,Nat.reduceDiv,Nat.reduceMod,Nat.reduceLeDiff,↓reduceIte,c32,↓hs,e9,n1,n3,h3,z1',checkE,hu,true_or]
  | true=>
   rw [hu] at z1'
   obtain ⟨H2,z2,f2⟩:=contains_call (cp:=cp) (fuel:=fuel) T f1.wf (hl.fresh f1) hn' hfu
   refine ⟨H2,fun d k => ?_,f1.trans f2⟩
   have z2':=fun {d:Nat} {k:K}=>z2 d k
   rw [call_entry T.k32 rfl rfl]
   cases ha:es.any wrongE <;> rw [ha] at z2' <;> simp only [go_sem,↓op_app,reduceCtorEq,Nat.reduceAdd,Nat.reduceSub,Nat.reduceMul,Nat.reduceEqDiff,Nat.reduceLT,Nat.reduceDiv,Nat.reduceMod,Nat.reduceLeDiff,↓reduceIte,c32,↓hs,e9,n1,n3,h3,z1',z2',checkE,hu,ha,or_self,or_true]
end
end Go.Ev
end
section
namespace Go.Ev
theorem LogAt.term {H:Heap} {v:V} {es:List Ent} {O:Nat→Prop} (h:LogAt H v es O) {i:Nat} {e:Ent} (he:es[i]? = some e):∃ b o c s,v = .slice b o es.length c s∧b<H.n ∧ ∀ {id:Nat} {k:V→R},rdB id (H.get b) (o+i * 4) k=k (.int 7 e.1):=by
 rcases h with ⟨_,rfl⟩ | ⟨b,o,c,s,row,rfl,hb,hbn,hbO,hrow⟩
 ·simp at he
 ·exact ⟨b,o,c,s,rfl,hbn,rd_row hb (hrow.t i e he) rfl⟩
noncomputable def mayK (term voted:Nat) (es:List Ent):Bool:=
 if checkE es=0 then (if evCF (.lt 9223372036854775808 18446744073709551616) voted 18446744073709551615=true then false else if evCF (.ge 9223372036854775808 18446744073709551616) voted 3=true then false else if es.length=0 then true else evCF (.ge 0 18446744073709551616) term (es.getD (es.length-1) (0,0,0,0)).1) else false
theorem LogAt.weak' {H:Heap} {v:V} {es:List Ent} {O O':Nat→Prop} (h:LogAt H v es O) (hO:∀ b,O' b→O b):LogAt H v es O':=by
 rcases h with h | ⟨b,o,c,s,row,h1,h2,h3,h4,h5⟩
 ·exact Or.inl h
 ·exact Or.inr ⟨b,o,c,s,row,h1,h2,h3,fun hb=>h4 (hO b hb),h5⟩
theorem EsRow.tail {row:List V} {o:Nat} {e:Ent} {es:List Ent} (h:EsRow row o (e :: es)):EsRow row (o+4) es:=by
 refine ⟨fun i x hi => ?_,fun i x hi => ?_,fun i x hi => ?_,fun i x hi => ?_,fun x hx=>h.ok x (List.mem_cons_of_mem _ hx)⟩
 ·have:=h.t (i+1) x hi;rwa [show o+(i+1) * 4=o+4+i * 4 by omega] at this
 ·have:=h.k (i+1) x hi;rwa [show o+(i+1) * 4+1=o+4+i * 4+1 by omega] at this
 ·have:=h.e (i+1) x hi;rwa [show o+(i+1) * 4+2=o+4+i * 4+2 by omega] at this
 ·have:=h.c (i+1) x hi;rwa [show o+(i+1) * 4+3=o+4+i * 4+3 by omega] at this
theorem encEnt_length (es:List Ent):(encEnt es).length=es.length * 4:=by
 induction es with
 | nil=>rfl
 | cons e es ih=>
  have:encEnt (e :: es)=encEnt1 e ++ encEnt es:=rfl
  rw [this,List.length_append,ih,List.length_cons]
  simp only [encEnt1,List.length_cons,List.length_nil];omega
theorem EsRow.all:∀ {es:List Ent} {row:List V} {o:Nat},EsRow row o es→o≤row.length→(row.drop o).take (es.length * 4)=encEnt es∧o+es.length * 4≤row.length
 | [],row,o,_,ho=>⟨by simp [encEnt],by simpa using ho⟩
 | e :: es,row,o,h,ho=>by
  have h0:=h.t 0 e rfl
  have h1:=h.k 0 e rfl
  have h2:=h.e 0 e rfl
  have h3:=h.c 0 e rfl
  simp only [Nat.zero_mul,Nat.add_zero] at h0 h1 h2 h3
  have hl:=(List.getElem?_eq_some_iff.1 h3).1
  obtain ⟨q1,q2⟩:=EsRow.all h.tail (by omega)
  have hd:row.drop o=encEnt1 e ++ row.drop (o+4):=by
   refine List.ext_getElem? fun i => ?_
   rw [List.getElem?_drop,List.getElem?_append]
   have l4:(encEnt1 e).length=4:=rfl
   by_cases hi:i<4
   ·rw [if_pos (by rw [l4];exact hi)]
    match i,hi with
    | 0,_=>exact h0
    | 1,_=>exact h1
    | 2,_=>exact h2
    | 3,_=>exact h3
   ·rw [if_neg (by rw [l4];exact hi),l4,List.getElem?_drop]
    congr 1;omega
  refine ⟨?_,by simp only [List.length_cons];omega⟩
  rw [hd,List.length_cons,show (es.length+1) * 4=(encEnt1 e).length+es.length * 4 by show _=4+_;omega,List.take_append,Nat.add_sub_cancel_left,q1,List.take_of_length_le (by omega)]
  rfl
theorem encEnt_row:∀ (es pre:List Ent) (row:List V),row=encEnt pre ++ encEnt es→(∀ e ∈ es,okE e)→EsRow row (pre.length * 4) es
 | [],pre,row,_,_=>⟨fun i e h=>(by cases h),fun i e h=>(by cases h),fun i e h=>(by cases h),fun i e h=>(by cases h),fun e h=>(by cases h)⟩
 | x :: es,pre,row,hr,ho=>by
  have ih:=encEnt_row es (pre ++ [x]) row (by rw [hr];simp [encEnt]) fun e he=>ho e (List.mem_cons_of_mem _ he)
  have hx:∀ j,j<4→row[pre.length * 4+j]? = (encEnt1 x)[j]?:=fun j hj=>by
   have hs:encEnt (x :: es)=encEnt1 x ++ encEnt es:=rfl
   rw [hr,hs,← encEnt_length pre,List.getElem?_append_right (by omega),Nat.add_sub_cancel_left,List.getElem?_append_left (by show j<4;exact hj)]
  have hl:(pre ++ [x]).length * 4=pre.length * 4+4:=by simp only [List.length_append,List.length_cons,List.length_nil];omega
  rw [hl] at ih
  refine ⟨fun i e h => ?_,fun i e h => ?_,fun i e h => ?_,fun i e h => ?_,ho⟩
  ·cases i with
   | zero=>cases h;have:=hx 0 (by omega);simp only [Nat.zero_mul,Nat.add_zero] at this ⊢;exact this
   | succ i=>have:=ih.t i e h;rwa [show pre.length * 4+(i+1) * 4=pre.length * 4+4+i * 4 by omega]
  ·cases i with
   | zero=>cases h;have:=hx 1 (by omega);simp only [Nat.zero_mul,Nat.add_zero] at this ⊢;exact this
   | succ i=>have:=ih.k i e h;rwa [show pre.length * 4+(i+1) * 4+1=pre.length * 4+4+i * 4+1 by omega]
  ·cases i with
   | zero=>cases h;have:=hx 2 (by omega);simp only [Nat.zero_mul,Nat.add_zero] at this ⊢;exact this
   | succ i=>have:=ih.e i e h;rwa [show pre.length * 4+(i+1) * 4+2=pre.length * 4+4+i * 4+2 by omega]
  ·cases i with
   | zero=>cases h;have:=hx 3 (by omega);simp only [Nat.zero_mul,Nat.add_zero] at this ⊢;exact this
   | succ i=>have:=ih.c i e h;rwa [show pre.length * 4+(i+1) * 4+3=pre.length * 4+4+i * 4+3 by omega]
theorem encEnt_row0 {es:List Ent} (ho:∀ e ∈ es,okE e):EsRow (encEnt es) 0 es:=encEnt_row es [] _ rfl ho
def LogC (H:Heap) (v:V) (es:List Ent) (O:Nat→Prop):Prop:=(v = .nils∧es=[]) ∨ ∃ b o c s row,v = .slice b o es.length c s∧H.get b = .cells row∧b<H.n ∧ ¬ O b∧EsRow row o es∧o≤row.length
theorem LogC.at_ {H:Heap} {v:V} {es:List Ent} {O:Nat→Prop} (h:LogC H v es O):LogAt H v es O:=by
 rcases h with h | ⟨b,o,c,s,row,h1,h2,h3,h4,h5,_⟩
 ·exact Or.inl ⟨Or.inl h.1,h.2⟩
 ·exact Or.inr ⟨b,o,c,s,row,h1,Or.inl h2,h3,h4,h5⟩
theorem LogC.keep {H H':Heap} {v:V} {es:List Ent} {O O':Nat→Prop} (h:LogC H v es O) (s:Step H O H' O'):LogC H' v es O':=by
 rcases h with h | ⟨b,o,c,z,row,h1,h2,h3,h4,h5,h6⟩
 ·exact Or.inl h
 ·exact Or.inr ⟨b,o,c,z,row,h1,(s.same b h3 h4).1.trans h2,Nat.lt_of_lt_of_le h3 s.n,(s.same b h3 h4).2,h5,h6⟩
theorem LogC.fresh {H H':Heap} {v:V} {es:List Ent} {O:Nat→Prop} (h:LogC H v es O) (s:Fresh H H'):LogC H' v es O:=h.keep s.step
theorem LogC.weak {H:Heap} {v:V} {es:List Ent} {O O':Nat→Prop} (h:LogC H v es O) (hO:∀ b,b<H.n→O' b→O b):LogC H v es O':=by
 rcases h with h | ⟨b,o,c,z,row,h1,h2,h3,h4,h5,h6⟩
 ·exact Or.inl h
 ·exact Or.inr ⟨b,o,c,z,row,h1,h2,h3,fun hb=>h4 (hO b h3 hb),h5,h6⟩
section
variable {cp:RC→CodeE} {t:Nat→Option FnE} {fuel:Nat} {H:Heap}
set_option maxHeartbeats 1000000 in
theorem may_k_call (T:TCode t) {term voted:Nat} {v:V} {es:List Ent} {O:Nat→Prop} (hw:H.wf) (hl:LogAt H v es O) (hn:es.length<9223372036854775808) (hfu:100000<fuel) :
  ∃ H',(∀ (d:Nat) (k:K),callP (evP cp t fuel (d+5)) (.func 32 []) [.agg [.int 7 term, .int 3 voted,v]] H k=k (.bool (mayK term voted es)) H')∧Fresh H H':=by
 have f1:Fresh H (H.new (.cells [.int 7 term, .int 3 voted,v])):=Fresh.new hw
 have g1:(H.new (.cells [.int 7 term, .int 3 voted,v])).get H.n = .cells [.int 7 term, .int 3 voted,v]:=by rw [Heap.get_new hw,if_pos rfl]
 have n1:H.n < (H.new (.cells [.int 7 term, .int 3 voted,v])).n:=by rw [Heap.n_new];omega
 generalize hG1:H.new (.cells [.int 7 term, .int 3 voted,v])=G1 at f1 g1 n1
 obtain ⟨G2,z2,f2⟩:=check_call (cp:=cp) (fuel:=fuel) T f1.wf (hl.fresh f1) hn hfu
 have g2:G2.get H.n = .cells [.int 7 term, .int 3 voted,v]:=(f2.same _ n1).trans g1
 have hs:=fun {id:Nat} {f:Nat→R}=>hl.sn (id:=id) (f:=f)
 have hi:=fun {id:Nat} {k:R}=>hl.is1 (id:=id) (k:=k)
 have e9:es.length<9223372036854775808:=by omega
 have z2':=fun {d:Nat} {k:K}=>z2 d k
 refine ⟨G2,fun d k => ?_,f1.trans f2⟩
 rw [call_entry T.k16 rfl rfl]
 by_cases hc:checkE es=0
 ·rw [hc] at z2'
  cases x1:evCF (.lt 9223372036854775808 18446744073709551616) voted 18446744073709551615 with
  | true=>
   have hm:mayK term voted es=false:=by unfold mayK;rw [if_pos hc,if_pos x1]
   rw [hm]
   simp only [go_sem,↓op_app,reduceCtorEq,Nat.reduceAdd,Nat.reduceSub,Nat.reduceMul,Nat.reduceEqDiff,Nat.reduceLT,Nat.reduceDiv,Nat.reduceMod,Nat.reduceLeDiff,↓reduceIte,c16,hw,hi,hG1,g1,z2',g2,x1]
  | false=>
   cases x2:evCF (.ge 9223372036854775808 18446744073709551616) voted 3 with
   | true=>
    have hm:mayK term voted es=false:=by unfold mayK;rw [if_pos hc,if_neg (by rw [x1];exact Bool.false_ne_true),if_pos x2]
    rw [hm]
    simp only [go_sem,↓op_app,reduceCtorEq,Nat.reduceAdd,Nat.reduceSub,Nat.reduceMul,Nat.reduceEqDiff,Nat.reduceLT,Nat.reduceDiv,Nat.reduceMod,Nat.reduceLeDiff,↓reduceIte,c16,hw,hi,hG1,g1,z2',g2,x1,x2]
   | false=>
    by_cases h0:es.length=0
    ·have hm:mayK term voted es=true:=by unfold mayK;rw [if_pos hc,if_neg (by rw [x1];exact Bool.false_ne_true),if_neg (by rw [x2];exact Bool.false_ne_true),if_pos h0]
     rw [hm]
     rw [h0] at hs e9
     simp only [go_sem,↓op_app,reduceCtorEq,Nat.reduceAdd,Nat.reduceSub,Nat.reduceMul,Nat.reduceEqDiff,Nat.reduceLT,Nat.reduceDiv,Nat.reduceMod,Nat.reduceLeDiff,↓reduceIte,c16,hw,hi,hG1,g1,z2',g2,x1,x2,↓hs,e9]
    ·have hm:mayK term voted es=evCF (.ge 0 18446744073709551616) term (es.getD (es.length-1) (0,0,0,0)).1:=by unfold mayK;rw [if_pos hc,if_neg (by rw [x1];exact Bool.false_ne_true),if_neg (by rw [x2];exact Bool.false_ne_true),if_neg h0]
     rw [hm]
     have hge:es[es.length-1]? = some es[es.length-1]:=List.getElem?_eq_getElem (by omega)
     have hgd:es.getD (es.length-1) (0,0,0,0)=es[es.length-1]:=by rw [List.getD_eq_getElem?_getD,hge];rfl
     rw [hgd]
     obtain ⟨b,o,c,s,hv,hb,hr⟩:=((hl.fresh f1).fresh f2).term hge
     generalize es[es.length-1]=en at hr ⊢
     have e2:(es.length+18446744073709551615) % 18446744073709551616=es.length-1:=by omega
     have e3:es.length-1<es.length:=by omega
     have e4:es.length-1<9223372036854775808:=by omega
     have nl:nn (es.length-1):=by unfold nn;omega
     subst hv
     have hw2:=f2.wf
     simp only [go_sem,↓op_app,reduceCtorEq,Nat.reduceAdd,Nat.reduceSub,Nat.reduceMul,Nat.reduceEqDiff,Nat.reduceLT,Nat.reduceDiv,Nat.reduceMod,Nat.reduceLeDiff,↓reduceIte,c16,hw,hi,hG1,g1,z2',g2,x1,x2,h0,e9,e2,e3,e4,nl,hr,hw2]
     cases evCF (.ge 0 18446744073709551616) term en.1 <;> simp only [if_true,if_false,Bool.false_eq_true]
 ·have hm:mayK term voted es=false:=by unfold mayK;rw [if_neg hc]
  rw [hm]
  simp only [go_sem,↓op_app,reduceCtorEq,Nat.reduceAdd,Nat.reduceSub,Nat.reduceMul,Nat.reduceEqDiff,Nat.reduceLT,Nat.reduceDiv,Nat.reduceMod,Nat.reduceLeDiff,↓reduceIte,c16,hw,hi,hG1,g1,z2',hc]
theorem okE_one (es:List Ent):∀ v ∈ encEnt es,v.one=true:=by
 intro v hv
 obtain ⟨e,he,h⟩:=List.mem_flatMap.1 hv
 simp only [encEnt1,List.mem_cons,List.not_mem_nil,or_false] at h
 rcases h with rfl | rfl | rfl | rfl <;> rfl
def LogN (H G:Heap) (v:V) (es:List Ent):Prop:=(v = .nils∧es=[]) ∨ ∃ b c s,v = .slice b 0 es.length c s∧G.get b = .cells (encEnt es)∧H.n≤b∧b<G.n
theorem LogN.at_ {H G:Heap} {v:V} {es:List Ent} (h:LogN H G v es) (ho:∀ e ∈ es,okE e) {O:Nat→Prop} (hO:∀ b,O b→b<H.n):LogC G v es O:=by
 rcases h with h | ⟨b,c,s,h1,h2,h3,h4⟩
 ·exact Or.inl h
 ·exact Or.inr ⟨b,0,c,s,_,h1,h2,h4,fun hb=>by have:=hO b hb;omega,encEnt_row0 ho,Nat.zero_le _⟩
theorem LogN.fresh {H G G':Heap} {v:V} {es:List Ent} (h:LogN H G v es) (f:Fresh G G'):LogN H G' v es:=by
 rcases h with h | ⟨b,c,s,h1,h2,h3,h4⟩
 ·exact Or.inl h
 ·exact Or.inr ⟨b,c,s,h1,(f.same b h4).trans h2,h3,Nat.lt_of_lt_of_le h4 f.n⟩
theorem LogN.older {H H0 G:Heap} {v:V} {es:List Ent} (h:LogN H G v es) (f:H0.n≤H.n):LogN H0 G v es:=by
 rcases h with h | ⟨b,c,s,h1,h2,h3,h4⟩
 ·exact Or.inl h
 ·exact Or.inr ⟨b,c,s,h1,h2,by omega,h4⟩
theorem LogN.one {H G:Heap} {v:V} {es:List Ent} (h:LogN H G v es):v.one=true:=by
 rcases h with ⟨rfl,_⟩ | ⟨_,_,_,rfl,_⟩ <;> rfl
theorem EsRow.o_le {row:List V} {o:Nat} {es:List Ent} (h:EsRow row o es) (h0:es.length≠0):o≤row.length:=by
 cases es with
 | nil=>exact absurd rfl h0
 | cons e es=>
  have:=(List.getElem?_eq_some_iff.1 (h.t 0 e rfl)).1
  omega
theorem rdNB_all {bl:Blk} {row:List V} {o:Nat} {es:List Ent} (hb:isRow bl row) (h:EsRow row o es) (h0:es.length≠0) {id:Nat} {k:List V→R}:rdNB id bl o (es.length * 4) k=k (encEnt es):=by
 have ho:=h.o_le h0
 obtain ⟨q1,q2⟩:=h.all ho
 have hlen:es.length * 4≤(row.drop o).length:=by rw [List.length_drop];omega
 rcases hb with rfl | rfl
 ·rw [rdNB_cells,dropN_eq ho,takeN_eq hlen,q1]
 ·rw [rdNB_view,dropN_eq ho,takeN_eq hlen,q1,allOne_all (okE_one es)]
theorem kclone_call (T:TCode t) {v:V} {es:List Ent} {O:Nat→Prop} (hw:H.wf) (hl:LogAt H v es O) (hn:es.length<100000) (hfu:100000<fuel) :
  ∃ H' v',(∀ (d:Nat) (k:K),callP (evP cp t fuel (d+1)) (.func 86 []) [v] H k=k v' H')∧Fresh H H'∧LogN H H' v' es:=by
 have none:∀ b o c s,∃ H' v',(∀ (d:Nat) (k:K),callP (evP cp t fuel (d+1)) (.func 86 []) [.slice b o 0 c s] H k=k v' H')∧Fresh H H'∧LogN H H' v' []:=fun b o c s=>by
  refine ⟨H.new (.cells []), .slice H.n 0 0 1 0,fun d k => ?_,Fresh.new hw,Or.inr ⟨H.n,1,0,rfl,by rw [Heap.get_new hw,if_pos rfl];rfl,Nat.le_refl _,by rw [Heap.n_new];omega⟩⟩
  rw [call_entry T.k43 rfl rfl]
  simp only [go_sem,↓op_app,reduceCtorEq,Nat.reduceAdd,Nat.reduceSub,Nat.reduceMul,Nat.reduceEqDiff,Nat.reduceLT,Nat.reduceDiv,Nat.reduceMod,Nat.reduceLeDiff,↓reduceIte,c43,hw]
 rcases hl with ⟨rfl | ⟨b,o,c,s,rfl⟩,rfl⟩ | ⟨b,o,c,s,row,rfl,hb,hbn,hbO,hrow⟩
 ·refine ⟨H, .nils,fun d k => ?_,Fresh.refl hw,Or.inl ⟨rfl,rfl⟩⟩
  rw [call_entry T.k43 rfl rfl]
  simp only [go_sem,↓op_app,reduceCtorEq,Nat.reduceAdd,Nat.reduceSub,Nat.reduceMul,Nat.reduceEqDiff,Nat.reduceLT,Nat.reduceDiv,Nat.reduceMod,Nat.reduceLeDiff,↓reduceIte,c43]
 ·exact none b o c s
 ·by_cases h0:es.length=0
  ·obtain rfl:es=[]:=List.eq_nil_of_length_eq_zero h0
   exact none b o c s
  ·refine ⟨(H.new (.cells [])).new (.cells (encEnt es)), .slice (H.n+1) 0 es.length 0 4,fun d k => ?_,(Fresh.new hw).trans (Fresh.new (by rw [Heap.wf_new];exact hw)),Or.inr ⟨H.n+1,0,4,rfl, ?_,by omega,by simp only [Heap.n_new];omega⟩⟩
   ·have e1:¬ b=H.n:=by omega
    have e3:0<es.length:=by omega
    have e4:es.length≤1073741824:=by omega
    have hone:∀ {id:Nat} {k:R},allOne id (encEnt es) k=k:=fun {id k}=>allOne_all (okE_one es)
    have hrd:=fun {id:Nat} {k:List V→R}=>rdNB_all hb hrow h0 (id:=id) (k:=k)
    rw [call_entry T.k43 rfl rfl]
    simp only [go_sem,↓op_app,reduceCtorEq,Nat.reduceAdd,Nat.reduceSub,Nat.reduceMul,Nat.reduceEqDiff,Nat.reduceLT,Nat.reduceDiv,Nat.reduceMod,Nat.reduceLeDiff,↓reduceIte,c43,hw,e1,e3,e4,h0,hrd,hone,Nat.zero_add]
   ·rw [Heap.get_new (by rw [Heap.wf_new];exact hw),if_pos (by rw [Heap.n_new])]
theorem own_call (T:TCode t) {term voted:Nat} {v:V} {es:List Ent} {O:Nat→Prop} (hw:H.wf) (hl:LogAt H v es O) (hn:es.length<100000) (hfu:100000<fuel) :
  ∃ H' v',(∀ (d:Nat) (k:K),callP (evP cp t fuel (d+2)) (.func 40 []) [.agg [.int 7 term, .int 3 voted,v]] H k=k (.agg [.int 7 term, .int 3 voted,v']) H')∧Fresh H H'∧LogN H H' v' es:=by
 have f1:Fresh H ((H.new (.cells [.int 7 term, .int 3 voted,v])).new (.cells [.int 7 0, .int 3 0, .nils])):=(Fresh.new hw).trans (Fresh.new (by rw [Heap.wf_new];exact hw))
 have g1:((H.new (.cells [.int 7 term, .int 3 voted,v])).new (.cells [.int 7 0, .int 3 0, .nils])).get H.n = .cells [.int 7 term, .int 3 voted,v]:=by rw [Heap.get_new (by rw [Heap.wf_new];exact hw),if_neg (by rw [Heap.n_new];omega),Heap.get_new hw,if_pos rfl]
 have g2:((H.new (.cells [.int 7 term, .int 3 voted,v])).new (.cells [.int 7 0, .int 3 0, .nils])).get (H.n+1) = .cells [.int 7 0, .int 3 0, .nils]:=by rw [Heap.get_new (by rw [Heap.wf_new];exact hw),if_pos (by rw [Heap.n_new])]
 have n1:H.n+1 < ((H.new (.cells [.int 7 term, .int 3 voted,v])).new (.cells [.int 7 0, .int 3 0, .nils])).n:=by simp only [Heap.n_new];omega
 generalize hG1:(H.new (.cells [.int 7 term, .int 3 voted,v])).new (.cells [.int 7 0, .int 3 0, .nils])=G1 at f1 g1 g2 n1
 obtain ⟨G2,v',z2,f2,hv'⟩:=kclone_call (cp:=cp) (fuel:=fuel) T f1.wf (hl.fresh f1) hn hfu
 have g1':G2.get H.n = .cells [.int 7 term, .int 3 voted,v]:=(f2.same _ (by omega)).trans g1
 have g2':G2.get (H.n+1) = .cells [.int 7 0, .int 3 0, .nils]:=(f2.same _ n1).trans g2
 have hi:=fun {id:Nat} {k:R}=>hl.is1 (id:=id) (k:=k)
 have hi':=fun {id:Nat} {k:R}=>is1_of hv'.one (id:=id) (k:=k)
 have hw2:=f2.wf
 have n2:H.n+1<G2.n:=Nat.lt_of_lt_of_le n1 f2.n
 have n3:H.n<G2.n:=by omega
 have e1:¬ H.n+1=H.n:=by omega
 have e2:¬ H.n=H.n+1:=by omega
 refine ⟨(G2.put H.n (.cells [.int 7 term, .int 3 voted,v'])).put (H.n+1) (.cells [.int 7 term, .int 3 voted,v']),v',fun d k => ?_,((f1.trans f2).put (Nat.le_refl _) n3).put (by omega) (by rw [Heap.n_put];exact n2), ?_⟩
 ·have z2':=fun {d:Nat} {k:K}=>z2 d k
  rw [call_entry T.k20 rfl rfl]
  simp only [go_sem,↓op_app,reduceCtorEq,Nat.reduceAdd,Nat.reduceSub,Nat.reduceMul,Nat.reduceEqDiff,Nat.reduceLT,Nat.reduceDiv,Nat.reduceMod,Nat.reduceLeDiff,↓reduceIte,c20,retF_cellA,hw,hi,hi',hG1,g1,z2',g1',g2',hw2,n2,n3,e1,e2]
 ·rcases hv' with h | ⟨b,c,s,h1,h2,h3,h4⟩
  ·exact Or.inl h
  ·refine Or.inr ⟨b,c,s,h1, ?_,by have:=f1.n;omega,by simp only [Heap.n_put];exact h4⟩
   rw [Heap.get_put (by rw [Heap.wf_put];exact hw2) (by rw [Heap.n_put];exact n2),if_neg (by omega),Heap.get_put hw2 n3,if_neg (by omega)]
   exact h2
end
end Go.Ev
end
section
namespace Go.Ev
structure KAt (H:Heap) (p term voted:Nat) (v:V) (dp:Nat) (lost:Bool):Prop where
 get:H.get p = .cells [.int 7 term, .int 3 voted,v, .ptr dp 0, .bool lost]
 lt:p<H.n
theorem KAt.fresh {H H':Heap} {p term voted dp:Nat} {v:V} {lost:Bool} (h:KAt H p term voted v dp lost) (f:Fresh H H'):KAt H' p term voted v dp lost:=⟨(f.same _ h.lt).trans h.get,Nat.lt_of_lt_of_le h.lt f.n⟩
theorem ent_ext {a b:Ent} (h1:a.1=b.1) (h2:a.2.1=b.2.1) (h3:a.2.2.1=b.2.2.1) (h4:a.2.2.2=b.2.2.2):a=b:=Prod.ext h1 (Prod.ext h2 (Prod.ext h3 h4))
section
variable {cp:RC→CodeE} {t:Nat→Option FnE} {fuel:Nat} {H:Heap}
theorem hard_call (T:TCode t) {p term voted dp:Nat} {v:V} {lost:Bool} {es:List Ent} {O:Nat→Prop} (hw:H.wf) (hK:KAt H p term voted v dp lost) (hl:LogC H v es O) (hn:es.length<100000) (hfu:100000<fuel) :
  ∃ H' v',(∀ (d:Nat) (k:K),callP (evP cp t fuel (d+3)) (.func 18 []) [.ptr p 0] H k=k (.agg [.int 7 term, .int 3 voted,v']) H')∧Fresh H H'∧LogN H H' v' es:=by
 have f1:Fresh H (H.new (.cells [.int 7 0, .int 3 0, .nils])):=Fresh.new hw
 have g1:(H.new (.cells [.int 7 0, .int 3 0, .nils])).get H.n = .cells [.int 7 0, .int 3 0, .nils]:=by rw [Heap.get_new hw,if_pos rfl]
 have n1:H.n < (H.new (.cells [.int 7 0, .int 3 0, .nils])).n:=by rw [Heap.n_new];omega
 have gK:=(hK.fresh f1).get
 generalize hG1:H.new (.cells [.int 7 0, .int 3 0, .nils])=G1 at f1 g1 n1 gK
 obtain ⟨G2,v',z2,f2,hv'⟩:=own_call (cp:=cp) (fuel:=fuel) (term:=term) (voted:=voted) T f1.wf (hl.fresh f1).at_ hn hfu
 have g1':G2.get H.n = .cells [.int 7 0, .int 3 0, .nils]:=(f2.same _ n1).trans g1
 have hi:=fun {id:Nat} {k:R}=>hl.at_.is1 (id:=id) (k:=k)
 have hi':=fun {id:Nat} {k:R}=>is1_of hv'.one (id:=id) (k:=k)
 have hw2:=f2.wf
 have n2:H.n<G2.n:=Nat.lt_of_lt_of_le n1 f2.n
 refine ⟨G2.put H.n (.cells [.int 7 term, .int 3 voted,v']),v',fun d k => ?_,(f1.trans f2).put (Nat.le_refl _) n2, ?_⟩
 ·have z2':=fun {d:Nat} {k:K}=>z2 d k
  rw [call_entry T.k9 rfl rfl]
  simp only [go_sem,↓op_app,reduceCtorEq,Nat.reduceAdd,Nat.reduceSub,Nat.reduceMul,Nat.reduceEqDiff,Nat.reduceLT,Nat.reduceDiv,Nat.reduceMod,Nat.reduceLeDiff,↓reduceIte,c9,retF_cellA,hw,hi,hi',hG1,gK,z2',g1',hw2,n2]
 ·rcases hv' with h | ⟨b,c,s,h1,h2,h3,h4⟩
  ·exact Or.inl h
  ·refine Or.inr ⟨b,c,s,h1, ?_,by have:=f1.n;omega,by rw [Heap.n_put];exact h4⟩
   rw [Heap.get_put hw2 n2,if_neg (by omega)]
   exact h2
set_option maxHeartbeats 1000000 in
theorem lsame_loop (T:TCode t) {v w:V} {es fs:List Ent} {O Q:Nat→Prop} (hl:LogAt H v es O) (hq:LogAt H w fs Q) (hw:H.wf) (hlen:fs.length=es.length) (hn:es.length<100000) :
  ∀ (m i:Nat),i+m=es.length→es.take i=fs.take i → ∀ (ph:Phi) (kx:Nat→KE) (r:Nat) (e:Env),m<r→pget ⟨.i0, .i0, .i0⟩ e=v→pget ⟨.i0, .i0, .i1⟩ e=w→pget ⟨.i0, .i1, .i4⟩ e = .int 3 es.length→pget ⟨.i0, .i1, .i5⟩ e = .int 3 i →
   ∀ x:R,(es=fs → ∀ e',kx 1 e' H=x)→(es≠fs → ∀ e',pget ⟨.i0, .i0, .i4⟩ e' = .bool false→kx 0 e' H=x) →
   evL c21l0 fuel ph kx r e H=x:=by
 intro m
 induction m with
 | zero=>
  intro i hi ht ph kx r e hr h0 h1 h14 h15 x hY hN
  obtain ⟨r,rfl⟩:∃ q,r=q+1:=⟨r-1,by omega⟩
  obtain rfl:i=es.length:=by omega
  have e1:¬ es.length<es.length:=by omega
  have e2:nn es.length:=by unfold nn;omega
  rw [evL_succ]
  simp only [go_sem,↓op_app,reduceCtorEq,Nat.reduceAdd,Nat.reduceSub,Nat.reduceMul,Nat.reduceEqDiff,Nat.reduceLT,Nat.reduceDiv,Nat.reduceMod,Nat.reduceLeDiff,↓reduceIte,c21l0,h0,h1,h14,h15,e1,e2]
  refine hY ?_ _
  rwa [List.take_of_length_le (by omega),List.take_of_length_le (by omega)] at ht
 | succ m ih=>
  intro i hi ht ph kx r e hr h0 h1 h14 h15 x hY hN
  obtain ⟨r,rfl⟩:∃ q,r=q+1:=⟨r-1,by omega⟩
  have hlt:i<es.length:=by omega
  have g1:es[i]? = some es[i]:=List.getElem?_eq_getElem hlt
  have g2:fs[i]? = some fs[i]:=List.getElem?_eq_getElem (by omega)
  obtain ⟨b,o,c,s,hv,hbn,r1⟩:=hl.four g1
  obtain ⟨b',o',c',s',hv',hbn',r2⟩:=hq.four g2
  rw [hlen] at hv'
  have e1:nn i:=by unfold nn;omega
  have e2:nn es.length:=by unfold nn;omega
  have e3:i<9223372036854775808:=by omega
  have e9:(i+1) % 18446744073709551616=i+1:=by omega
  have hst:es[i]=fs[i]→es.take (i+1)=fs.take (i+1):=fun he=>by
   rw [List.take_succ_eq_append_getElem hlt,List.take_succ_eq_append_getElem (by omega),ht,he]
  have hne:es[i]≠fs[i]→es≠fs:=fun he h=>he (by subst h;rfl)
  generalize es[i]=ea at r1 hst hne
  generalize fs[i]=eb at r2 hst hne
  subst hv
  rw [hv'] at h1
  rw [evL_succ]
  simp only [encEnt1] at r1 r2
  by_cases q1:ea.1=eb.1
  ·by_cases q2:ea.2.1=eb.2.1
   ·by_cases q3:ea.2.2.1=eb.2.2.1
    ·by_cases q4:ea.2.2.2=eb.2.2.2
     ·simp only [go_sem,↓op_app,reduceCtorEq,Nat.reduceAdd,Nat.reduceSub,Nat.reduceMul,Nat.reduceEqDiff,Nat.reduceLT,Nat.reduceDiv,Nat.reduceMod,Nat.reduceLeDiff,↓reduceIte,c21l0,h0,h1,h14,h15,hlt,e1,e2,e3,e9,r1,r2,hw,↓op_aggEq,eqCs_int,eqCs_nil,q1,q2,q3,q4,and_self]
      refine ih (i+1) (by omega) (hst (ent_ext q1 q2 q3 q4)) ph kx r _ (by omega) ?_ ?_ ?_ ?_ x hY hN
      ·simp only [go_sem,reduceCtorEq,↓reduceIte,h0]
      ·simp only [go_sem,↓op_app,reduceCtorEq,Nat.reduceAdd,Nat.reduceSub,Nat.reduceMul,Nat.reduceEqDiff,Nat.reduceLT,Nat.reduceDiv,Nat.reduceMod,Nat.reduceLeDiff,↓reduceIte,h1,hv']
      ·simp only [go_sem,reduceCtorEq,↓reduceIte,h14]
      ·simp only [go_sem,reduceCtorEq,↓reduceIte]
     ·simp only [go_sem,↓op_app,reduceCtorEq,Nat.reduceAdd,Nat.reduceSub,Nat.reduceMul,Nat.reduceEqDiff,Nat.reduceLT,Nat.reduceDiv,Nat.reduceMod,Nat.reduceLeDiff,↓reduceIte,c21l0,h0,h1,h14,h15,hlt,e1,e2,e3,e9,r1,r2,hw,↓op_aggEq,eqCs_int,eqCs_nil,q1,q2,q3,q4,and_self]
      exact hN (hne fun h=>q4 (by rw [h])) _ (by simp only [go_sem,reduceCtorEq,↓reduceIte])
    ·simp only [go_sem,↓op_app,reduceCtorEq,Nat.reduceAdd,Nat.reduceSub,Nat.reduceMul,Nat.reduceEqDiff,Nat.reduceLT,Nat.reduceDiv,Nat.reduceMod,Nat.reduceLeDiff,↓reduceIte,c21l0,h0,h1,h14,h15,hlt,e1,e2,e3,e9,r1,r2,hw,↓op_aggEq,eqCs_int,eqCs_nil,q1,q2,q3,and_self]
     exact hN (hne fun h=>q3 (by rw [h])) _ (by simp only [go_sem,reduceCtorEq,↓reduceIte])
   ·simp only [go_sem,↓op_app,reduceCtorEq,Nat.reduceAdd,Nat.reduceSub,Nat.reduceMul,Nat.reduceEqDiff,Nat.reduceLT,Nat.reduceDiv,Nat.reduceMod,Nat.reduceLeDiff,↓reduceIte,c21l0,h0,h1,h14,h15,hlt,e1,e2,e3,e9,r1,r2,hw,↓op_aggEq,eqCs_int,eqCs_nil,q1,q2,and_self]
    exact hN (hne fun h=>q2 (by rw [h])) _ (by simp only [go_sem,reduceCtorEq,↓reduceIte])
  ·simp only [go_sem,↓op_app,reduceCtorEq,Nat.reduceAdd,Nat.reduceSub,Nat.reduceMul,Nat.reduceEqDiff,Nat.reduceLT,Nat.reduceDiv,Nat.reduceMod,Nat.reduceLeDiff,↓reduceIte,c21l0,h0,h1,h14,h15,hlt,e1,e2,e3,e9,r1,r2,hw,↓op_aggEq,eqCs_int,eqCs_nil,q1,and_self]
   exact hN (hne fun h=>q1 (by rw [h])) _ (by simp only [go_sem,reduceCtorEq,↓reduceIte])
theorem lsame_call (T:TCode t) {v w:V} {es fs:List Ent} {O Q:Nat→Prop} (hw:H.wf) (hl:LogAt H v es O) (hq:LogAt H w fs Q) (hn:es.length<100000) (hm:fs.length<100000) (hfu:100000<fuel) (d:Nat) (k:K) :
  callP (evP cp t fuel (d+1)) (.func 42 []) [v,w] H k=k (.bool (decide (es=fs))) H:=by
 have hs:=fun {id:Nat} {f:Nat→R}=>hl.sn (id:=id) (f:=f)
 have hs2:=fun {id:Nat} {f:Nat→R}=>hq.sn (id:=id) (f:=f)
 have e8:es.length<9223372036854775808:=by omega
 have e9:fs.length<9223372036854775808:=by omega
 rw [call_entry T.k21 rfl rfl]
 by_cases hlen:es.length=fs.length
 ·rw [← hlen] at hs2 e9
  simp only [go_sem,↓op_app,reduceCtorEq,Nat.reduceAdd,Nat.reduceSub,Nat.reduceMul,Nat.reduceEqDiff,Nat.reduceLT,Nat.reduceDiv,Nat.reduceMod,Nat.reduceLeDiff,↓reduceIte,c21,↓hs,↓hs2,e8,e9]
  refine lsame_loop (H:=H) T hl hq hw hlen.symm hn es.length 0 (by omega) rfl _ _ fuel _ (by omega) ?_ ?_ ?_ ?_ _ (fun he e' => ?_) (fun he e' h4 => ?_)
  ·simp only [go_sem,reduceCtorEq,↓reduceIte]
  ·simp only [go_sem,reduceCtorEq,↓reduceIte]
  ·simp only [go_sem,reduceCtorEq,↓reduceIte]
  ·simp only [go_sem,reduceCtorEq,↓reduceIte]
  ·simp only [go_sem,↓op_app,reduceCtorEq,Nat.reduceAdd,Nat.reduceSub,Nat.reduceMul,Nat.reduceEqDiff,Nat.reduceLT,Nat.reduceDiv,Nat.reduceMod,Nat.reduceLeDiff,↓reduceIte,decide_eq_true he]
  ·simp only [go_sem,↓op_app,reduceCtorEq,Nat.reduceAdd,Nat.reduceSub,Nat.reduceMul,Nat.reduceEqDiff,Nat.reduceLT,Nat.reduceDiv,Nat.reduceMod,Nat.reduceLeDiff,↓reduceIte,h4,decide_eq_false he]
 ·have hne:es≠fs:=fun h=>hlen (by rw [h])
  simp only [go_sem,↓op_app,reduceCtorEq,Nat.reduceAdd,Nat.reduceSub,Nat.reduceMul,Nat.reduceEqDiff,Nat.reduceLT,Nat.reduceDiv,Nat.reduceMod,Nat.reduceLeDiff,↓reduceIte,c21,↓hs,↓hs2,e8,e9,hlen,decide_eq_false hne]
theorem ksame_call (T:TCode t) {t1 t2 b1 b2:Nat} {v w:V} {es fs:List Ent} {O Q:Nat→Prop} (hw:H.wf) (hl:LogAt H v es O) (hq:LogAt H w fs Q) (hn:es.length<100000) (hm:fs.length<100000) (hfu:100000<fuel) :
  ∃ H',(∀ (d:Nat) (k:K),callP (evP cp t fuel (d+2)) (.func 16 []) [.agg [.int 7 t1, .int 3 b1,v], .agg [.int 7 t2, .int 3 b2,w]] H k=k (.bool (decide (t1=t2∧b1=b2∧es=fs))) H')∧Fresh H H':=by
 have f1:Fresh H ((H.new (.cells [.int 7 t1, .int 3 b1,v])).new (.cells [.int 7 t2, .int 3 b2,w])):=(Fresh.new hw).trans (Fresh.new (by rw [Heap.wf_new];exact hw))
 have g1:((H.new (.cells [.int 7 t1, .int 3 b1,v])).new (.cells [.int 7 t2, .int 3 b2,w])).get H.n = .cells [.int 7 t1, .int 3 b1,v]:=by rw [Heap.get_new (by rw [Heap.wf_new];exact hw),if_neg (by rw [Heap.n_new];omega),Heap.get_new hw,if_pos rfl]
 have g2:((H.new (.cells [.int 7 t1, .int 3 b1,v])).new (.cells [.int 7 t2, .int 3 b2,w])).get (H.n+1) = .cells [.int 7 t2, .int 3 b2,w]:=by rw [Heap.get_new (by rw [Heap.wf_new];exact hw),if_pos (by rw [Heap.n_new])]
 refine ⟨_,fun d k => ?_,f1⟩
 have c1:=fun {k:K}=>lsame_call (cp:=cp) (fuel:=fuel) T f1.wf (hl.fresh f1) (hq.fresh f1) hn hm hfu d k
 have hi:=fun {id:Nat} {k:R}=>hl.is1 (id:=id) (k:=k)
 have hi':=fun {id:Nat} {k:R}=>hq.is1 (id:=id) (k:=k)
 generalize hG1:(H.new (.cells [.int 7 t1, .int 3 b1,v])).new (.cells [.int 7 t2, .int 3 b2,w])=G1 at f1 g1 g2 c1 ⊢
 rw [call_entry T.k8 rfl rfl]
 by_cases q1:t1=t2
 ·have p1:(t1=t2)=True:=eq_true q1
  by_cases q2:b1=b2
  ·have p2:(b1=b2)=True:=eq_true q2
   have hd:decide (t1=t2∧b1=b2∧es=fs)=decide (es=fs):=by simp [q1,q2]
   rw [hd]
   cases hq3:decide (es=fs) <;> rw [hq3] at c1 <;> simp only [go_sem,↓op_app,reduceCtorEq,Nat.reduceAdd,Nat.reduceSub,Nat.reduceMul,Nat.reduceEqDiff,Nat.reduceLT,Nat.reduceDiv,Nat.reduceMod,Nat.reduceLeDiff,↓reduceIte,c8,hw,hi,hi',hG1,g1,g2,p1,p2,c1]
  ·have hd:decide (t1=t2∧b1=b2∧es=fs)=false:=decide_eq_false fun h=>q2 h.2.1
   rw [hd]
   simp only [go_sem,↓op_app,reduceCtorEq,Nat.reduceAdd,Nat.reduceSub,Nat.reduceMul,Nat.reduceEqDiff,Nat.reduceLT,Nat.reduceDiv,Nat.reduceMod,Nat.reduceLeDiff,↓reduceIte,c8,hw,hi,hi',hG1,g1,g2,p1,q2]
 ·have hd:decide (t1=t2∧b1=b2∧es=fs)=false:=decide_eq_false fun h=>q1 h.1
  rw [hd]
  simp only [go_sem,↓op_app,reduceCtorEq,Nat.reduceAdd,Nat.reduceSub,Nat.reduceMul,Nat.reduceEqDiff,Nat.reduceLT,Nat.reduceDiv,Nat.reduceMod,Nat.reduceLeDiff,↓reduceIte,c8,hw,hi,hi',hG1,g1,g2,q1]
end
end Go.Ev
end

