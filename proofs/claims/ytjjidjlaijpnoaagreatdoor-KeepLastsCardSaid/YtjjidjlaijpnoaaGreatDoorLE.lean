/- LE: a part of the evaluator,of its logic,or of the laws' walk in it. -/
import Derived.Test.YtjjidjlaijpnoaaGreatDoorLD
import Derived.Test.YtjjidjlaijpnoaaGreatDoorLA
import Derived.Test.YtjjidjlaijpnoaaGreatDoorLg
import Derived.ChangeArms
import Derived.Test.YtjjidjlaijpnoaaGreatDoorLC
import Derived.Deep.Slices
import Derived.ChangeSame
import Derived.OpenShut
set_option linter.unusedVariables false
set_option linter.unusedSimpArgs false
set_option linter.unusedSectionVars false
section
namespace Go.Ev
noncomputable def nWorks (args:List V) (H:Heap) (k:K):R:=match args with
 | []=>k (.bool true) H
 | _=>no 0
theorem KAt.mark {H:Heap} {p term voted dp:Nat} {v:V} {lost:Bool} (h:KAt H p term voted v dp lost):KAt H.mark p term voted v dp lost:=⟨by rw [Heap.get_mark];exact h.get,by rw [Heap.n_mark];exact h.lt⟩
theorem LogC.mark {H:Heap} {v:V} {es:List Ent} {O:Nat→Prop} (h:LogC H v es O):LogC H.mark v es O:=by
 rcases h with h | ⟨b,o,c,z,row,h1,h2,h3,h4,h5,h6⟩
 ·exact Or.inl h
 ·exact Or.inr ⟨b,o,c,z,row,h1,by rw [Heap.get_mark];exact h2,by rw [Heap.n_mark];exact h3,h4,h5,h6⟩
theorem LogC.vc {H:Heap} {v:V} {es:List Ent} {O:Nat→Prop} (h:LogC H v es O) {id:Nat} {f:List V→R}:vCells id v f=f [v]:=by
 rcases h with ⟨rfl,_⟩ | ⟨b,o,c,z,row,rfl,_⟩
 ·rfl
 ·rfl
theorem LogN.unmark {H G:Heap} {v:V} {es:List Ent} {w:Nat} (h:LogN H.mark G v es):LogN H (G.unmark w) v es:=by
 cases H;cases G;exact h
theorem bf_rem {id half a b:Nat} {f:Nat→R} (ha:a<half) (hb:b<half) (h0:b≠0):evBF id (.rem half) a b f=f (a % b):=by
 show ifB (Nat.blt a half) (ifB (Nat.blt b half) (ifB (Nat.beq b 0) (no 0) (forceN (Nat.mod a b) f)) (no 0)) (no 0)=_
 rw [ifB_if,if_pos (by rw [Nat.blt_eq];exact ha),ifB_if,if_pos (by rw [Nat.blt_eq];exact hb),ifB_if,if_neg (by rw [nbeq];exact h0),forceN_eq]
 rfl
end Go.Ev
end
section
namespace Go.Ev
theorem wrongE_kind {e:Ent} (h:wrongE e=false):e.2.1≤3:=by
 unfold wrongE at h
 by_cases h1:e.2.1=1∨e.2.1=2
 ·omega
 ·rw [if_neg h1] at h
  by_cases h3:e.2.1=3
  ·omega
  ·rw [if_neg h3] at h;cases h
theorem voted_ok {voted:Nat} (hv:voted<18446744073709551616) (h1:¬ evCF (.lt 9223372036854775808 18446744073709551616) voted 18446744073709551615=true) (h2:¬ evCF (.ge 9223372036854775808 18446744073709551616) voted 3=true):(voted+1) % 18446744073709551616≤3:=by
 have g1:¬ (voted+9223372036854775808) % 18446744073709551616 < (18446744073709551615+9223372036854775808) % 18446744073709551616:=fun h=>h1 (Nat.ble_eq_true_of_le h)
 have g2:¬ (3+9223372036854775808) % 18446744073709551616≤(voted+9223372036854775808) % 18446744073709551616:=fun h=>h2 (Nat.ble_eq_true_of_le h)
 omega
theorem mayK_ok {term voted:Nat} {es:List Ent} (ht:term<18446744073709551616) (hv:voted<18446744073709551616) (ho:∀ e ∈ es,okE e) (hm:mayK term voted es=true):OkK term voted es:=by
 unfold mayK at hm
 by_cases hc:checkE es=0
 ·rw [if_pos hc] at hm
  have hc':=hc
  unfold checkE at hc'
  by_cases h3:300<es.length
  ·rw [if_pos h3] at hc';cases hc'
  ·rw [if_neg h3] at hc'
   have hw:es.any wrongE=false:=by
    cases hh:es.any wrongE with
    | false=>rfl
    | true=>rw [if_pos (Or.inr hh)] at hc';cases hc'
   by_cases x1:evCF (.lt 9223372036854775808 18446744073709551616) voted 18446744073709551615=true
   ·rw [if_pos x1] at hm;cases hm
   ·rw [if_neg x1] at hm
    by_cases x2:evCF (.ge 9223372036854775808 18446744073709551616) voted 3=true
    ·rw [if_pos x2] at hm;cases hm
    ·refine ⟨ht,hv,voted_ok hv x1 x2,by omega,fun e he=>⟨ho e he,wrongE_kind ?_⟩⟩
     have:=List.any_eq_false.1 hw e he
     simpa using this
 ·rw [if_neg hc] at hm;cases hm
structure KA (pk:List UInt8→List (List UInt8)) (H0 H:Heap) (dp kp:Nat) (A:AD) (O:Nat→Prop) (term voted:Nat) (vl:V) (es:List Ent):Prop where
 fresh:Fresh H0 H
 disk:Disk H dp A O
 own:∀ b,O b→H0.n≤b
 jd:∃ a n us,JD pk A a n us
 len:A.len=446
 room:A.room=446
 kpo:H0.n≤kp
 kpn:¬ O kp
 kat:KAt H kp term voted vl dp false
 log:LogC H vl es (With O kp)
 has:HasK A term voted es
 okk:OkK term voted es
 may:mayK term voted es=true
structure KZ (pk:List UInt8→List (List UInt8)) (H0 H:Heap) (dp kp:Nat) (A:AD) (O:Nat→Prop) (term voted:Nat) (vl:V) (es:List Ent) (term' voted':Nat) (es':List Ent):Prop where
 fresh:Fresh H0 H
 disk:Disk H dp A O
 own:∀ b,O b→H0.n≤b
 off:A.off=true
 fuse:A.fuse=0
 len:A.len=446
 room:A.room=446
 usn:A.us.length<1000000
 esn:A.es.length<1000000
 kpo:H0.n≤kp
 kpn:¬ O kp
 kat:KAt H kp term voted vl dp true
 log:LogC H vl es (With O kp)
 next:∀ bs,∃ a n us g,RD pk (A.wake bs) a n us g∧((∀ B:AD,B.len=446→(∀ k,145≤k→find B.es k=g k)→HasK B term voted es)∨(∀ B:AD,B.len=446→(∀ k,145≤k→find B.es k=g k)→HasK B term' voted' es'))
theorem HasK.of {A B:AD} {term voted:Nat} {es:List Ent} (h:HasK A term voted es) (hl:B.len=A.len) (hf:∀ k,145≤k→find B.es k=find A.es k):HasK B term voted es:=
 ⟨by rw [hl];exact h.lo,by rw [hl];exact h.hi,by rw [AD.read,hf 145 (by omega)];exact h.head,fun i e he=>by rw [AD.read,hf (146+i) (by omega)];exact h.ents i e he⟩
section
variable {cp:RC→CodeE} {t:Nat→Option FnE} {fuel:Nat} {H:Heap} {pk:List UInt8→List (List UInt8)} {unpk:List (List UInt8)→Option (List UInt8)}
theorem save_off (T:TCode t) (hc:HasClone t) {dp kp term voted:Nat} {A:AD} {O:Nat→Prop} {vl:V} {lost:Bool} {v0 v1 v:V} (hD:Disk H dp A O) (hK:KAt H kp term voted vl dp lost) (hoff:A.off=true) (o0:v0.one=true) (o1:v1.one=true) (hv:v.one=true) :
  ∃ H',(∀ (d:Nat) (k:K),callP (evP cp t fuel (d+8)) (.func 14 []) [.ptr kp 0, .agg [v0,v1,v]] H k=k (.int 3 6) H')∧Step H (fun b=>b=kp) H' (fun b=>b=kp)∧KAt H' kp term voted vl dp true:=by
 have hw:=hD.wf
 have f1:Fresh H (H.new (.cells [v0,v1,v])):=Fresh.new hw
 generalize hG1:H.new (.cells [v0,v1,v])=G1 at f1
 have k1:=hK.fresh f1
 have gk1:=k1.get
 have w1:=f1.wf
 have kn1:=k1.lt
 have hon:=fun {d:Nat} {k:K}=>on_all (cp:=cp) (fuel:=fuel) (T.disk4 hc) (d:=d) (k:=k) (hD.fresh f1)
 rw [hoff] at hon
 have i0:=fun {id:Nat} {k:R}=>is1_of o0 (id:=id) (k:=k)
 have i1:=fun {id:Nat} {k:R}=>is1_of o1 (id:=id) (k:=k)
 have i2:=fun {id:Nat} {k:R}=>is1_of hv (id:=id) (k:=k)
 refine ⟨G1.put kp (.cells [.int 7 term, .int 3 voted,vl, .ptr dp 0, .bool true]),fun d k => ?_,f1.step.trans (Step.own_put w1 kn1 rfl),⟨by rw [Heap.get_put w1 kn1,if_pos rfl],by rw [Heap.n_put];exact kn1⟩⟩
 rw [call_entry T.k7 rfl rfl]
 cases lost with
 | true=>simp only [go_sem,↓op_app,reduceCtorEq,Nat.reduceAdd,Nat.reduceSub,Nat.reduceMul,Nat.reduceEqDiff,Nat.reduceDiv,Nat.reduceMod,Nat.reduceLeDiff,↓reduceIte,c7,c7r1,c7r2,hw,i0,i1,i2,hG1,gk1,w1,kn1]
 | false=>simp only [go_sem,↓op_app,reduceCtorEq,Nat.reduceAdd,Nat.reduceSub,Nat.reduceMul,Nat.reduceEqDiff,Nat.reduceDiv,Nat.reduceMod,Nat.reduceLeDiff,↓reduceIte,c7,c7r1,c7r2,hw,i0,i1,i2,hG1,gk1,w1,kn1,hon]
theorem save_lost (T:TCode t) {dp kp term voted:Nat} {vl:V} {v0 v1 v:V} (hw:H.wf) (hK:KAt H kp term voted vl dp true) (o0:v0.one=true) (o1:v1.one=true) (hv:v.one=true) :
  ∃ H',(∀ (d:Nat) (k:K),callP (evP cp t fuel (d+8)) (.func 14 []) [.ptr kp 0, .agg [v0,v1,v]] H k=k (.int 3 6) H')∧Step H (fun b=>b=kp) H' (fun b=>b=kp)∧KAt H' kp term voted vl dp true:=by
 have f1:Fresh H (H.new (.cells [v0,v1,v])):=Fresh.new hw
 generalize hG1:H.new (.cells [v0,v1,v])=G1 at f1
 have k1:=hK.fresh f1
 have gk1:=k1.get
 have w1:=f1.wf
 have kn1:=k1.lt
 have i0:=fun {id:Nat} {k:R}=>is1_of o0 (id:=id) (k:=k)
 have i1:=fun {id:Nat} {k:R}=>is1_of o1 (id:=id) (k:=k)
 have i2:=fun {id:Nat} {k:R}=>is1_of hv (id:=id) (k:=k)
 refine ⟨G1.put kp (.cells [.int 7 term, .int 3 voted,vl, .ptr dp 0, .bool true]),fun d k => ?_,f1.step.trans (Step.own_put w1 kn1 rfl),⟨by rw [Heap.get_put w1 kn1,if_pos rfl],by rw [Heap.n_put];exact kn1⟩⟩
 rw [call_entry T.k7 rfl rfl]
 simp only [go_sem,↓op_app,reduceCtorEq,Nat.reduceAdd,Nat.reduceSub,Nat.reduceMul,Nat.reduceEqDiff,Nat.reduceDiv,Nat.reduceMod,Nat.reduceLeDiff,↓reduceIte,c7,c7r1,c7r2,hw,i0,i1,i2,hG1,gk1,w1,kn1]
end
end Go.Ev
end
section
namespace Go.Ev
section
variable {cp:RC→CodeE} {t:Nat→Option FnE} {fuel:Nat} {H:Heap} {pk:List UInt8→List (List UInt8)} {unpk:List (List UInt8)→Option (List UInt8)}
set_option maxHeartbeats 4000000 in
theorem save_any (T:TCode t) (hc:HasClone t) (F:FrameOK pk unpk) (hp:t 60=some (.nat (nPack pk))) {H0:Heap} {dp kp term voted term' voted':Nat} {A:AD} {O:Nat→Prop} {vl v:V} {es es':List Ent} (S:KA pk H0 H dp kp A O term voted vl es) (hl:LogAt H v es' (With O kp)) (ht:term'<18446744073709551616) (hv:voted'<18446744073709551616) (hn:es'.length<9223372036854775808) (hfu:1000000<fuel) :
  ∃ (x:Nat) (H':Heap) (O':Nat→Prop) (A':AD) (vl':V),(∀ (d:Nat) (k:K),callP (evP cp t fuel (d+8)) (.func 14 []) [.ptr kp 0, .agg [.int 7 term', .int 3 voted',v]] H k=k (.int 3 x) H')∧Step H (With O kp) H' (With O' kp) ∧
   ((x≠0∧x≠6∧KA pk H0 H' dp kp A' O' term voted vl' es)∨(x=0∧KA pk H0 H' dp kp A' O' term' voted' vl' es' ∧ ∀ b o n c s,vl' = .slice b o n c s→H.n≤b)∨(x=6∧mayK term' voted' es'=true∧OkK term' voted' es'∧KZ pk H0 H' dp kp A' O' term voted vl' es term' voted' es')):=by
 obtain ⟨fr,hD,own,⟨a,n,us,J⟩,hlen,hroom,kpo,kpn,kat,hlog,has,okk,mayk⟩:=S
 have hw:=hD.wf
 have kn:=kat.lt
 have hlO:LogAt H v es' O:=hl.weak' fun b h=>Or.inl h
 have f1:Fresh H (H.new (.cells [.int 7 term', .int 3 voted',v])):=Fresh.new hw
 have g1:(H.new (.cells [.int 7 term', .int 3 voted',v])).get H.n = .cells [.int 7 term', .int 3 voted',v]:=by rw [Heap.get_new hw,if_pos rfl]
 have n1:H.n < (H.new (.cells [.int 7 term', .int 3 voted',v])).n:=by rw [Heap.n_new];omega
 generalize hG1:H.new (.cells [.int 7 term', .int 3 voted',v])=G1 at f1 g1 n1
 have D1:=hD.fresh f1
 have k1:=kat.fresh f1
 have w1:=f1.wf
 have hon:=fun {d:Nat} {k:K}=>on_all (cp:=cp) (fuel:=fuel) (T.disk4 hc) (d:=d) (k:=k) D1
 rw [J.off] at hon
 have s2:Step G1 (With O kp) (G1.put kp (.cells [.int 7 term, .int 3 voted,vl, .ptr dp 0, .bool false])) (With O kp):=Step.own_put w1 k1.lt (Or.inr rfl)
 have q2:∀ j,(G1.put kp (.cells [.int 7 term, .int 3 voted,vl, .ptr dp 0, .bool false])).get j=G1.get j:=fun j=>by
  rw [Heap.get_put w1 k1.lt]
  split
  ·rename_i e;rw [e,k1.get]
  ·rfl
 have m2:(G1.put kp (.cells [.int 7 term, .int 3 voted,vl, .ptr dp 0, .bool false])).n=G1.n:=Heap.n_put
 have D2:Disk (G1.put kp (.cells [.int 7 term, .int 3 voted,vl, .ptr dp 0, .bool false])) dp A O:=(D1.keep (Q:=fun b=>b=kp) (Step.own_put w1 k1.lt rfl) fun b hb e=>kpn (by rw [← e];exact hb)).1
 have fr2:Fresh H0 (G1.put kp (.cells [.int 7 term, .int 3 voted,vl, .ptr dp 0, .bool false])):=(fr.trans f1).put kpo k1.lt
 generalize hG2:G1.put kp (.cells [.int 7 term, .int 3 voted,vl, .ptr dp 0, .bool false])=G2 at s2 q2 m2 D2 fr2
 have w2:=D2.wf
 have g2:G2.get H.n = .cells [.int 7 term', .int 3 voted',v]:=(q2 _).trans g1
 have l2:LogAt G2 v es' (With O kp):=(hl.fresh f1).keep s2
 have kat2:KAt G2 kp term voted vl dp false:=⟨(q2 _).trans k1.get,by rw [m2];exact k1.lt⟩
 obtain ⟨G3,z3,f3⟩:=may_k_call (cp:=cp) (fuel:=fuel) (term:=term') (voted:=voted') T w2 l2 hn (by omega)
 have g3:G3.get H.n = .cells [.int 7 term', .int 3 voted',v]:=(f3.same _ (by omega)).trans g2
 have hi:=fun {id:Nat} {k:R}=>is1_of hl.one (id:=id) (k:=k)
 have gk1:=k1.get
 have gk2:=kat2.get
 have kn1:=k1.lt
 have z3':=fun {d:Nat} {k:K}=>z3 (d+2) k
 cases hm:mayK term' voted' es' with
 | false=>
  rw [hm] at z3'
  refine ⟨2,G3,O,A,vl,fun d k => ?_,(f1.step.trans s2).trans f3.step,Or.inl ⟨by decide,by decide,⟨fr2.trans f3,D2.fresh f3,own,⟨a,n,us,J⟩,hlen,hroom,kpo,kpn,kat2.fresh f3,((hlog.fresh f1).keep s2).fresh f3,has,okk,mayk⟩⟩⟩
  rw [call_entry T.k7 rfl rfl]
  simp only [go_sem,↓op_app,reduceCtorEq,Nat.reduceAdd,Nat.reduceSub,Nat.reduceMul,Nat.reduceEqDiff,Nat.reduceDiv,Nat.reduceMod,Nat.reduceLeDiff,↓reduceIte,c7,hw,hi,hG1]
  simp only [go_sem,↓op_app,reduceCtorEq,Nat.reduceAdd,Nat.reduceSub,Nat.reduceMul,Nat.reduceEqDiff,Nat.reduceDiv,Nat.reduceMod,Nat.reduceLeDiff,↓reduceIte,c7r1,c7r2,gk1,g1,hon,w1,kn1,hG2,gk2,g2]
  simp only [go_sem,↓op_app,reduceCtorEq,Nat.reduceAdd,Nat.reduceSub,Nat.reduceMul,Nat.reduceEqDiff,Nat.reduceDiv,Nat.reduceMod,Nat.reduceLeDiff,↓reduceIte,c7r3,g2,z3']
 | true=>
 rw [hm] at z3'
 have Y:=mayK_ok ht hv hl.ok hm
 have Y':=Y
 obtain ⟨y1,y2,y3,y4,y5⟩:=Y'
 obtain ⟨G4,vs,z4,f4,hvs⟩:=sectors_call (cp:=cp) (fuel:=fuel) (term:=term') (voted:=voted') T f3.wf y1 y2 (l2.fresh f3) (by omega) (fun e he=>by have:=(y5 e he).2;omega) (by omega)
 have f24:=f3.trans f4
 rw [← ssOf_secs,← ssOf_length term' voted'] at hvs
 have D4:=D2.fresh f24
 obtain ⟨G5,vw,f5,hvw,hL⟩:=save_loop (cp:=cp) (fuel:=fuel) (v3 := .ptr H.n 0) T hc D4 J.off (kat2.fresh f24) hvs (by rw [ssOf_length];omega) (by omega) (by omega) (ssOf term' voted' es').length 0 G4 .nils (by omega) (Fresh.refl f4.wf) Gr.nils
 have hsl:=ssOf_length term' voted' es'
 have f25:=f24.trans f5
 have D5:=D2.fresh f25
 have g5:G5.get H.n = .cells [.int 7 term', .int 3 voted',v]:=((f25).same _ (by omega)).trans g2
 have kat5:=kat2.fresh f25
 have l5:=l2.fresh f25
 have lg5:=((hlog.fresh f1).keep s2).fresh f25
 have s25:Step H (With O kp) G5 (With O kp):=(f1.step.trans s2).trans f25.step
 have hsv:=fun {id:Nat} {g:Nat→R}=>hvs.sn (id:=id) (f:=g)
 have hsw:=fun {id:Nat} {g:Nat→R}=>hvw.sn (id:=id) (f:=g)
 have z4':=fun {d:Nat} {k:K}=>z4 (d+2) k
 have e1:(ssOf term' voted' es').length<9223372036854775808:=by omega
 have hwl:=difW_len A (ssOf term' voted' es') (ssOf term' voted' es').length
 have e2:(difW A (ssOf term' voted' es') (ssOf term' voted' es').length).length<9223372036854775808:=by omega
 have e3:nn (difW A (ssOf term' voted' es') (ssOf term' voted' es').length).length:=by unfold nn;omega
 have e4:nn 60:=by unfold nn;omega
 have gk5:=kat5.get
 by_cases h60:60 < (difW A (ssOf term' voted' es') (ssOf term' voted' es').length).length
 ·refine ⟨3,G5,O,A,vl,fun d k => ?_,s25,Or.inl ⟨by decide,by decide,⟨fr2.trans f25,D5,own,⟨a,n,us,J⟩,hlen,hroom,kpo,kpn,kat5,lg5,has,okk,mayk⟩⟩⟩
  rw [call_entry T.k7 rfl rfl]
  simp only [go_sem,↓op_app,reduceCtorEq,Nat.reduceAdd,Nat.reduceSub,Nat.reduceMul,Nat.reduceEqDiff,Nat.reduceDiv,Nat.reduceMod,Nat.reduceLeDiff,↓reduceIte,c7,hw,hi,hG1]
  simp only [go_sem,↓op_app,reduceCtorEq,Nat.reduceAdd,Nat.reduceSub,Nat.reduceMul,Nat.reduceEqDiff,Nat.reduceDiv,Nat.reduceMod,Nat.reduceLeDiff,↓reduceIte,c7r1,c7r2,gk1,g1,hon,w1,kn1,hG2,gk2,g2]
  simp only [go_sem,↓op_app,reduceCtorEq,Nat.reduceAdd,Nat.reduceSub,Nat.reduceMul,Nat.reduceEqDiff,Nat.reduceDiv,Nat.reduceMod,Nat.reduceLeDiff,↓reduceIte,c7r3,c7r4,c7r5,g2,z3',g3,z4',hi,↓hsv,e1]
  refine hL (d+4) _ fuel _ (by omega) ?_ ?_ ?_ ?_ ?_ ?_ _ (fun e' q0 q3 q5 => ?_)
  ·simp only [go_sem,reduceCtorEq,↓reduceIte]
  ·simp only [go_sem,reduceCtorEq,↓reduceIte]
  ·simp only [go_sem,reduceCtorEq,↓reduceIte]
  ·simp only [go_sem,reduceCtorEq,↓reduceIte]
  ·simp only [go_sem,reduceCtorEq,↓reduceIte]
  ·simp only [go_sem,reduceCtorEq,↓reduceIte]
  simp only [go_sem,↓op_app,reduceCtorEq,Nat.reduceAdd,Nat.reduceSub,Nat.reduceMul,Nat.reduceEqDiff,Nat.reduceDiv,Nat.reduceMod,Nat.reduceLeDiff,↓reduceIte,c7r6,q0,q3,q5,↓hsw,e2,e3,e4,h60]
 have hgood:∀ w ∈ difW A (ssOf term' voted' es') (ssOf term' voted' es').length,goodW A.len w∧okT w.2:=fun w hw=>by
  obtain ⟨j,hj,rfl⟩:=difW_mem hw
  have hm:=ssOf_32 (term:=term') (voted:=voted') y5 ((ssOf term' voted' es').getD j []) (by
   rw [List.getD_eq_getElem?_getD,List.getElem?_eq_getElem hj]
   exact List.getElem_mem _)
  refine ⟨⟨by show 145≤145+j;omega,by show 145+j<_;omega,hm⟩, ?_⟩
  show enc _<256 ^ _
  exact enc_lt _
 have hw3:∀ w ∈ difW A (ssOf term' voted' es') (ssOf term' voted' es').length,okT w.2:=fun w hw=>(hgood w hw).2
 have hmay:=mayP_of (len:=A.len) (seen:=[]) (fun w hw=>⟨(hgood w hw).1,fun h=>(by cases h)⟩) (difW_nodup (A:=A) (ss:=ssOf term' voted' es') (ssOf term' voted' es').length)
 have J0:=J.with_fuse (f:=0)
 have hcode:=J0.code F rfl (by show A.len≤A.room;omega) hw3
 have hdid:=J0.commit F rfl hw3
 have hany:=J.commit_any F hw3
 have h0:(({ A with fuse:=0 }:AD).commit pk a (difW A (ssOf term' voted' es') (ssOf term' voted' es').length)).2=0:=by
  rw [hcode]
  unfold Ev.code
  by_cases hz:(difW A (ssOf term' voted' es') (ssOf term' voted' es').length).length=0
  ·rw [if_pos hz]
  ·rw [if_neg hz,if_neg h60,if_neg (by rw [hmay];exact Bool.noConfusion)]
 have hlaid:=(hdid.yes h0).1
 have hws:WsAt G5 vw (difW A (ssOf term' voted' es') (ssOf term' voted' es').length) O:=by
  obtain ⟨p1,p2,⟨p3,p4⟩ | ⟨b,c,s,p3,p4,p5,p6,p7,p8⟩⟩:=hvw
  ·exact Or.inl ⟨p3,List.eq_nil_of_length_eq_zero p4⟩
  ·exact Or.inr ⟨b,c,s,p3,p6,p8,fun hb=>by have:=hD.lt b hb;have:=f1.n;have:=f24.n;omega⟩
 obtain ⟨G6,O6,z6,s6,D6⟩:=commit_call (cp:=cp) (fuel:=fuel) T hc F hp D5 J.rec_.can hws (fun w hw=>⟨by have:=(hgood w hw).1.2.1;omega,by have:=(hgood w hw).1.2.2;omega,(hgood w hw).2⟩) (by omega) (by omega)
 have hHO:¬ O H.n:=fun hb=>by have:=hD.lt _ hb;omega
 have n5:H.n<G5.n:=by have:=f24.n;have:=f5.n;omega
 have g6:G6.get H.n = .cells [.int 7 term', .int 3 voted',v]:=(s6.same _ n5 hHO).1.trans g5
 have kat6:KAt G6 kp term voted vl dp false:=⟨(s6.same _ kat5.lt kpn).1.trans kat5.get,Nat.lt_of_lt_of_le kat5.lt s6.n⟩
 have kpn6:¬ O6 kp:=(s6.same _ kat5.lt kpn).2
 have l6:LogAt G6 v es' (With O6 kp):=l5.keep s6.with_
 have lg6:=lg5.keep s6.with_
 have w6:=s6.wf
 obtain ⟨fr6,own6⟩:=(fr2.trans f25).own s6 own
 have gk6:=kat6.get
 have kn6:=kat6.lt
 have hnew:∀ B:AD,B.len=446→(∀ k,145≤k→find B.es k=find (laid A.es (difW A (ssOf term' voted' es') (ssOf term' voted' es').length)) k)→HasK B term' voted' es':=fun B hB hf=>
  ssOf_has (by omega) (by omega) fun j hj=>difW_laid (A:=A) (n:=(ssOf term' voted' es').length) hf (by omega)
 rcases hany with ⟨b1,b2,b3,b4,b5,b6⟩ | ⟨⟨b1,b2,b3,b4,b5,b6,b7,b8,b9⟩,b10⟩
 ·rw [b2,h0] at z6
  obtain ⟨G7,vl',z7,f7,hvl⟩:=own_call (cp:=cp) (fuel:=fuel) (term:=term') (voted:=voted') T w6 l6 (by omega) (by omega)
  have kat7:=kat6.fresh f7
  have w7:=f7.wf
  have D7:=D6.fresh f7
  have hl7:LogC G7 vl' es' (With O6 kp):=hvl.at_ (fun e he=>(y5 e he).1) fun b hb=>hb.elim (fun h=>D6.lt b h) fun h=>by rw [h];exact kat6.lt
  have s8:Step G7 (With O6 kp) ((G7.put kp (.cells [.int 7 term', .int 3 voted',vl', .ptr dp 0, .bool false])).put kp (.cells [.int 7 term', .int 3 voted',vl', .ptr dp 0, .bool false])) (With O6 kp):=(Step.own_put w7 kat7.lt (Or.inr rfl)).trans (Step.own_put (by rw [Heap.wf_put];exact w7) (by rw [Heap.n_put];exact kat7.lt) (Or.inr rfl))
  have D8:=(D7.keep (Q:=fun b=>b=kp) ((Step.own_put (P:=fun b=>b=kp) (x := .cells [.int 7 term', .int 3 voted',vl', .ptr dp 0, .bool false]) w7 kat7.lt rfl).trans (Step.own_put (P:=fun b=>b=kp) (x := .cells [.int 7 term', .int 3 voted',vl', .ptr dp 0, .bool false]) (by rw [Heap.wf_put];exact w7) (by rw [Heap.n_put];exact kat7.lt) rfl)) fun b hb e=>kpn6 (by rw [← e];exact hb)).1
  have g9:((G7.put kp (.cells [.int 7 term', .int 3 voted',vl', .ptr dp 0, .bool false])).put kp (.cells [.int 7 term', .int 3 voted',vl', .ptr dp 0, .bool false])).get kp = .cells [.int 7 term', .int 3 voted',vl', .ptr dp 0, .bool false]:=by rw [Heap.get_put (by rw [Heap.wf_put];exact w7) (by rw [Heap.n_put];exact kat7.lt),if_pos rfl]
  have n9:kp < ((G7.put kp (.cells [.int 7 term', .int 3 voted',vl', .ptr dp 0, .bool false])).put kp (.cells [.int 7 term', .int 3 voted',vl', .ptr dp 0, .bool false])).n:=by simp only [Heap.n_put];exact kat7.lt
  have fr9:Fresh H0 ((G7.put kp (.cells [.int 7 term', .int 3 voted',vl', .ptr dp 0, .bool false])).put kp (.cells [.int 7 term', .int 3 voted',vl', .ptr dp 0, .bool false])):=((fr6.trans f7).put kpo kat7.lt).put kpo (by rw [Heap.n_put];exact kat7.lt)
  refine ⟨0,_,O6,_,vl',fun d k => ?_,(s25.trans s6.with_).trans (f7.step.trans s8),Or.inr (Or.inl ⟨rfl,⟨fr9,D8,own6,b6,b3.trans hlen,b4.trans hroom,kpo,kpn6,⟨g9,n9⟩,hl7.keep s8,hnew _ (b3.trans hlen) (fun k hk=>by rw [b5];exact hlaid k hk),Y,hm⟩,fun b o n c s hvb => ?_⟩)⟩
  rotate_left
  ·rcases hvl with ⟨h,_⟩ | ⟨b',c',s',h,_,h5,_⟩
   ·rw [h] at hvb;cases hvb
   ·rw [h] at hvb;cases hvb
    have:=f1.n;have:=f24.n;have:=f5.n;have:=s6.n;omega
  have gk7:=kat7.get
  have kn7:=kat7.lt
  have hi':=fun {id:Nat} {k:R}=>is1_of hvl.one (id:=id) (k:=k)
  have z6':=fun {k:K}=>z6 d k
  have z7':=fun {k:K}=>z7 (d+5) k
  rw [call_entry T.k7 rfl rfl]
  simp only [go_sem,↓op_app,reduceCtorEq,Nat.reduceAdd,Nat.reduceSub,Nat.reduceMul,Nat.reduceEqDiff,Nat.reduceDiv,Nat.reduceMod,Nat.reduceLeDiff,↓reduceIte,c7,hw,hi,hG1]
  simp only [go_sem,↓op_app,reduceCtorEq,Nat.reduceAdd,Nat.reduceSub,Nat.reduceMul,Nat.reduceEqDiff,Nat.reduceDiv,Nat.reduceMod,Nat.reduceLeDiff,↓reduceIte,c7r1,c7r2,gk1,g1,hon,w1,kn1,hG2,gk2,g2]
  simp only [go_sem,↓op_app,reduceCtorEq,Nat.reduceAdd,Nat.reduceSub,Nat.reduceMul,Nat.reduceEqDiff,Nat.reduceDiv,Nat.reduceMod,Nat.reduceLeDiff,↓reduceIte,c7r3,c7r4,c7r5,g2,z3',g3,z4',hi,↓hsv,e1]
  refine hL (d+4) _ fuel _ (by omega) ?_ ?_ ?_ ?_ ?_ ?_ _ (fun e' q0 q3 q5 => ?_)
  ·simp only [go_sem,reduceCtorEq,↓reduceIte]
  ·simp only [go_sem,reduceCtorEq,↓reduceIte]
  ·simp only [go_sem,reduceCtorEq,↓reduceIte]
  ·simp only [go_sem,reduceCtorEq,↓reduceIte]
  ·simp only [go_sem,reduceCtorEq,↓reduceIte]
  ·simp only [go_sem,reduceCtorEq,↓reduceIte]
  simp only [go_sem,↓op_app,reduceCtorEq,Nat.reduceAdd,Nat.reduceSub,Nat.reduceMul,Nat.reduceEqDiff,Nat.reduceDiv,Nat.reduceMod,Nat.reduceLeDiff,↓reduceIte,c7r6,q0,q3,q5,↓hsw,e2,e3,e4,h60]
  simp only [go_sem,↓op_app,reduceCtorEq,Nat.reduceAdd,Nat.reduceSub,Nat.reduceMul,Nat.reduceEqDiff,Nat.reduceDiv,Nat.reduceMod,Nat.reduceLeDiff,↓reduceIte,c7r7,c7r8,q0,q3,q5,gk5,z6',g6,z7',hi,hi',gk7,w7,kn7]
  simp only [go_sem,↓op_app,reduceCtorEq,Nat.reduceAdd,Nat.reduceSub,Nat.reduceMul,Nat.reduceEqDiff,Nat.reduceDiv,Nat.reduceMod,Nat.reduceLeDiff,↓reduceIte,c7r9,c7r10,c7r11,q0,w7,kn7]
 ·rw [b2] at z6
  have s8:Step G6 (With O6 kp) (G6.put kp (.cells [.int 7 term, .int 3 voted,vl, .ptr dp 0, .bool true])) (With O6 kp):=Step.own_put w6 kn6 (Or.inr rfl)
  have D8:=(D6.keep (Q:=fun b=>b=kp) (Step.own_put (P:=fun b=>b=kp) (x := .cells [.int 7 term, .int 3 voted,vl, .ptr dp 0, .bool true]) w6 kn6 rfl) fun b hb e=>kpn6 (by rw [← e];exact hb)).1
  refine ⟨6,_,O6,_,vl,fun d k => ?_,(s25.trans s6.with_).trans s8,Or.inr (Or.inr ⟨rfl,rfl,Y,⟨fr6.put kpo kn6,D8,own6,b1,b3,b5.trans hlen,b6.trans hroom,b7,b8,kpo,kpn6,⟨by rw [Heap.get_put w6 kn6,if_pos rfl],by rw [Heap.n_put];exact kn6⟩,lg6.keep s8,fun bs => ?_⟩⟩)⟩
  ·have z6':=fun {k:K}=>z6 d k
   rw [call_entry T.k7 rfl rfl]
   simp only [go_sem,↓op_app,reduceCtorEq,Nat.reduceAdd,Nat.reduceSub,Nat.reduceMul,Nat.reduceEqDiff,Nat.reduceDiv,Nat.reduceMod,Nat.reduceLeDiff,↓reduceIte,c7,hw,hi,hG1]
   simp only [go_sem,↓op_app,reduceCtorEq,Nat.reduceAdd,Nat.reduceSub,Nat.reduceMul,Nat.reduceEqDiff,Nat.reduceDiv,Nat.reduceMod,Nat.reduceLeDiff,↓reduceIte,c7r1,c7r2,gk1,g1,hon,w1,kn1,hG2,gk2,g2]
   simp only [go_sem,↓op_app,reduceCtorEq,Nat.reduceAdd,Nat.reduceSub,Nat.reduceMul,Nat.reduceEqDiff,Nat.reduceDiv,Nat.reduceMod,Nat.reduceLeDiff,↓reduceIte,c7r3,c7r4,c7r5,g2,z3',g3,z4',hi,↓hsv,e1]
   refine hL (d+4) _ fuel _ (by omega) ?_ ?_ ?_ ?_ ?_ ?_ _ (fun e' q0 q3 q5 => ?_)
   ·simp only [go_sem,reduceCtorEq,↓reduceIte]
   ·simp only [go_sem,reduceCtorEq,↓reduceIte]
   ·simp only [go_sem,reduceCtorEq,↓reduceIte]
   ·simp only [go_sem,reduceCtorEq,↓reduceIte]
   ·simp only [go_sem,reduceCtorEq,↓reduceIte]
   ·simp only [go_sem,reduceCtorEq,↓reduceIte]
   simp only [go_sem,↓op_app,reduceCtorEq,Nat.reduceAdd,Nat.reduceSub,Nat.reduceMul,Nat.reduceEqDiff,Nat.reduceDiv,Nat.reduceMod,Nat.reduceLeDiff,↓reduceIte,c7r6,q0,q3,q5,↓hsw,e2,e3,e4,h60]
   simp only [go_sem,↓op_app,reduceCtorEq,Nat.reduceAdd,Nat.reduceSub,Nat.reduceMul,Nat.reduceEqDiff,Nat.reduceDiv,Nat.reduceMod,Nat.reduceLeDiff,↓reduceIte,c7r7,c7r8,q0,q3,q5,gk5,z6',g6]
   simp only [go_sem,↓op_app,reduceCtorEq,Nat.reduceAdd,Nat.reduceSub,Nat.reduceMul,Nat.reduceEqDiff,Nat.reduceDiv,Nat.reduceMod,Nat.reduceLeDiff,↓reduceIte,c7r9,c7r10,c7r11,q0,w6,kn6,gk6]
  ·obtain ⟨an,nn',un,g,hR,hg⟩:=b9 bs
   refine ⟨an,nn',un,g,hR, ?_⟩
   rcases hg with h | h
   ·exact Or.inl fun B hB hf=>has.of (hB.trans hlen.symm) fun k hk=>(hf k hk).trans (h k hk)
   ·exact Or.inr fun B hB hf=>hnew B hB fun k hk=>(hf k hk).trans (h k hk)
end
end Go.Ev
end
section
namespace Go.Ev
abbrev Hd:=Nat × Nat × V × List Ent
def HsAt (H:Heap) (v:V) (hs:List Hd):Prop:=(NoneV v∧hs=[]) ∨ ∃ b o c s row,v = .slice b o hs.length c s∧isRow (H.get b) row∧b<H.n ∧ ∀ i h,hs[i]? = some h→row[o+i * 3]? = some (.int 7 h.1)∧row[o+i * 3+1]? = some (.int 3 h.2.1)∧row[o+i * 3+2]? = some h.2.2.1∧h.1<18446744073709551616∧h.2.1<18446744073709551616∧h.2.2.2.length<9223372036854775808∧LogAt H h.2.2.1 h.2.2.2 (fun _=>False)
def U8At (H:Heap) (v:V) (us:List Nat):Prop:=(NoneV v∧us=[]) ∨ ∃ b o c s row,v = .slice b o us.length c s∧isRow (H.get b) row∧b<H.n ∧ ∀ i x,us[i]? = some x→row[o+i]? = some (.int 4 x)∧x<256
theorem HsAt.fresh {H H':Heap} {v:V} {hs:List Hd} (h:HsAt H v hs) (f:Fresh H H'):HsAt H' v hs:=by
 rcases h with h | ⟨b,o,c,s,row,h1,h2,h3,h4⟩
 ·exact Or.inl h
 ·exact Or.inr ⟨b,o,c,s,row,h1,by rw [f.same b h3];exact h2,Nat.lt_of_lt_of_le h3 f.n,fun i x hx=>let ⟨a1,a2,a3,a4,a5,a6,a7⟩:=h4 i x hx; ⟨a1,a2,a3,a4,a5,a6,a7.fresh f⟩⟩
theorem U8At.fresh {H H':Heap} {v:V} {us:List Nat} (h:U8At H v us) (f:Fresh H H'):U8At H' v us:=by
 rcases h with h | ⟨b,o,c,s,row,h1,h2,h3,h4⟩
 ·exact Or.inl h
 ·exact Or.inr ⟨b,o,c,s,row,h1,by rw [f.same b h3];exact h2,Nat.lt_of_lt_of_le h3 f.n,h4⟩
theorem HsAt.sn {H:Heap} {v:V} {hs:List Hd} (h:HsAt H v hs) {id:Nat} {f:Nat→R}:vSliceN id v (fun _ _ len _ _=>f len) (f 0)=f hs.length:=by
 rcases h with ⟨rfl | ⟨_,_,_,_,rfl⟩,rfl⟩ | ⟨_,_,_,_,_,rfl,_⟩ <;> rfl
theorem U8At.sn {H:Heap} {v:V} {us:List Nat} (h:U8At H v us) {id:Nat} {f:Nat→R}:vSliceN id v (fun _ _ len _ _=>f len) (f 0)=f us.length:=by
 rcases h with ⟨rfl | ⟨_,_,_,_,rfl⟩,rfl⟩ | ⟨_,_,_,_,_,rfl,_⟩ <;> rfl
theorem row_three {bl:Blk} {row:List V} {j:Nat} {a b c:V} (h:isRow bl row) (h0:row[j]? = some a) (h1:row[j+1]? = some b) (h2:row[j+2]? = some c) (o0:a.one=true) (o1:b.one=true) (o2:c.one=true) {id:Nat} {k:List V→R}:rdNB id bl j 3 k=k [a,b,c]:=by
 have hlt:j+2<row.length:=(List.getElem?_eq_some_iff.1 h2).1
 have hd:(row.drop j).take 3=[a,b,c]:=by
  refine List.ext_getElem? fun i => ?_
  rw [List.getElem?_take]
  by_cases hi:i<3
  ·rw [if_pos hi,List.getElem?_drop]
   match i,hi with
   | 0,_=>exact h0
   | 1,_=>exact h1
   | 2,_=>exact h2
  ·rw [if_neg hi,List.getElem?_eq_none (by show 3≤i;omega)]
 have hone:∀ v ∈ [a,b,c],v.one=true:=fun v hv=>by
  simp only [List.mem_cons,List.not_mem_nil,or_false] at hv
  rcases hv with rfl | rfl | rfl <;> assumption
 rcases h with rfl | rfl
 ·rw [rdNB_cells,dropN_eq (by omega),takeN_eq (by rw [List.length_drop];omega),hd]
 ·rw [rdNB_view,dropN_eq (by omega),takeN_eq (by rw [List.length_drop];omega),hd,allOne_all hone]
theorem HsAt.at_ {H:Heap} {v:V} {hs:List Hd} (h:HsAt H v hs) {i:Nat} {x:Hd} (hx:hs[i]? = some x):∃ b o c s,v = .slice b o hs.length c s∧b<H.n∧(∀ {id:Nat} {k:List V→R},rdNB id (H.get b) (o+i * 3) 3 k=k [.int 7 x.1, .int 3 x.2.1,x.2.2.1])∧x.1<18446744073709551616∧x.2.1<18446744073709551616∧x.2.2.2.length<9223372036854775808∧LogAt H x.2.2.1 x.2.2.2 (fun _=>False):=by
 rcases h with ⟨_,rfl⟩ | ⟨b,o,c,s,row,rfl,hb,hbn,h4⟩
 ·simp at hx
 ·obtain ⟨a1,a2,a3,a4,a5,a6,a7⟩:=h4 i x hx
  exact ⟨b,o,c,s,rfl,hbn,row_three hb a1 a2 a3 rfl rfl a7.one,a4,a5,a6,a7⟩
theorem U8At.at_ {H:Heap} {v:V} {us:List Nat} (h:U8At H v us) {i x:Nat} (hx:us[i]? = some x):∃ b o c s,v = .slice b o us.length c s∧b<H.n∧(∀ {id:Nat} {k:V→R},rdB id (H.get b) (o+i) k=k (.int 4 x))∧x<256:=by
 rcases h with ⟨_,rfl⟩ | ⟨b,o,c,s,row,rfl,hb,hbn,h4⟩
 ·simp at hx
 ·exact ⟨b,o,c,s,rfl,hbn,rd_row hb (h4 i x hx).1 rfl,(h4 i x hx).2⟩
theorem LogC.off {H H':Heap} {v:V} {es:List Ent} {Q:Nat→Prop} {kp:Nat} (h:LogC H v es Q) (hk:∀ b o n c s,v = .slice b o n c s→b≠kp) (s:Step H (fun b=>b=kp) H' (fun b=>b=kp)):LogC H' v es Q:=by
 rcases h with h | ⟨b,o,c,z,row,h1,h2,h3,h4,h5,h6⟩
 ·exact Or.inl h
 ·exact Or.inr ⟨b,o,c,z,row,h1,(s.same b h3 (hk _ _ _ _ _ h1)).1.trans h2,Nat.lt_of_lt_of_le h3 s.n,h4,h5,h6⟩
structure KO (pk:List UInt8→List (List UInt8)) (H0 H:Heap) (dp kp:Nat) (A:AD) (O:Nat→Prop) (P1 P2:AD→Prop):Prop where
 fresh:Fresh H0 H
 disk:Disk H dp A O
 own:∀ b,O b→H0.n≤b
 off:A.off=true
 fuse:A.fuse=0
 len:A.len=446
 room:A.room=446
 usn:A.us.length<1000000
 esn:A.es.length<1000000
 kpo:H0.n≤kp
 kpn:¬ O kp
 kat:∃ term voted vl lost,KAt H kp term voted vl dp lost
 next:∀ bs,∃ a n us g,RD pk (A.wake bs) a n us g∧((∀ B:AD,B.len=446→(∀ k,145≤k→find B.es k=g k)→P1 B)∨(∀ B:AD,B.len=446→(∀ k,145≤k→find B.es k=g k)→P2 B))
section
variable {cp:RC→CodeE} {t:Nat→Option FnE} {fuel:Nat} {H:Heap} {pk:List UInt8→List (List UInt8)} {unpk:List (List UInt8)→Option (List UInt8)}
theorem koff_all (T:TCode t) {p:Nat} {A:AD} {O:Nat→Prop} (h:Disk H p A O) :
  ∃ H',(∀ (d:Nat) (k:K),callP (evP cp t fuel (d+1)) (.func 20 []) [.ptr p 0] H k=k (.tup []) H')∧Disk H' p { A with fuse:=0,off:=true } O∧Step H O H' O:=by
 obtain ⟨D,h,h1,h2,h3,h4,rfl⟩:=h
 obtain ⟨g1,g2⟩:=Disk.put h (r:=D.room) (f:=0) (o:=true) h.hr (by unfold nn;omega)
 have hw:=h.wf
 have hp:=h.hp
 have hg:=h.hg
 refine ⟨_,fun d k => ?_,⟨_,g1,h1,h2,rfl,rfl,rfl⟩,g2⟩
 simp only [DR.blk] at hg
 rw [call_entry T.k10 rfl rfl]
 simp only [go_sem,↓op_app,reduceCtorEq,Nat.reduceAdd,Nat.reduceSub,Nat.reduceMul,Nat.reduceEqDiff,Nat.reduceLT,Nat.reduceDiv,Nat.reduceMod,Nat.reduceLeDiff,↓reduceIte,c10,DR.blk,hg,hw,hp]
theorem karm_all (T:TCode t) {p r:Nat} {A:AD} {O:Nat→Prop} (h:Disk H p A O) (hr:nn r) :
  ∃ H',(∀ (d:Nat) (k:K),callP (evP cp t fuel (d+1)) (.func 12 []) [.ptr p 0, .int 3 r] H k=k (.tup []) H')∧Disk H' p { A with fuse:=r } O∧Step H O H' O:=by
 obtain ⟨D,h,h1,h2,h3,h4,rfl⟩:=h
 obtain ⟨g1,g2⟩:=Disk.put h (r:=D.room) (f:=r) (o:=D.off) h.hr hr
 have hw:=h.wf
 have hp:=h.hp
 have hg:=h.hg
 refine ⟨_,fun d k => ?_,⟨_,g1,h1,h2,rfl,h4,rfl⟩,g2⟩
 have h5:nn 0:=by unfold nn;decide
 have h6:max r 0=r:=by omega
 simp only [DR.blk] at hg
 rw [call_entry T.k6 rfl rfl]
 simp only [go_sem,↓op_app,reduceCtorEq,Nat.reduceAdd,Nat.reduceSub,Nat.reduceMul,Nat.reduceEqDiff,Nat.reduceLT,Nat.reduceDiv,Nat.reduceMod,Nat.reduceLeDiff,↓reduceIte,c6,DR.blk,hg,hw,hp,hr,h5,h6]
theorem kwake_off {A:AD} (ho:A.off=false) (hu:A.us=[]) (bs:List Bool):({ A with fuse:=0,off:=true }:AD).wake bs = { A with fuse:=0 }:=by
 cases A
 simp only at ho hu
 subst ho hu
 rfl
theorem KA.off {H0 G G':Heap} {dp kq kp:Nat} {B:AD} {O:Nat→Prop} {t2 v2:Nat} {vq:V} {e2:List Ent} (S:KA pk H0 G dp kq B O t2 v2 vq e2) (s:Step G (fun b=>b=kp) G' (fun b=>b=kp)) (hkp:H0.n≤kp) (hO:¬ O kp) (hne:kq≠kp) (hv:∀ b o n c s,vq = .slice b o n c s→b≠kp):KA pk H0 G' dp kq B O t2 v2 vq e2:=
 ⟨⟨s.wf,Nat.le_trans S.fresh.n s.n,fun b hb=>(s.same b (Nat.lt_of_lt_of_le hb S.fresh.n) (fun e=>by omega)).1.trans (S.fresh.same b hb),fun lo a1 a2=>(s.lo lo (S.fresh.lo lo a1 a2) (Nat.le_trans a2 S.fresh.n) (fun b hb=>by rw [hb];exact Nat.le_trans a2 hkp)).1⟩,
  (S.disk.keep s fun b hb e=>hO (by rw [← e];exact hb)).1,S.own,S.jd,S.len,S.room,S.kpo,S.kpn,⟨(s.same kq S.kat.lt hne).1.trans S.kat.get,Nat.lt_of_lt_of_le S.kat.lt s.n⟩,S.log.off hv s,S.has,S.okk,S.may⟩
theorem KA.go {H0 G G':Heap} {dp kq:Nat} {B:AD} {O:Nat→Prop} {t2 v2:Nat} {vq:V} {e2:List Ent} (S:KA pk H0 G dp kq B O t2 v2 vq e2) (f:Fresh G G'):KA pk H0 G' dp kq B O t2 v2 vq e2:=
 ⟨S.fresh.trans f,S.disk.fresh f,S.own,S.jd,S.len,S.room,S.kpo,S.kpn,S.kat.fresh f,S.log.fresh f,S.has,S.okk,S.may⟩
theorem hard_mild (T:TCode t) {H0 G:Heap} {dp kq:Nat} {B:AD} {O:Nat→Prop} {t2 v2:Nat} {vq:V} {e2:List Ent} (S:KA pk H0 G dp kq B O t2 v2 vq e2) (hfu:1000000<fuel) :
  ∃ Gm G' vh,(∀ (d:Nat) (k:K),callP (evP cp t fuel (d+3)) (.func 18 []) [.ptr kq 0] G.mark k=k (.agg [.int 7 t2, .int 3 v2,vh]) Gm)∧Gm.unmark G.wlo=G'∧(G.n≤Gm.wlo)=True∧Fresh G G'∧LogAt G' vh e2 (fun _=>False):=by
 have hw:=S.disk.wf
 have hn:=S.okk.n
 obtain ⟨Gm,vh,z3,f3m,hvhm⟩:=hard_call (cp:=cp) (fuel:=fuel) T (H:=G.mark) (by rw [Heap.wf_mark];exact hw) S.kat.mark S.log.mark (by omega) (by omega)
 obtain ⟨f3,hlo⟩:=f3m.unmark
 exact ⟨Gm,_,vh,z3,rfl,by simpa using hlo,f3,((hvhm.unmark).at_ (fun e he=>(S.okk.es e he).1) (fun b hb=>hb.elim)).at_⟩
theorem kept_again (T:TCode t) (hc:HasClone t) (F:FrameOK pk unpk) (hu:t 46=some (.nat (nUnpack unpk))) {H0:Heap} {dp kp term voted term' voted':Nat} {A:AD} {O:Nat→Prop} {es es':List Ent}
  {bs:List Bool} (S:KO pk H0 H dp kp A O (fun B=>HasK B term voted es) (fun B=>HasK B term' voted' es')) (Y:OkK term voted es) (hm:mayK term voted es=true) (Y':OkK term' voted' es') (hm':mayK term' voted' es'=true) {G:Heap} {O1:Nat→Prop} (s:Step H O G O1) (D:Disk G dp (A.wake bs) O1) (hfu:1000000<fuel) :
  ∃ H' O' kq vq B t2 v2 e2,(∀ (d:Nat) (k:Go.Ev.K),callP (evP cp t fuel (d+8)) (.func 24 []) [.ptr dp 0] G k=k (.tup [.ptr kq 0, .int 3 0]) H')∧Step G O1 H' O'∧KA pk H0 H' dp kq B O' t2 v2 vq e2∧LogN G H' vq e2∧G.n≤kq∧((t2=term∧v2=voted∧e2=es)∨(t2=term'∧v2=voted'∧e2=es')):=by
 obtain ⟨a,n,us,g,R,hg⟩:=S.next bs
 have hfz:(A.wake bs).fuse=0:=S.fuse
 rcases R.recover with ⟨r1,r2,r3,r4,r5⟩ | ⟨q1,_⟩
 ·have hl:((A.wake bs).recover n us).1.len=446:=r3.trans S.len
  have hr:((A.wake bs).recover n us).1.room=446:=r4.trans S.room
  obtain ⟨fr1,own1⟩:=S.fresh.own s S.own
  rcases hg with h | h
  ·have hK:=h _ hl r5
   obtain ⟨H',O',kq,vq,z,s2,D2,kat,hlc,hne,hkq,hln⟩:=open_call (cp:=cp) (fuel:=fuel) T hc F hu D R.rec_ r1 r2.off hK Y hm hfu
   obtain ⟨fr2,own2⟩:=fr1.own s2 own1
   exact ⟨H',O',kq,vq,_,_,_,_,z,s2,⟨fr2,D2,own2,⟨_,_,_,r2⟩,hl,hr,by have:=fr1.n;omega,fun hb=>hne _ hb rfl,kat,hlc,hK,Y,hm⟩,hln,hkq,Or.inl ⟨rfl,rfl,rfl⟩⟩
  ·have hK:=h _ hl r5
   obtain ⟨H',O',kq,vq,z,s2,D2,kat,hlc,hne,hkq,hln⟩:=open_call (cp:=cp) (fuel:=fuel) T hc F hu D R.rec_ r1 r2.off hK Y' hm' hfu
   obtain ⟨fr2,own2⟩:=fr1.own s2 own1
   exact ⟨H',O',kq,vq,_,_,_,_,z,s2,⟨fr2,D2,own2,⟨_,_,_,r2⟩,hl,hr,by have:=fr1.n;omega,fun hb=>hne _ hb rfl,kat,hlc,hK,Y',hm'⟩,hln,hkq,Or.inr ⟨rfl,rfl,rfl⟩⟩
 ·exact absurd hfz q1
end
end Go.Ev
end
section
namespace Go.Ev
section
variable {cp:RC→CodeE} {t:Nat→Option FnE} {fuel:Nat} {H:Heap} {pk:List UInt8→List (List UInt8)} {unpk:List (List UInt8)→Option (List UInt8)}
set_option maxHeartbeats 4000000 in
theorem last_tail (T:TCode t) (hc:HasClone t) (F:FrameOK pk unpk) (hu:t 46=some (.nat (nUnpack unpk))) (hcm:t 25=some (.nat nCopyM)) (hca:cp r11.1=c11a) (hcb:cp r11.2=c11b)
  {H0:Heap} {dp kp BN term voted term' voted' t3 v3 i x:Nat} {A:AD} {O:Nat→Prop} {es es' e3:List Ent} {lv sv vn vl':V} {hs:List Hd} {bs:List Bool}
  (S:KO pk H0 H dp kp A O (fun B=>HasK B term voted es) (fun B=>HasK B t3 v3 e3)) (Y:OkK term voted es) (hm:mayK term voted es=true) (Y3:OkK t3 v3 e3) (hm3:mayK t3 v3 e3=true) (hor:(x=6∧t3=term'∧v3=voted'∧e3=es')∨(x≠6∧t3=term∧v3=voted∧e3=es))
  (hBN:H.get BN = .cells [.int 7 term, .int 3 voted,vn]) (hBl:H0.n≤BN) (hBn:BN<H.n) (hBO:¬ With O kp BN) (hvn:LogAt H0 vn es (fun _=>False))
  (hls:HsAt H0 lv hs) (hi:hs[i]? = some (term',voted',vl',es')) (hi10:i<10) (hks:KpAt H0 sv bs) (hkb:bs.length<9223372036854775808) (hfu:1000000<fuel)
  {d:Nat} {e:Env} {kn:KE} {kx:Nat→KE} {XX:R} (h0:pget ⟨.i0, .i0, .i0⟩ e=lv) (h2:pget ⟨.i0, .i0, .i2⟩ e=sv) (h7:pget ⟨.i0, .i0, .i7⟩ e = .ptr dp 0) (h10:pget ⟨.i0, .i1, .i0⟩ e = .ptr kp 0) (h11:pget ⟨.i0, .i1, .i1⟩ e = .ptr BN 0) (h12:pget ⟨.i0, .i1, .i2⟩ e = .int 3 i) (h14:pget ⟨.i0, .i1, .i4⟩ e = .int 3 x)
  (hx:∀ (e':Env) (G':Heap) (kq:Nat) (B:AD) (O':Nat→Prop) (t2 v2:Nat) (vq:V) (e2:List Ent) (vn2:V),KA pk H0 G' dp kq B O' t2 v2 vq e2→G'.get BN = .cells [.int 7 t2, .int 3 v2,vn2]→BN<G'.n → ¬ With O' kq BN→LogAt H0 vn2 e2 (fun _=>False) →
   pget ⟨.i0, .i0, .i0⟩ e'=lv→pget ⟨.i0, .i0, .i1⟩ e'=pget ⟨.i0, .i0, .i1⟩ e→pget ⟨.i0, .i0, .i2⟩ e'=sv→pget ⟨.i0, .i0, .i7⟩ e' = .ptr dp 0→pget ⟨.i0, .i1, .i0⟩ e' = .ptr kq 0→pget ⟨.i0, .i1, .i1⟩ e' = .ptr BN 0→pget ⟨.i0, .i1, .i2⟩ e' = .int 3 i→kn e' G'=XX) :
  evC c3q7 fuel (evP cp t fuel (d+8)) e H kn kx=XX:=by
 obtain ⟨t0,v0,vl0,lost,hK⟩:=S.kat
 have hw:=S.disk.wf
 have on:vn.one=true:=hvn.one
 obtain ⟨G1,z1,s1,k1⟩:=save_off (cp:=cp) (fuel:=fuel) (v0 := .int 7 term) (v1 := .int 3 voted) (v:=vn) T hc S.disk hK S.off rfl rfl on
 have D1:=(S.disk.keep s1 fun b hb e=>S.kpn (by rw [← e];exact hb)).1
 have hkB:BN≠kp:=fun e=>hBO (Or.inr e)
 have b1:G1.get BN = .cells [.int 7 term, .int 3 voted,vn]:=(s1.same BN hBn hkB).1.trans hBN
 have f01:Fresh H0 G1:=⟨s1.wf,Nat.le_trans S.fresh.n s1.n,fun b hb=>(s1.same b (Nat.lt_of_lt_of_le hb S.fresh.n) (fun e=>by have:=S.kpo;omega)).1.trans (S.fresh.same b hb),fun lo a1 a2=>(s1.lo lo (S.fresh.lo lo a1 a2) (Nat.le_trans a2 S.fresh.n) (fun b hb=>by rw [hb];exact Nat.le_trans a2 S.kpo)).1⟩
 have S1:KO pk H0 G1 dp kp A O (fun B=>HasK B term voted es) (fun B=>HasK B t3 v3 e3):=⟨f01,D1,S.own,S.off,S.fuse,S.len,S.room,S.usn,S.esn,S.kpo,S.kpn,⟨_,_,_,_,k1⟩,S.next⟩
 have z1':=fun {k:K}=>z1 d k
 simp only [go_sem,↓op_app,reduceCtorEq,Nat.reduceAdd,Nat.reduceSub,Nat.reduceMul,Nat.reduceEqDiff,Nat.reduceDiv,Nat.reduceMod,Nat.reduceLeDiff,↓reduceIte,c3q7,h10,h11,hBN,z1']
 simp only [go_sem,↓op_app,reduceCtorEq,Nat.reduceAdd,Nat.reduceSub,Nat.reduceMul,Nat.reduceEqDiff,Nat.reduceDiv,Nat.reduceMod,Nat.reduceLeDiff,↓reduceIte,c3q8,h7,h2]
 refine wake_call (d:=d+5) T hcm hca hcb D1 S.off S.usn S.esn (hks.fresh f01) hkb hfu _ _ fun G2 O2 s2 D2 => ?_
 have n1:BN<G1.n:=Nat.lt_of_lt_of_le hBn s1.n
 have hBO1:¬ O BN:=fun h=>hBO (Or.inl h)
 obtain ⟨G3,O3,kq,vq,B,t2,v2,e2,z3,s3,S3,hln,hkq,hor2⟩:=kept_again (cp:=cp) (fuel:=fuel) T hc F hu S1 Y hm Y3 hm3 s2 D2 hfu
 have bb2:=s2.same BN n1 hBO1
 have bb3:=s3.same BN (Nat.lt_of_lt_of_le n1 s2.n) bb2.2
 have b3:G3.get BN = .cells [.int 7 term, .int 3 voted,vn]:=bb3.1.trans (bb2.1.trans b1)
 have kk2:=s2.same kp k1.lt S.kpn
 have kn2:kp<G2.n:=Nat.lt_of_lt_of_le k1.lt s2.n
 have kk3:=s3.same kp kn2 kk2.2
 have k3:KAt G3 kp t0 v0 vl0 dp true:=⟨kk3.1.trans (kk2.1.trans k1.get),Nat.lt_of_lt_of_le kn2 s3.n⟩
 obtain ⟨G4,z4,s4,k4⟩:=save_lost (cp:=cp) (fuel:=fuel) (v0 := .int 7 term) (v1 := .int 3 voted) (v:=vn) T S3.disk.wf k3 rfl rfl on
 have hqp:kq≠kp:=by omega
 have S4:=S3.off s4 S.kpo kk3.2 hqp (fun b o n c s hv=>by
  rcases hln with ⟨h,_⟩ | ⟨b',c',s',h,_,h5,_⟩
  ·rw [h] at hv;cases hv
  ·rw [h] at hv;cases hv;omega)
 have n3:BN<G3.n:=Nat.lt_of_lt_of_le (Nat.lt_of_lt_of_le n1 s2.n) s3.n
 have b4:G4.get BN = .cells [.int 7 term, .int 3 voted,vn]:=(s4.same BN n3 hkB).1.trans b3
 have n4:BN<G4.n:=Nat.lt_of_lt_of_le n3 s4.n
 have hBO4:¬ With O3 kq BN:=fun h=>h.elim bb3.2 fun h=>by have:=Nat.lt_of_lt_of_le n1 s2.n;omega
 have z3':=fun {k:K}=>z3 d k
 have z4':=fun {k:K}=>z4 d k
 simp only [go_sem,↓op_app,reduceCtorEq,Nat.reduceAdd,Nat.reduceSub,Nat.reduceMul,Nat.reduceEqDiff,Nat.reduceDiv,Nat.reduceMod,Nat.reduceLeDiff,↓reduceIte,c3q9,h7,z3']
 simp only [go_sem,↓op_app,reduceCtorEq,Nat.reduceAdd,Nat.reduceSub,Nat.reduceMul,Nat.reduceEqDiff,Nat.reduceDiv,Nat.reduceMod,Nat.reduceLeDiff,↓reduceIte,c3q10,h10,h11,b3,z4']
 have hend:∀ (e':Env) (G5:Heap) (vn5:V),Fresh G4 G5∨True→KA pk H0 G5 dp kq B O3 t2 v2 vq e2→G5.get BN = .cells [.int 7 t2, .int 3 v2,vn5]→BN<G5.n→LogAt H0 vn5 e2 (fun _=>False)→pget ⟨.i0, .i0, .i0⟩ e'=lv→pget ⟨.i0, .i0, .i1⟩ e'=pget ⟨.i0, .i0, .i1⟩ e→pget ⟨.i0, .i0, .i2⟩ e'=sv→pget ⟨.i0, .i0, .i7⟩ e' = .ptr dp 0→pget ⟨.i0, .i1, .i1⟩ e' = .ptr BN 0→pget ⟨.i0, .i1, .i2⟩ e' = .int 3 i→pget ⟨.i0, .i1, .i5⟩ e' = .ptr kq 0→evC c3q12 fuel (evP cp t fuel (d+8)) e' G5 kn kx=XX:=by
  intro e' G5 vn5 _ S5 b5 n5 hv5 t0 t1 t2' t7 t11 t12 t15
  obtain ⟨Gm,G6,vh,z6,hG6,hlo,f6,hvh⟩:=hard_mild (cp:=cp) (fuel:=fuel) T S5 hfu
  have b6:G6.get BN = .cells [.int 7 t2, .int 3 v2,vn5]:=(f6.same _ n5).trans b5
  have hn2:=S5.okk.n
  have w6:=f6.wf
  obtain ⟨G7,z7,f7⟩:=ksame_call (cp:=cp) (fuel:=fuel) (t1:=t2) (t2:=t2) (b1:=v2) (b2:=v2) T w6 hvh (hv5.fresh (S5.fresh.trans f6)) (by omega) (by omega) (by omega)
  have hd:decide (t2=t2∧v2=v2∧e2=e2)=true:=by simp
  rw [hd] at z7
  have z6':=fun {k:K}=>z6 (d+5) k
  have z7':=fun {k:K}=>z7 (d+6) k
  have n6:BN<G6.n:=Nat.lt_of_lt_of_le n5 f6.n
  simp only [go_sem,↓op_app,reduceCtorEq,Nat.reduceAdd,Nat.reduceSub,Nat.reduceMul,Nat.reduceEqDiff,Nat.reduceDiv,Nat.reduceMod,Nat.reduceLeDiff,↓reduceIte,c3q12,t15,t11,z6',hlo,hG6,b6,z7']
  simp only [go_sem,↓op_app,reduceCtorEq,Nat.reduceAdd,Nat.reduceSub,Nat.reduceMul,Nat.reduceEqDiff,Nat.reduceDiv,Nat.reduceMod,Nat.reduceLeDiff,↓reduceIte,c3q13,t15]
  refine hx _ G7 kq B O3 t2 v2 vq e2 vn5 ((S5.go f6).go f7) ((f7.same _ n6).trans b6) (Nat.lt_of_lt_of_le n6 f7.n) hBO4 hv5 ?_ ?_ ?_ ?_ ?_ ?_ ?_
  ·simp only [go_sem,reduceCtorEq,↓reduceIte,t0]
  ·simp only [go_sem,reduceCtorEq,↓reduceIte,t1]
  ·simp only [go_sem,reduceCtorEq,↓reduceIte,t2']
  ·simp only [go_sem,reduceCtorEq,↓reduceIte,t7]
  ·simp only [go_sem,reduceCtorEq,↓reduceIte]
  ·simp only [go_sem,reduceCtorEq,↓reduceIte,t11]
  ·simp only [go_sem,reduceCtorEq,↓reduceIte,t12]
 rcases hor with ⟨rfl,rfl,rfl,rfl⟩ | ⟨hx6,rfl,rfl,rfl⟩
 ·have hi0:=hi
  obtain ⟨Gm,G6,vh,z6,hG6,hlo,f6,hvh⟩:=hard_mild (cp:=cp) (fuel:=fuel) T S4 hfu
  obtain ⟨b,o,c,s,hlv,hbn,hrd,q1,q2,q3,q4⟩:=(hls.fresh (S4.fresh.trans f6)).at_ hi
  have hil:i<hs.length:=(List.getElem?_eq_some_iff.1 hi).1
  have b6:G6.get BN = .cells [.int 7 term, .int 3 voted,vn]:=(f6.same _ n4).trans b4
  have hn2:=S4.okk.n
  have hn3:=Y3.n
  have w6:=f6.wf
  obtain ⟨G7,z7,f7⟩:=ksame_call (cp:=cp) (fuel:=fuel) (t1:=t2) (t2:=t3) (b1:=v2) (b2:=v3) T w6 hvh q4 (by omega) (by show e3.length<_;omega) (by omega)
  subst hlv
  have z6':=fun {k:K}=>z6 (d+5) k
  have z7':=fun {k:K}=>z7 (d+6) k
  have ni:nn i:=by unfold nn;omega
  have ni2:i<9223372036854775808:=by omega
  have n6:BN<G6.n:=Nat.lt_of_lt_of_le n4 f6.n
  have n7:BN<G7.n:=Nat.lt_of_lt_of_le n6 f7.n
  have b7:G7.get BN = .cells [.int 7 term, .int 3 voted,vn]:=(f7.same _ n6).trans b6
  have w7:=f7.wf
  have hrd7:∀ {id:Nat} {k:List V→R},rdNB id (G7.get b) (o+i * 3) 3 k=k [.int 7 t3, .int 3 v3,vl']:=fun {id k}=>by rw [f7.same b hbn];exact hrd
  have hi:=fun {id:Nat} {k:R}=>is1_of q4.one (id:=id) (k:=k)
  have S7:=(S4.go f6).go f7
  by_cases hsame:t2=t3∧v2=v3∧e2=e3
  ·rw [decide_eq_true (by exact hsame)] at z7'
   obtain ⟨rfl,rfl,rfl⟩:=hsame
   have f8:Fresh H0 (G7.put BN (.cells [.int 7 t2, .int 3 v2,vl'])):=S7.fresh.put hBl n7
   simp only [go_sem,↓op_app,reduceCtorEq,Nat.reduceAdd,Nat.reduceSub,Nat.reduceMul,Nat.reduceEqDiff,Nat.reduceDiv,Nat.reduceMod,Nat.reduceLeDiff,↓reduceIte,c3q11,h0,h12,h14,h11,z6',hlo,hG6,ni,ni2,hil,hrd,z7',hrd7,b7,w7,n7,hi]
   have S8:=S7.off (Step.own_put (P:=fun b=>b=BN) (x := .cells [.int 7 t2, .int 3 v2,vl']) w7 n7 rfl) hBl (fun h=>hBO4 (Or.inl h)) (fun h=>hBO4 (Or.inr h.symm)) (fun b o n c s hv=>by
    have:=Nat.lt_of_lt_of_le n1 s2.n
    rcases hln with ⟨h,_⟩ | ⟨b',c',s',h,_,h5,_⟩
    ·rw [h] at hv;cases hv
    ·rw [h] at hv;cases hv;omega)
   have hq0:LogAt H0 vl' e2 (fun _=>False):=by
    obtain ⟨_,_,_,_,_,_,_,_,_,_,hq⟩:=hls.at_ hi0
    exact hq
   refine hend _ _ vl' (Or.inr trivial) S8 (by rw [Heap.get_put w7 n7,if_pos rfl]) (by rw [Heap.n_put];exact n7) hq0 ?_ ?_ ?_ ?_ ?_ ?_ ?_
   all_goals (simp only [go_sem,↓op_app,reduceCtorEq,Nat.reduceAdd,Nat.reduceSub,Nat.reduceMul,Nat.reduceEqDiff,Nat.reduceLT,Nat.reduceDiv,Nat.reduceMod,Nat.reduceLeDiff,↓reduceIte,h0,h2,h7,h10,h11,h12])
  ·rw [decide_eq_false (by exact hsame)] at z7'
   have hold:=hor2.resolve_right hsame
   obtain ⟨rfl,rfl,rfl⟩:=hold
   simp only [go_sem,↓op_app,reduceCtorEq,Nat.reduceAdd,Nat.reduceSub,Nat.reduceMul,Nat.reduceEqDiff,Nat.reduceDiv,Nat.reduceMod,Nat.reduceLeDiff,↓reduceIte,c3q11,h0,h12,h14,z6',hlo,hG6,ni,ni2,hil,hrd,z7']
   refine hend _ G7 vn (Or.inr trivial) S7 b7 n7 hvn ?_ ?_ ?_ ?_ ?_ ?_ ?_
   all_goals (simp only [go_sem,↓op_app,reduceCtorEq,Nat.reduceAdd,Nat.reduceSub,Nat.reduceMul,Nat.reduceEqDiff,Nat.reduceLT,Nat.reduceDiv,Nat.reduceMod,Nat.reduceLeDiff,↓reduceIte,h0,h2,h7,h10,h11,h12])
 ·have hsame:t2=t3∧v2=v3∧e2=e3:=by rcases hor2 with h | h <;> exact h
  obtain ⟨rfl,rfl,rfl⟩:=hsame
  simp only [go_sem,↓op_app,reduceCtorEq,Nat.reduceAdd,Nat.reduceSub,Nat.reduceMul,Nat.reduceEqDiff,Nat.reduceDiv,Nat.reduceMod,Nat.reduceLeDiff,↓reduceIte,c3q11,h14,hx6]
  refine hend _ G4 vn (Or.inr trivial) S4 b4 n4 hvn ?_ ?_ ?_ ?_ ?_ ?_ ?_
  all_goals (simp only [go_sem,↓op_app,reduceCtorEq,Nat.reduceAdd,Nat.reduceSub,Nat.reduceMul,Nat.reduceEqDiff,Nat.reduceLT,Nat.reduceDiv,Nat.reduceMod,Nat.reduceLeDiff,↓reduceIte,h0,h2,h7,h10,h11,h12])
end
end Go.Ev
end
section
namespace Go.Ev
theorem LogAt.arg {H0 G:Heap} {v:V} {es:List Ent} {Q:Nat→Prop} (h:LogAt H0 v es (fun _=>False)) (f:Fresh H0 G) (hQ:∀ b,Q b→H0.n≤b):LogAt G v es Q:=by
 rcases h with h | ⟨b,o,c,s,row,h1,h2,h3,h4,h5⟩
 ·exact Or.inl h
 ·exact Or.inr ⟨b,o,c,s,row,h1,by rw [f.same b h3];exact h2,Nat.lt_of_lt_of_le h3 f.n,fun hb=>by have:=hQ b hb;omega,h5⟩
section
variable {cp:RC→CodeE} {t:Nat→Option FnE} {fuel:Nat} {H:Heap} {pk:List UInt8→List (List UInt8)} {unpk:List (List UInt8)→Option (List UInt8)}
theorem KA.arm {H0 G G':Heap} {dp kp f:Nat} {A:AD} {O:Nat→Prop} {t2 v2:Nat} {vq:V} {e2:List Ent} (S:KA pk H0 G dp kp A O t2 v2 vq e2) (s:Step G O G' O) (D:Disk G' dp { A with fuse:=f } O):KA pk H0 G' dp kp { A with fuse:=f } O t2 v2 vq e2:=by
 obtain ⟨a,n,us,J⟩:=S.jd
 exact ⟨(S.fresh.own s S.own).1,D,S.own,⟨a,n,us,J.with_fuse⟩,S.len,S.room,S.kpo,S.kpn,⟨(s.same kp S.kat.lt S.kpn).1.trans S.kat.get,Nat.lt_of_lt_of_le S.kat.lt s.n⟩,S.log.keep s.with_,⟨S.has.lo,S.has.hi,S.has.head,S.has.ents⟩,S.okk,S.may⟩
theorem KA.goes_off {H0 G G':Heap} {dp kp:Nat} {A:AD} {O:Nat→Prop} {t2 v2:Nat} {vq:V} {e2:List Ent} (S:KA pk H0 G dp kp A O t2 v2 vq e2) (s:Step G O G' O) (D:Disk G' dp { A with fuse:=0,off:=true } O):KO pk H0 G' dp kp { A with fuse:=0,off:=true } O (fun B=>HasK B t2 v2 e2) (fun B=>HasK B t2 v2 e2):=by
 obtain ⟨a,n,us,J⟩:=S.jd
 have hk:=J.keys.length
 have hl:=S.len
 exact ⟨(S.fresh.own s S.own).1,D,S.own,rfl,rfl,S.len,S.room,by show A.us.length<_;rw [J.us];show 0<_;omega,by show A.es.length<_;omega,S.kpo,S.kpn,⟨_,_,_,_,⟨(s.same kp S.kat.lt S.kpn).1.trans S.kat.get,Nat.lt_of_lt_of_le S.kat.lt s.n⟩⟩,fun bs=>⟨a,n,us,_,by rw [kwake_off J.off J.us];exact (J.with_fuse (f:=0)).rd,Or.inl fun B hB hf=>S.has.of (hB.trans hl.symm) hf⟩⟩
set_option maxHeartbeats 4000000 in
theorem last_mid (T:TCode t) (hc:HasClone t) (F:FrameOK pk unpk) (hu:t 46=some (.nat (nUnpack unpk))) (hcm:t 25=some (.nat nCopyM)) (hca:cp r11.1=c11a) (hcb:cp r11.2=c11b)
  {H0:Heap} {dp kp BN term voted term' voted' i x:Nat} {A:AD} {O:Nat→Prop} {es es':List Ent} {lv sv vn vl vl':V} {hs:List Hd} {bs:List Bool}
  (S:KA pk H0 H dp kp A O term voted vl es) (hx6:x≠6)
  (hBN:H.get BN = .cells [.int 7 term, .int 3 voted,vn]) (hBl:H0.n≤BN) (hBn:BN<H.n) (hBO:¬ With O kp BN) (hvn:LogAt H0 vn es (fun _=>False))
  (hls:HsAt H0 lv hs) (hi:hs[i]? = some (term',voted',vl',es')) (hi10:i<10) (hks:KpAt H0 sv bs) (hkb:bs.length<9223372036854775808) (hfu:1000000<fuel)
  {d:Nat} {e:Env} {kn:KE} {kx:Nat→KE} {XX:R} (h0:pget ⟨.i0, .i0, .i0⟩ e=lv) (h2:pget ⟨.i0, .i0, .i2⟩ e=sv) (h7:pget ⟨.i0, .i0, .i7⟩ e = .ptr dp 0) (h10:pget ⟨.i0, .i1, .i0⟩ e = .ptr kp 0) (h11:pget ⟨.i0, .i1, .i1⟩ e = .ptr BN 0) (h12:pget ⟨.i0, .i1, .i2⟩ e = .int 3 i) (h14:pget ⟨.i0, .i1, .i4⟩ e = .int 3 x)
  (hx:∀ (e':Env) (G':Heap) (kq:Nat) (B:AD) (O':Nat→Prop) (t2 v2:Nat) (vq:V) (e2:List Ent) (vn2:V),KA pk H0 G' dp kq B O' t2 v2 vq e2→G'.get BN = .cells [.int 7 t2, .int 3 v2,vn2]→BN<G'.n → ¬ With O' kq BN→LogAt H0 vn2 e2 (fun _=>False) →
   pget ⟨.i0, .i0, .i0⟩ e'=lv→pget ⟨.i0, .i0, .i1⟩ e'=pget ⟨.i0, .i0, .i1⟩ e→pget ⟨.i0, .i0, .i2⟩ e'=sv→pget ⟨.i0, .i0, .i7⟩ e' = .ptr dp 0→pget ⟨.i0, .i1, .i0⟩ e' = .ptr kq 0→pget ⟨.i0, .i1, .i1⟩ e' = .ptr BN 0→pget ⟨.i0, .i1, .i2⟩ e' = .int 3 i→kn e' G'=XX) :
  evC c3q5 fuel (evP cp t fuel (d+8)) e H kn kx=XX:=by
 obtain ⟨Gm,G6,vh,z6,hG6,hlo,f6,hvh⟩:=hard_mild (cp:=cp) (fuel:=fuel) T S hfu
 have b6:G6.get BN = .cells [.int 7 term, .int 3 voted,vn]:=(f6.same _ hBn).trans hBN
 have hn2:=S.okk.n
 obtain ⟨G7,z7,f7⟩:=ksame_call (cp:=cp) (fuel:=fuel) (t1:=term) (t2:=term) (b1:=voted) (b2:=voted) T f6.wf hvh (hvn.fresh (S.fresh.trans f6)) (by omega) (by omega) (by omega)
 rw [decide_eq_true (by simp)] at z7
 have S7:=(S.go f6).go f7
 have n6:BN<G6.n:=Nat.lt_of_lt_of_le hBn f6.n
 have n7:BN<G7.n:=Nat.lt_of_lt_of_le n6 f7.n
 have b7:G7.get BN = .cells [.int 7 term, .int 3 voted,vn]:=(f7.same _ n6).trans b6
 obtain ⟨G8,z8,D8,s8⟩:=karm_all (cp:=cp) (fuel:=fuel) (r:=0) T S7.disk (by unfold nn;omega)
 have S8:=S7.arm s8 D8
 obtain ⟨G9,z9,D9,s9⟩:=koff_all (cp:=cp) (fuel:=fuel) T S8.disk
 have S9:=S8.goes_off s9 D9
 have hBO1:¬ O BN:=fun h=>hBO (Or.inl h)
 have bb8:=s8.same BN n7 hBO1
 have n8:BN<G8.n:=Nat.lt_of_lt_of_le n7 s8.n
 have bb9:=s9.same BN n8 hBO1
 have z6':=fun {k:K}=>z6 (d+5) k
 have z7':=fun {k:K}=>z7 (d+6) k
 have z8':=fun {k:K}=>z8 (d+7) k
 have z9':=fun {k:K}=>z9 (d+7) k
 simp only [go_sem,↓op_app,reduceCtorEq,Nat.reduceAdd,Nat.reduceSub,Nat.reduceMul,Nat.reduceEqDiff,Nat.reduceDiv,Nat.reduceMod,Nat.reduceLeDiff,↓reduceIte,c3q5,h7,h10,h11,h14,hx6,z6',hlo,hG6,b6,z7',z8']
 simp only [go_sem,↓op_app,reduceCtorEq,Nat.reduceAdd,Nat.reduceSub,Nat.reduceMul,Nat.reduceEqDiff,Nat.reduceDiv,Nat.reduceMod,Nat.reduceLeDiff,↓reduceIte,c3q6,h7,z9']
 refine last_tail (d:=d) (term':=term') (voted':=voted') (es':=es') (vl':=vl') (i:=i) (x:=x) T hc F hu hcm hca hcb S9 S.okk S.may S.okk S.may (Or.inr ⟨hx6,rfl,rfl,rfl⟩) (bb9.1.trans (bb8.1.trans b7)) hBl (Nat.lt_of_lt_of_le n8 s9.n) hBO hvn hls hi hi10 hks hkb hfu ?_ ?_ ?_ ?_ ?_ ?_ ?_ ?_
 all_goals first | (simp only [go_sem,↓op_app,reduceCtorEq,Nat.reduceAdd,Nat.reduceSub,Nat.reduceMul,Nat.reduceEqDiff,Nat.reduceLT,Nat.reduceDiv,Nat.reduceMod,Nat.reduceLeDiff,↓reduceIte,h0,h2,h7,h10,h11,h12,h14];done) | skip
 intro e' G' kq B O' t2 v2 vq e2 vn2 a1 a2 a3 a4 a5 a6 a7 a8 a9 a10 a11 a12
 refine hx e' G' kq B O' t2 v2 vq e2 vn2 a1 a2 a3 a4 a5 a6 (a7.trans ?_) a8 a9 a10 a11 a12
 simp only [go_sem,↓op_app,reduceCtorEq,Nat.reduceAdd,Nat.reduceSub,Nat.reduceMul,Nat.reduceEqDiff,Nat.reduceLT,Nat.reduceDiv,Nat.reduceMod,Nat.reduceLeDiff,↓reduceIte]
end
end Go.Ev
end
section
namespace Go.Ev
section
variable {cp:RC→CodeE} {t:Nat→Option FnE} {fuel:Nat} {H:Heap} {pk:List UInt8→List (List UInt8)} {unpk:List (List UInt8)→Option (List UInt8)}
set_option maxHeartbeats 4000000 in
theorem last_round (T:TCode t) (hc:HasClone t) (F:FrameOK pk unpk) (hp:t 60=some (.nat (nPack pk))) (hu:t 46=some (.nat (nUnpack unpk))) (hcm:t 25=some (.nat nCopyM)) (hca:cp r11.1=c11a) (hcb:cp r11.2=c11b)
  {H0:Heap} {dp kp BN term voted i f:Nat} {A:AD} {O:Nat→Prop} {es:List Ent} {lv sv vn vl:V} {hs:List Hd} {bs:List Bool}
  (S:KA pk H0 H dp kp A O term voted vl es) (hf:f<1000)
  (hBN:H.get BN = .cells [.int 7 term, .int 3 voted,vn]) (hBl:H0.n≤BN) (hBn:BN<H.n) (hBO:¬ With O kp BN) (hvn:LogAt H0 vn es (fun _=>False))
  (hls:HsAt H0 lv hs) (hil:i<hs.length) (hi10:i<10) (hks:KpAt H0 sv bs) (hkb:bs.length<9223372036854775808) (hfu:1000000<fuel)
  {d:Nat} {e:Env} {kn:KE} {kx:Nat→KE} {XX:R} (h0:pget ⟨.i0, .i0, .i0⟩ e=lv) (h2:pget ⟨.i0, .i0, .i2⟩ e=sv) (h7:pget ⟨.i0, .i0, .i7⟩ e = .ptr dp 0) (h10:pget ⟨.i0, .i1, .i0⟩ e = .ptr kp 0) (h11:pget ⟨.i0, .i1, .i1⟩ e = .ptr BN 0) (h12:pget ⟨.i0, .i1, .i2⟩ e = .int 3 i) (h13:pget ⟨.i0, .i1, .i3⟩ e = .int 3 f)
  (hx:∀ (e':Env) (G':Heap) (kq:Nat) (B:AD) (O':Nat→Prop) (t2 v2:Nat) (vq:V) (e2:List Ent) (vn2:V),KA pk H0 G' dp kq B O' t2 v2 vq e2→G'.get BN = .cells [.int 7 t2, .int 3 v2,vn2]→BN<G'.n → ¬ With O' kq BN→LogAt H0 vn2 e2 (fun _=>False) →
   pget ⟨.i0, .i0, .i0⟩ e'=lv→pget ⟨.i0, .i0, .i1⟩ e'=pget ⟨.i0, .i0, .i1⟩ e→pget ⟨.i0, .i0, .i2⟩ e'=sv→pget ⟨.i0, .i0, .i7⟩ e' = .ptr dp 0→pget ⟨.i0, .i1, .i0⟩ e' = .ptr kq 0→pget ⟨.i0, .i1, .i1⟩ e' = .ptr BN 0→pget ⟨.i0, .i1, .i2⟩ e' = .int 3 i→kn e' G'=XX) :
  evC c3q2 fuel (evP cp t fuel (d+8)) e H kn kx=XX:=by
 have hBO1:¬ O BN:=fun h=>hBO (Or.inl h)
 have hkB:BN≠kp:=fun e=>hBO (Or.inr e)
 obtain ⟨G1,z1,D1,s1⟩:=karm_all (cp:=cp) (fuel:=fuel) (r:=f) T S.disk (by unfold nn;omega)
 have S1:=S.arm s1 D1
 have bb1:=s1.same BN hBn hBO1
 have b1:G1.get BN = .cells [.int 7 term, .int 3 voted,vn]:=bb1.1.trans hBN
 have n1:BN<G1.n:=Nat.lt_of_lt_of_le hBn s1.n
 obtain ⟨⟨term',voted',vl',es'⟩,hi⟩:∃ x,hs[i]? = some x:=⟨_,List.getElem?_eq_getElem hil⟩
 obtain ⟨b,o,c,s,hlv,hbn,hrd,q1,q2,q3,q4⟩:=hls.at_ hi
 subst hlv
 have hWo:∀ b,With O kp b→H0.n≤b:=fun b hb=>hb.elim (S.own b) fun h=>by rw [h];exact S.kpo
 obtain ⟨x,G2,O2,A2,vl2,z2,s2,hres⟩:=save_any (cp:=cp) (fuel:=fuel) T hc F hp S1 (q4.arg S1.fresh hWo) q1 q2 q3 hfu
 have bb2:=s2.same BN n1 hBO
 have b2:G2.get BN = .cells [.int 7 term, .int 3 voted,vn]:=bb2.1.trans b1
 have n2:BN<G2.n:=Nat.lt_of_lt_of_le n1 s2.n
 have hbG:∀ {G:Heap},Fresh H0 G → ∀ {id:Nat} {k:List V→R},rdNB id (G.get b) (o+i * 3) 3 k=k [.int 7 term', .int 3 voted',vl']:=fun {G} fG {id k}=>by rw [fG.same b hbn];exact hrd
 have hrd1:=fun {id:Nat} {k:List V→R}=>hbG S1.fresh (id:=id) (k:=k)
 have ni:nn i:=by unfold nn;omega
 have ni2:i<9223372036854775808:=by omega
 have z1':=fun {k:K}=>z1 (d+7) k
 have z2':=fun {k:K}=>z2 d k
 have hone:=fun {id:Nat} {k:R}=>is1_of q4.one (id:=id) (k:=k)
 simp only [go_sem,↓op_app,reduceCtorEq,Nat.reduceAdd,Nat.reduceSub,Nat.reduceMul,Nat.reduceEqDiff,Nat.reduceDiv,Nat.reduceMod,Nat.reduceLeDiff,↓reduceIte,c3q2,h7,h13,z1']
 simp only [go_sem,↓op_app,reduceCtorEq,Nat.reduceAdd,Nat.reduceSub,Nat.reduceMul,Nat.reduceEqDiff,Nat.reduceDiv,Nat.reduceMod,Nat.reduceLeDiff,↓reduceIte,c3q3,h0,h10,h12,ni,ni2,hil,hrd1,z2']
 rcases hres with ⟨x0,x6,S2⟩ | ⟨rfl,S2,hnb⟩ | ⟨rfl,hm',Y',S2⟩
 ·simp only [go_sem,↓op_app,reduceCtorEq,Nat.reduceAdd,Nat.reduceSub,Nat.reduceMul,Nat.reduceEqDiff,Nat.reduceDiv,Nat.reduceMod,Nat.reduceLeDiff,↓reduceIte,c3q4,x0]
  refine last_mid (d:=d) (term':=term') (voted':=voted') (es':=es') (vl':=vl') (i:=i) (x:=x) T hc F hu hcm hca hcb S2 x6 b2 hBl n2 bb2.2 hvn hls hi hi10 hks hkb hfu ?_ ?_ ?_ ?_ ?_ ?_ ?_ ?_
  all_goals first | (simp only [go_sem,↓op_app,reduceCtorEq,Nat.reduceAdd,Nat.reduceSub,Nat.reduceMul,Nat.reduceEqDiff,Nat.reduceLT,Nat.reduceDiv,Nat.reduceMod,Nat.reduceLeDiff,↓reduceIte,h0,h2,h7,h10,h11,h12];done) | skip
  intro e' G' kq B O' t2 v2 vq e2 vn2 a1 a2 a3 a4 a5 a6 a7 a8 a9 a10 a11 a12
  refine hx e' G' kq B O' t2 v2 vq e2 vn2 a1 a2 a3 a4 a5 a6 (a7.trans ?_) a8 a9 a10 a11 a12
  simp only [go_sem,↓op_app,reduceCtorEq,Nat.reduceAdd,Nat.reduceSub,Nat.reduceMul,Nat.reduceEqDiff,Nat.reduceLT,Nat.reduceDiv,Nat.reduceMod,Nat.reduceLeDiff,↓reduceIte]
 ·have w2:=s2.wf
  have hrd2:=fun {id:Nat} {k:List V→R}=>hbG S2.fresh (id:=id) (k:=k)
  simp only [go_sem,↓op_app,reduceCtorEq,Nat.reduceAdd,Nat.reduceSub,Nat.reduceMul,Nat.reduceEqDiff,Nat.reduceDiv,Nat.reduceMod,Nat.reduceLeDiff,↓reduceIte,c3q4,h0,h11,h12,ni,ni2,hil,hrd2,b2,w2,n2,hone]
  have S3:=S2.off (Step.own_put (P:=fun b=>b=BN) (x := .cells [.int 7 term', .int 3 voted',vl']) w2 n2 rfl) hBl (fun h=>bb2.2 (Or.inl h)) (fun h=>bb2.2 (Or.inr h.symm)) (fun b' o' n' c' s' hv=>by have:=hnb _ _ _ _ _ hv;omega)
  refine last_mid (d:=d) (term':=term') (voted':=voted') (es':=es') (vl':=vl') (vn:=vl') (i:=i) (x:=0) T hc F hu hcm hca hcb S3 (by decide) (by rw [Heap.get_put w2 n2,if_pos rfl]) hBl (by rw [Heap.n_put];exact n2) bb2.2 q4 hls hi hi10 hks hkb hfu ?_ ?_ ?_ ?_ ?_ ?_ ?_ ?_
  all_goals first | (simp only [go_sem,↓op_app,reduceCtorEq,Nat.reduceAdd,Nat.reduceSub,Nat.reduceMul,Nat.reduceEqDiff,Nat.reduceLT,Nat.reduceDiv,Nat.reduceMod,Nat.reduceLeDiff,↓reduceIte,h0,h2,h7,h10,h11,h12];done) | skip
  intro e' G' kq B O' t2 v2 vq e2 vn2 a1 a2 a3 a4 a5 a6 a7 a8 a9 a10 a11 a12
  refine hx e' G' kq B O' t2 v2 vq e2 vn2 a1 a2 a3 a4 a5 a6 (a7.trans ?_) a8 a9 a10 a11 a12
  simp only [go_sem,↓op_app,reduceCtorEq,Nat.reduceAdd,Nat.reduceSub,Nat.reduceMul,Nat.reduceEqDiff,Nat.reduceLT,Nat.reduceDiv,Nat.reduceMod,Nat.reduceLeDiff,↓reduceIte]
 ·obtain ⟨G3,z3,D3,s3⟩:=koff_all (cp:=cp) (fuel:=fuel) T S2.disk
  have hA:({ A2 with fuse:=0,off:=true }:AD)=A2:=by
   have h1:=S2.fuse;have h2:=S2.off
   cases A2;simp only at h1 h2;subst h1 h2;rfl
  rw [hA] at D3
  obtain ⟨fr3,own3⟩:=S2.fresh.own s3 S2.own
  have hO2:¬ O2 BN:=fun h=>bb2.2 (Or.inl h)
  have bb3:=s3.same BN n2 hO2
  have S3:KO pk H0 G3 dp kp A2 O2 (fun B=>HasK B term voted es) (fun B=>HasK B term' voted' es'):=⟨fr3,D3,S2.own,S2.off,S2.fuse,S2.len,S2.room,S2.usn,S2.esn,S2.kpo,S2.kpn,⟨_,_,_,_,⟨(s3.same kp S2.kat.lt S2.kpn).1.trans S2.kat.get,Nat.lt_of_lt_of_le S2.kat.lt s3.n⟩⟩,S2.next⟩
  have z3':=fun {k:K}=>z3 (d+7) k
  simp only [go_sem,↓op_app,reduceCtorEq,Nat.reduceAdd,Nat.reduceSub,Nat.reduceMul,Nat.reduceEqDiff,Nat.reduceDiv,Nat.reduceMod,Nat.reduceLeDiff,↓reduceIte,c3q4]
  simp only [go_sem,↓op_app,reduceCtorEq,Nat.reduceAdd,Nat.reduceSub,Nat.reduceMul,Nat.reduceEqDiff,Nat.reduceDiv,Nat.reduceMod,Nat.reduceLeDiff,↓reduceIte,c3q5]
  simp only [go_sem,↓op_app,reduceCtorEq,Nat.reduceAdd,Nat.reduceSub,Nat.reduceMul,Nat.reduceEqDiff,Nat.reduceDiv,Nat.reduceMod,Nat.reduceLeDiff,↓reduceIte,c3q6,h7,z3']
  refine last_tail (d:=d) (term':=term') (voted':=voted') (es':=es') (vl':=vl') (i:=i) (x:=6) T hc F hu hcm hca hcb S3 S.okk S.may Y' hm' (Or.inl ⟨rfl,rfl,rfl,rfl⟩) (bb3.1.trans b2) hBl (Nat.lt_of_lt_of_le n2 s3.n) bb2.2 hvn hls hi hi10 hks hkb hfu ?_ ?_ ?_ ?_ ?_ ?_ ?_ ?_
  all_goals first | (simp only [go_sem,↓op_app,reduceCtorEq,Nat.reduceAdd,Nat.reduceSub,Nat.reduceMul,Nat.reduceEqDiff,Nat.reduceLT,Nat.reduceDiv,Nat.reduceMod,Nat.reduceLeDiff,↓reduceIte,h0,h2,h7,h10,h11,h12];done) | skip
  intro e' G' kq B O' t2 v2 vq e2 vn2 a1 a2 a3 a4 a5 a6 a7 a8 a9 a10 a11 a12
  refine hx e' G' kq B O' t2 v2 vq e2 vn2 a1 a2 a3 a4 a5 a6 (a7.trans ?_) a8 a9 a10 a11 a12
  simp only [go_sem,↓op_app,reduceCtorEq,Nat.reduceAdd,Nat.reduceSub,Nat.reduceMul,Nat.reduceEqDiff,Nat.reduceLT,Nat.reduceDiv,Nat.reduceMod,Nat.reduceLeDiff,↓reduceIte]
set_option maxHeartbeats 4000000 in
theorem lasts_loop (T:TCode t) (hc:HasClone t) (F:FrameOK pk unpk) (hp:t 60=some (.nat (nPack pk))) (hu:t 46=some (.nat (nUnpack unpk))) (hcm:t 25=some (.nat nCopyM)) (hca:cp r11.1=c11a) (hcb:cp r11.2=c11b)
  {H0:Heap} {dp BN:Nat} {lv uv sv:V} {hs:List Hd} {us:List Nat} {bs:List Bool} (hBl:H0.n≤BN) (hls:HsAt H0 lv hs) (hhn:hs.length<9223372036854775808) (hus:U8At H0 uv us) (hun:us.length<9223372036854775808) (hks:KpAt H0 sv bs) (hkb:bs.length<9223372036854775808) (hfu:1000000<fuel) :
  ∀ (m i:Nat) (G:Heap) (A:AD) (O:Nat→Prop) (kp term voted:Nat) (vl vn:V) (es:List Ent),10-i≤m→i≤10→KA pk H0 G dp kp A O term voted vl es→G.get BN = .cells [.int 7 term, .int 3 voted,vn]→BN<G.n → ¬ With O kp BN→LogAt H0 vn es (fun _=>False) →
  ∀ (d:Nat) (kx:Nat→KE) (r:Nat) (e:Env),m<r→pget ⟨.i0, .i0, .i0⟩ e=lv→pget ⟨.i0, .i0, .i1⟩ e=uv→pget ⟨.i0, .i0, .i2⟩ e=sv→pget ⟨.i0, .i0, .i7⟩ e = .ptr dp 0→pget ⟨.i0, .i1, .i0⟩ e = .ptr kp 0→pget ⟨.i0, .i1, .i1⟩ e = .ptr BN 0→pget ⟨.i0, .i1, .i2⟩ e = .int 3 i →
   ∀ x:R,(∀ e' G',Fresh H0 G'→kx 1 e' G'=x)→evL c3l0 fuel (evP cp t fuel (d+8)) kx r e G=x:=by
 intro m
 induction m with
 | zero=>
  intro i G A O kp term voted vl vn es hm hi10 S hBN hBn hBO hvn d kx r e hr h0 h1 h2 h7 h10 h11 h12 x hx
  obtain rfl:i=10:=by omega
  obtain ⟨r,rfl⟩:∃ q,r=q+1:=⟨r-1,by omega⟩
  have hsn:=fun {id:Nat} {g:Nat→R}=>hls.sn (id:=id) (f:=g)
  have e1:nn hs.length:=by unfold nn;omega
  have e2:nn 10:=by unfold nn;omega
  rw [evL_succ]
  by_cases hl:10<hs.length
  ·simp only [go_sem,↓op_app,reduceCtorEq,Nat.reduceAdd,Nat.reduceSub,Nat.reduceMul,Nat.reduceEqDiff,Nat.reduceDiv,Nat.reduceMod,Nat.reduceLeDiff,↓reduceIte,c3l0,h0,h12,↓hsn,hhn,e1,e2,hl,Nat.lt_irrefl]
   exact hx _ _ S.fresh
  ·simp only [go_sem,↓op_app,reduceCtorEq,Nat.reduceAdd,Nat.reduceSub,Nat.reduceMul,Nat.reduceEqDiff,Nat.reduceDiv,Nat.reduceMod,Nat.reduceLeDiff,↓reduceIte,c3l0,h0,h12,↓hsn,hhn,e1,e2,hl]
   exact hx _ _ S.fresh
 | succ m ih=>
  intro i G A O kp term voted vl vn es hm hi10 S hBN hBn hBO hvn d kx r e hr h0 h1 h2 h7 h10 h11 h12 x hx
  obtain ⟨r,rfl⟩:∃ q,r=q+1:=⟨r-1,by omega⟩
  have hsn:=fun {id:Nat} {g:Nat→R}=>hls.sn (id:=id) (f:=g)
  have e1:nn hs.length:=by unfold nn;omega
  have e2:nn 10:=by unfold nn;omega
  have e3:nn i:=by unfold nn;omega
  have e4:i<9223372036854775808:=by omega
  rw [evL_succ]
  by_cases hl:i<hs.length
  ·by_cases h10':i<10
   ·simp only [go_sem,↓op_app,reduceCtorEq,Nat.reduceAdd,Nat.reduceSub,Nat.reduceMul,Nat.reduceEqDiff,Nat.reduceDiv,Nat.reduceMod,Nat.reduceLeDiff,↓reduceIte,c3l0,h0,h12,↓hsn,hhn,e1,e2,e3,hl,h10']
    have hsu:=fun {id:Nat} {g:Nat→R}=>hus.sn (id:=id) (f:=g)
    have e5:nn us.length:=by unfold nn;omega
    have e6:(i+1) % 18446744073709551616=i+1:=by omega
    have hnext:∀ (f:Nat) (e':Env) (kn:KE) (kx':Nat→KE),f<1000→(∀ e' G',kn e' G'=evL c3l0 fuel (evP cp t fuel (d+8)) kx r (pset ⟨.i0, .i1, .i2⟩ (.int 3 (i+1)) (pset ⟨.i0, .i4, .i1⟩ (.int 3 (i+1)) (pset ⟨.i0, .i4, .i0⟩ (.int 3 i) e'))) G'∨pget ⟨.i0, .i1, .i2⟩ e' ≠ .int 3 i)→pget ⟨.i0, .i0, .i0⟩ e'=lv→pget ⟨.i0, .i0, .i1⟩ e'=uv→pget ⟨.i0, .i0, .i2⟩ e'=sv→pget ⟨.i0, .i0, .i7⟩ e' = .ptr dp 0→pget ⟨.i0, .i1, .i0⟩ e' = .ptr kp 0→pget ⟨.i0, .i1, .i1⟩ e' = .ptr BN 0→pget ⟨.i0, .i1, .i2⟩ e' = .int 3 i→pget ⟨.i0, .i1, .i3⟩ e' = .int 3 f →
      evC c3q2 fuel (evP cp t fuel (d+8)) e' G kn kx'=x:=by
     intro f e' kn kx' hf hkn t0 t1 t2 t7 t10 t11 t12 t13
     refine last_round (d:=d) T hc F hp hu hcm hca hcb S hf hBN hBl hBn hBO hvn hls hl h10' hks hkb hfu t0 t2 t7 t10 t11 t12 t13 ?_
     intro e2 G2 kq B O2 tt vv vq ee vn2 a1 a2 a3 a4 a5 a6 a7 a8 a9 a10 a11 a12
     rcases hkn e2 G2 with hk | hk
     ·rw [hk]
      refine ih (i+1) G2 B O2 kq tt vv vq vn2 ee (by omega) (by omega) a1 a2 a3 a4 a5 d kx r _ (by omega) ?_ ?_ ?_ ?_ ?_ ?_ ?_ x hx
      ·simp only [go_sem,↓op_app,reduceCtorEq,Nat.reduceAdd,Nat.reduceSub,Nat.reduceMul,Nat.reduceEqDiff,Nat.reduceLT,Nat.reduceDiv,Nat.reduceMod,Nat.reduceLeDiff,↓reduceIte,a6]
      ·simp only [go_sem,↓op_app,reduceCtorEq,Nat.reduceAdd,Nat.reduceSub,Nat.reduceMul,Nat.reduceEqDiff,Nat.reduceLT,Nat.reduceDiv,Nat.reduceMod,Nat.reduceLeDiff,↓reduceIte,a7,t1]
      ·simp only [go_sem,↓op_app,reduceCtorEq,Nat.reduceAdd,Nat.reduceSub,Nat.reduceMul,Nat.reduceEqDiff,Nat.reduceLT,Nat.reduceDiv,Nat.reduceMod,Nat.reduceLeDiff,↓reduceIte,a8]
      ·simp only [go_sem,↓op_app,reduceCtorEq,Nat.reduceAdd,Nat.reduceSub,Nat.reduceMul,Nat.reduceEqDiff,Nat.reduceLT,Nat.reduceDiv,Nat.reduceMod,Nat.reduceLeDiff,↓reduceIte,a9]
      ·simp only [go_sem,↓op_app,reduceCtorEq,Nat.reduceAdd,Nat.reduceSub,Nat.reduceMul,Nat.reduceEqDiff,Nat.reduceLT,Nat.reduceDiv,Nat.reduceMod,Nat.reduceLeDiff,↓reduceIte,a10]
      ·simp only [go_sem,↓op_app,reduceCtorEq,Nat.reduceAdd,Nat.reduceSub,Nat.reduceMul,Nat.reduceEqDiff,Nat.reduceLT,Nat.reduceDiv,Nat.reduceMod,Nat.reduceLeDiff,↓reduceIte,a11]
      ·simp only [go_sem,reduceCtorEq,↓reduceIte]
     ·exact absurd a12 hk
    by_cases hu':i<us.length
    ·obtain ⟨y,hy⟩:∃ y,us[i]? = some y:=⟨_,List.getElem?_eq_getElem hu'⟩
     obtain ⟨b,o,c,s,huv,hbn,hrd,hy2⟩:=(hus.fresh S.fresh).at_ hy
     have r1:∀ {id:Nat} {f:Nat→R},evBF id (.rem 256) y 120 f=f (y % 120):=fun {id f}=>bf_rem hy2 (by omega) (by omega)
     have e7:y % 120 % 18446744073709551616=y % 120:=by omega
     rw [huv] at h1 hsu
     simp only [go_sem,↓op_app,reduceCtorEq,Nat.reduceAdd,Nat.reduceSub,Nat.reduceMul,Nat.reduceEqDiff,Nat.reduceDiv,Nat.reduceMod,Nat.reduceLeDiff,↓reduceIte,c3q1,h1,h12,vSliceN_slice,hun,e3,e4,e5,hu',hrd,r1,e7]
     refine hnext (y % 120) _ _ _ (by omega) (fun e' G' => ?_) ?_ ?_ ?_ ?_ ?_ ?_ ?_ ?_
     ·by_cases hp:pget ⟨.i0, .i1, .i2⟩ e' = .int 3 i
      ·left
       simp only [go_sem,↓op_app,reduceCtorEq,Nat.reduceAdd,Nat.reduceSub,Nat.reduceMul,Nat.reduceEqDiff,Nat.reduceDiv,Nat.reduceMod,Nat.reduceLeDiff,↓reduceIte,hp,e6]
       rfl
      ·exact Or.inr hp
     all_goals (simp only [go_sem,↓op_app,reduceCtorEq,Nat.reduceAdd,Nat.reduceSub,Nat.reduceMul,Nat.reduceEqDiff,Nat.reduceLT,Nat.reduceDiv,Nat.reduceMod,Nat.reduceLeDiff,↓reduceIte,h0,h1,h2,h7,h10,h11,h12,huv])
    ·simp only [go_sem,↓op_app,reduceCtorEq,Nat.reduceAdd,Nat.reduceSub,Nat.reduceMul,Nat.reduceEqDiff,Nat.reduceDiv,Nat.reduceMod,Nat.reduceLeDiff,↓reduceIte,c3q1,h1,h12,↓hsu,hun,e3,e5,hu']
     refine hnext 0 _ _ _ (by omega) (fun e' G' => ?_) ?_ ?_ ?_ ?_ ?_ ?_ ?_ ?_
     ·by_cases hp:pget ⟨.i0, .i1, .i2⟩ e' = .int 3 i
      ·left
       simp only [go_sem,↓op_app,reduceCtorEq,Nat.reduceAdd,Nat.reduceSub,Nat.reduceMul,Nat.reduceEqDiff,Nat.reduceDiv,Nat.reduceMod,Nat.reduceLeDiff,↓reduceIte,hp,e6]
       rfl
      ·exact Or.inr hp
     all_goals (simp only [go_sem,↓op_app,reduceCtorEq,Nat.reduceAdd,Nat.reduceSub,Nat.reduceMul,Nat.reduceEqDiff,Nat.reduceLT,Nat.reduceDiv,Nat.reduceMod,Nat.reduceLeDiff,↓reduceIte,h0,h1,h2,h7,h10,h11,h12])
   ·simp only [go_sem,↓op_app,reduceCtorEq,Nat.reduceAdd,Nat.reduceSub,Nat.reduceMul,Nat.reduceEqDiff,Nat.reduceDiv,Nat.reduceMod,Nat.reduceLeDiff,↓reduceIte,c3l0,h0,h12,↓hsn,hhn,e1,e2,e3,hl,h10']
    exact hx _ _ S.fresh
  ·simp only [go_sem,↓op_app,reduceCtorEq,Nat.reduceAdd,Nat.reduceSub,Nat.reduceMul,Nat.reduceEqDiff,Nat.reduceDiv,Nat.reduceMod,Nat.reduceLeDiff,↓reduceIte,c3l0,h0,h12,↓hsn,hhn,e1,e2,e3,hl]
   exact hx _ _ S.fresh
end
end Go.Ev
end
section
namespace Go.Ev
section
variable {cp:RC→CodeE} {t:Nat→Option FnE} {fuel:Nat} {H:Heap} {pk:List UInt8→List (List UInt8)} {unpk:List (List UInt8)→Option (List UInt8)}
set_option maxHeartbeats 4000000 in
theorem keepLasts_call (T:TCode t) (hc:HasClone t) (F:FrameOK pk unpk) (hp:t 60=some (.nat (nPack pk))) (hu:t 46=some (.nat (nUnpack unpk))) (hwk:t 4=some (.nat nWorks)) (hcm:t 25=some (.nat nCopyM)) (hca:cp r11.1=c11a) (hcb:cp r11.2=c11b)
  (hw:H.wf) {lv uv sv:V} {hs:List Hd} {us:List Nat} {bs:List Bool} (hls:HsAt H lv hs) (hhn:hs.length<9223372036854775808) (hus:U8At H uv us) (hun:us.length<9223372036854775808) (hks:KpAt H sv bs) (hkb:bs.length<9223372036854775808) (hfu:1000000<fuel)
  (d:Nat) (k:K) (x:R) (hx:∀ H',Fresh H H'→k (.bool true) H'=x):callP (evP cp t fuel (d+10)) (.func 6 []) [lv,uv,sv] H k=x:=by
 have hwc:∀ {d:Nat} {k:K} {G:Heap},callP (evP cp t fuel (d+1)) (.func 8 []) [] G k=k (.bool true) G:=fun {d k G}=>by
  rw [call_nat hwk rfl rfl]
  rfl
 obtain ⟨G1,dp,kp,A,O,vl,z1,S1,hz1⟩:=made_call (cp:=cp) (fuel:=fuel) T hc F hp hu hw hfu
 have SA:KA pk H G1 dp kp A O 0 18446744073709551615 vl []:=⟨S1.fresh,S1.disk,S1.own,S1.jd,S1.len,S1.room,S1.kpo,S1.kpn,S1.kat,S1.log,S1.has,S1.okk,may0⟩
 have w1:=SA.disk.wf
 have f2:Fresh G1 ((G1.new (.cells [.int 7 0, .int 3 0, .nils])).put G1.n (.cells [.int 7 0, .int 3 18446744073709551615, .nils])):=(Fresh.new w1).put (Nat.le_refl _) (by rw [Heap.n_new];omega)
 have g2:((G1.new (.cells [.int 7 0, .int 3 0, .nils])).put G1.n (.cells [.int 7 0, .int 3 18446744073709551615, .nils])).get G1.n = .cells [.int 7 0, .int 3 18446744073709551615, .nils]:=by rw [Heap.get_put (by rw [Heap.wf_new];exact w1) (by rw [Heap.n_new];omega),if_pos rfl]
 have n2:G1.n < ((G1.new (.cells [.int 7 0, .int 3 0, .nils])).put G1.n (.cells [.int 7 0, .int 3 18446744073709551615, .nils])).n:=by rw [Heap.n_put,Heap.n_new];omega
 generalize hG2:(G1.new (.cells [.int 7 0, .int 3 0, .nils])).put G1.n (.cells [.int 7 0, .int 3 18446744073709551615, .nils])=G2 at f2 g2 n2
 have SB:=SA.go f2
 have hBO:¬ With O kp G1.n:=fun h=>h.elim (fun h=>by have:=SA.disk.lt _ h;omega) fun h=>by have:=SA.kat.lt;omega
 have z1':=fun {k:K}=>z1 d k
 have e8:G1.n<G1.n+1:=by omega
 rw [call_entry T.k3 rfl rfl]
 simp only [go_sem,↓op_app,reduceCtorEq,Nat.reduceAdd,Nat.reduceSub,Nat.reduceMul,Nat.reduceEqDiff,Nat.reduceDiv,Nat.reduceMod,Nat.reduceLeDiff,↓reduceIte,c3,c3q15,hwc]
 simp only [go_sem,↓op_app,reduceCtorEq,Nat.reduceAdd,Nat.reduceSub,Nat.reduceMul,Nat.reduceEqDiff,Nat.reduceDiv,Nat.reduceMod,Nat.reduceLeDiff,↓reduceIte,c3q16,z1']
 simp only [go_sem,↓op_app,reduceCtorEq,Nat.reduceAdd,Nat.reduceSub,Nat.reduceMul,Nat.reduceEqDiff,Nat.reduceDiv,Nat.reduceMod,Nat.reduceLeDiff,↓reduceIte,c3q17]
 simp only [go_sem,↓op_app,reduceCtorEq,Nat.reduceAdd,Nat.reduceSub,Nat.reduceMul,Nat.reduceEqDiff,Nat.reduceDiv,Nat.reduceMod,Nat.reduceLeDiff,↓reduceIte,c3q18,w1,e8,hG2]
 simp only [go_sem,↓op_app,reduceCtorEq,Nat.reduceAdd,Nat.reduceSub,Nat.reduceMul,Nat.reduceEqDiff,Nat.reduceDiv,Nat.reduceMod,Nat.reduceLeDiff,↓reduceIte,c3q19]
 refine lasts_loop T hc F hp hu hcm hca hcb (BN:=G1.n) SA.fresh.n hls hhn hus hun hks hkb hfu 10 0 G2 A O kp 0 18446744073709551615 vl .nils [] (by omega) (by omega) SB g2 n2 hBO (Or.inl ⟨Or.inl rfl,rfl⟩) (d+1) _ fuel _ (by omega) ?_ ?_ ?_ ?_ ?_ ?_ ?_ _ (fun e' G' f' => ?_)
 all_goals first | (simp only [go_sem,↓op_app,reduceCtorEq,Nat.reduceAdd,Nat.reduceSub,Nat.reduceMul,Nat.reduceEqDiff,Nat.reduceLT,Nat.reduceDiv,Nat.reduceMod,Nat.reduceLeDiff,↓reduceIte];done) | skip
 simp only [go_sem,↓op_app,reduceCtorEq,Nat.reduceAdd,Nat.reduceSub,Nat.reduceMul,Nat.reduceEqDiff,Nat.reduceDiv,Nat.reduceMod,Nat.reduceLeDiff,↓reduceIte,c3q20,c3q21]
 exact hx _ f'
end
end Go.Ev
end
section
namespace Go.Ev
open Go.ChangeShapes Go.WideShapes Go.RowKit
theorem vOf_int {N:Nat} {k:IntKind} {n:Int} (h:(Lit.int k n).wf=true):vOf N (.int k n) = .int (kOf k) (n % (2 ^ k.bits:Nat)).toNat:=by
 have hw:k.wrap n=n:=by
  unfold Lit.wf at h
  simp only [Bool.and_eq_true,decide_eq_true_eq] at h
  obtain ⟨h1,h2⟩:=h
  cases k <;> simp [IntKind.min,IntKind.max,IntKind.bits,IntKind.signed] at h1 h2 <;> simp [IntKind.wrap,IntKind.bits,IntKind.signed] <;> omega
 unfold vOf constV1
 simp [hw]
theorem u8_lt {n:Int}:(n % (2 ^ IntKind.u8.bits:Nat)).toNat<256:=by
 have h1:(0:Int)≤n % (2 ^ IntKind.u8.bits:Nat):=Int.emod_nonneg _ (by simp [IntKind.bits])
 have h2:n % (2 ^ IntKind.u8.bits:Nat) < (2 ^ IntKind.u8.bits:Nat):=Int.emod_lt_of_pos _ (by simp [IntKind.bits])
 simp only [IntKind.bits] at h1 h2 ⊢
 omega
section
variable {P:Program} {w:World}
theorem called_cps (hm:P.follows .mixedOrders=true) {t:Nat→Option FnE} (ht:TabOK P t) {fuel depth:Nat} {f:FuncId} {args:List V} {cargs:Array Value} {w:World} (ha:VRs (mu (rhoOf w) (Ev.adopt w) w) args cargs.toList)
  (h:∀ (k:K) (x:R),(∀ H',Fresh (Ev.adopt w) H'→k (.bool true) H'=x)→callP (evP (compRC P) t fuel depth) (.func (2 * f) []) args (Ev.adopt w) k=x) :
  Calls P f cargs w fun e w'=>e = .returned (.bool true)∧Below w.heap.size w w':=by
 obtain ⟨v,H2,h1,h2⟩:=evP_ok hm ht fuel depth (.func (2 * f) []) args (Ev.adopt w) (fun v H2 => @ite _ (v = .bool true∧w.heap.size+1≤H2.wlo) (Classical.propDecidable _) 1 0) (h _ 1 fun H' hF=>by
  rw [if_pos]
  exact ⟨rfl,hF.lo _ (by rw [adopt_wlo];exact Nat.le_refl _) (by rw [adopt_n];exact Nat.le_refl _)⟩)
 have h3:v = .bool true∧w.heap.size+1≤H2.wlo:=by
  by_cases hh:v = .bool true∧w.heap.size+1≤H2.wlo
  ·exact hh
  ·simp only [if_neg hh] at h2
   exact absurd h2 (by decide)
 obtain ⟨rfl,hlo⟩:=h3
 have h4:=h1.2 f [] rfl
 rw [List.append_nil] at h4
 obtain ⟨_,h5⟩:=h4 0 w (rhoOf w) w cargs (PR.adopt w) ha
 refine CallsIn.calls (h5.mono fun e w' he => ?_) fun k=>by simp [Fence.room]
 obtain ⟨cv,rfl,rho',h6,h7,h8⟩:=he
 simp only [VR] at h6
 subst h6
 refine ⟨rfl,h7.below.os,h7.below.tape,h7.below.output,h7.below.size,fun k hk=>h8.fr k hk fun b hb => ?_⟩
 have:=(PR.adopt (P:=P) w).lt b k hb
 rw [adopt_n] at this
 omega
end
end Go.Ev
end
section
namespace Go.Ev
open Go.Deep Go.ChangeShapes Go.WideShapes
theorem cell_view {w:World} {b i:Nat} {cv:Value} (h:w.cell? ⟨b,i,none⟩=some cv) (hf:w.frozen? ⟨b,i,none⟩=false):∃ row,gOf w b = .view row∧b<w.heap.size∧row[i]? = some (vOf w.heap.size cv):=by
 unfold World.cell? at h
 unfold World.frozen? at hf
 unfold gOf
 split at h
 ·rename_i c e fr hc
  rw [hc] at hf ⊢
  simp only [Option.isSome_none,Bool.false_eq_true,if_false] at h
  refine ⟨_,rfl,(Array.getElem?_eq_some_iff.1 hc).1,rowView_get h ?_⟩
  simpa using hf
 ·cases h
theorem vOf_bool {N:Nat} {b:Bool}:vOf N (.bool b) = .bool b:=rfl
theorem vOf_slice {N:Nat} {b o l cap:Nat} (h:l≤cap) (hb:b<N):vOf N (.slice (some ⟨b,o,none⟩) l cap) = .slice b o l (cap+1) 0:=by
 show (if l≤cap then _ else _)=_
 rw [if_pos h,if_pos ⟨rfl,hb⟩]
theorem vOf_none {N:Nat} {a:Addr}:NoneV (vOf N (.slice (some a) 0 0))∧(vOf N (.slice (some a) 0 0)).one=true:=by
 have:vOf N (.slice (some a) 0 0)=if a.spot=none∧a.block<N then .slice a.block a.off 0 (0+1) 0 else .slice N a.off 0 1 0:=by
  show (if 0≤0 then (if a.spot=none∧a.block<N then V.slice a.block a.off 0 (0+1) 0 else if 0=0 then V.slice N a.off 0 1 0 else V.tup []) else V.tup [])=_
  rw [if_pos (Nat.le_refl _),if_pos rfl]
 rw [this]
 split
 ·exact ⟨Or.inr ⟨_,_,_,_,rfl⟩,rfl⟩
 ·exact ⟨Or.inr ⟨_,_,_,_,rfl⟩,rfl⟩
section
variable {H:Type} {enc:TypeId × Value→H} {P:Program} {w:World}
theorem slice_seen {t e:TypeId} {z fuel:Nat} {v:Value} {x:DataW H × List MemPlace} (ht:P.underlying t=some (.slice e)) (hz:P.cellsOf e=z) (hz0:0<z) (h:DataW.trod enc P w 0 (fun _=>true) true fuel t [v]=some x) (hnf:w.noneFrozen x.2) :
  (vOf w.heap.size v).one=true∧((NoneV (vOf w.heap.size v)) ∨ ∃ b o len c row,0<len∧len≤9223372036854775807∧vOf w.heap.size v = .slice b o len c 0∧(adopt w).get b = .view row∧b < (adopt w).n ∧
   ∀ i,i<len → ∃ (cs:List Value) (n:Nat) (y:DataW H × List MemPlace),cs.length=z∧(∀ j cv,cs[j]? = some cv→row[o+i * z+j]? = some (vOf w.heap.size cv))∧DataW.trod enc P w 0 (fun _=>true) true n e cs=some y∧w.noneFrozen y.2):=by
 rcases open_slice ht h with ⟨hcs,_⟩ | ⟨a,len,cap,m,n,D,Pl,hcs,_,hl,hm,hmc,rfl,hx⟩
 ·cases hcs
  exact ⟨rfl,Or.inl (Or.inl rfl)⟩
 simp only [List.cons.injEq,and_true] at hcs
 subst hcs
 simp only [if_true] at hmc
 have hmc':cap=m:=hmc.symm
 subst hmc'
 rw [hz] at hx hnf
 by_cases hc0:cap=0
 ·subst hc0
  obtain rfl:len=0:=by omega
  exact ⟨vOf_none.2,Or.inl vOf_none.1⟩
 have hcell:∀ i,i<cap → ∀ j,j<z → ∃ cs,w.cells? 0 (a.add (i * z)) z=some cs ∧ ∃ cv,cs[j]? = some cv∧w.cell? ⟨a.block,a.off+i * z+j,none⟩=some cv∧a.spot=none:=fun i hi j hj=>by
  obtain ⟨cs,h1,h2⟩:=hx i hi
  obtain ⟨_,hlen,hc⟩:=World.cells?_some h1
  have hcj:=hc j hj
  rw [List.getElem?_eq_getElem (by omega:j<cs.length)] at hcj
  obtain ⟨_,_,hc00⟩:=World.cells?_some (hx 0 (by omega)).choose_spec.1
  have h00:=hc00 0 hz0
  rw [List.getElem?_eq_getElem (by rw [(World.cells?_some (hx 0 (by omega)).choose_spec.1).2.1];exact hz0)] at h00
  have hsp:a.spot=none:=by
   have:=World.cell?_spot h00
   simpa [Addr.add] using this
  refine ⟨cs,h1,_,List.getElem?_eq_getElem (by omega), ?_,hsp⟩
  obtain ⟨ab,ao,asp⟩:=a
  obtain rfl:asp=none:=hsp
  rw [Addr.add_lit,Addr.add_lit] at hcj
  exact hcj
 obtain ⟨ab,ao,asp⟩:=a
 obtain rfl:asp=none:=(hcell 0 (by omega) 0 hz0).choose_spec.2.choose_spec.2.2
 have hfz:∀ k,k<cap * z→w.frozen? ⟨ab,ao+k,none⟩=false:=fun k hk=>hnf ab (ao+k) (List.mem_append_left _ (List.mem_map.2 ⟨k,List.mem_range.2 hk,rfl⟩))
 have hcz:0<cap * z:=Nat.mul_pos (by omega) hz0
 obtain ⟨_,_,cv0,_,hc0',_⟩:=hcell 0 (by omega) 0 hz0
 simp only [Nat.zero_mul,Nat.add_zero] at hc0'
 obtain ⟨row,r1,r2,_⟩:=cell_view hc0' (by simpa using hfz 0 hcz)
 have hv:=vOf_slice (N:=w.heap.size) (o:=ao) hl r2
 rw [hv]
 refine ⟨rfl, ?_⟩
 by_cases hl0:len=0
 ·subst hl0;exact Or.inl (Or.inr ⟨_,_,_,_,rfl⟩)
 refine Or.inr ⟨ab,ao,len,cap+1,row,by omega,by unfold maxLen at hm;omega,rfl,by rw [adopt_get];exact r1,by rw [adopt_n];omega,fun i hi => ?_⟩
 obtain ⟨cs,h1,h2⟩:=hx i (by omega)
 obtain ⟨_,hlen,hc⟩:=World.cells?_some h1
 refine ⟨cs,n,_,hlen,fun j cv hj => ?_,h2,fun b off hb=>hnf b off (List.mem_append_right _ (List.mem_flatMap.2 ⟨i,List.mem_range.2 (by omega),hb⟩))⟩
 have hjz:j<z:=by have:=(List.getElem?_eq_some_iff.1 hj).1;omega
 have hcj:=hc j hjz
 rw [hj] at hcj
 rw [Addr.add_lit,Addr.add_lit] at hcj
 have hk:i * z+j<cap * z:=by
  have:(i+1) * z≤cap * z:=Nat.mul_le_mul_right _ (by omega)
  rw [Nat.add_mul] at this
  omega
 obtain ⟨row',r1',_,r3'⟩:=cell_view hcj (by rw [Nat.add_assoc];exact hfz _ hk)
 rw [r1] at r1'
 cases r1'
 exact r3'
end
end Go.Ev
end
section
namespace Go.Ev
open Go.Deep Go.ChangeShapes Go.WideShapes Go.RowKit
theorem u64_lt {n:Int}:(n % (2 ^ IntKind.u64.bits:Nat)).toNat<18446744073709551616:=by
 have h1:(0:Int)≤n % (2 ^ IntKind.u64.bits:Nat):=Int.emod_nonneg _ (by simp [IntKind.bits])
 have h2:n % (2 ^ IntKind.u64.bits:Nat) < (2 ^ IntKind.u64.bits:Nat):=Int.emod_lt_of_pos _ (by simp [IntKind.bits])
 simp only [IntKind.bits] at h1 h2 ⊢
 omega
theorem i64_lt {n:Int}:(n % (2 ^ IntKind.i64.bits:Nat)).toNat<18446744073709551616:=by
 have h1:(0:Int)≤n % (2 ^ IntKind.i64.bits:Nat):=Int.emod_nonneg _ (by simp [IntKind.bits])
 have h2:n % (2 ^ IntKind.i64.bits:Nat) < (2 ^ IntKind.i64.bits:Nat):=Int.emod_lt_of_pos _ (by simp [IntKind.bits])
 simp only [IntKind.bits] at h1 h2 ⊢
 omega
theorem got_range {α : Type} {len:Nat} {p:Nat → α} {i:Nat} {x : α} (hi:((List.range len).map p)[i]? = some x):i<len∧x=p i:=by
 rw [List.getElem?_map] at hi
 obtain ⟨q,h3,rfl⟩:=Option.map_eq_some_iff.1 hi
 obtain ⟨h4,h5⟩:=List.getElem?_eq_some_iff.1 h3
 rw [List.getElem_range] at h5
 subst h5
 exact ⟨by simpa using h4,rfl⟩
section
variable {H:Type} {enc:TypeId × Value→H} {P:Program} {w:World}
theorem kps_seen {t e:TypeId} {fuel:Nat} {v:Value} {x:DataW H × List MemPlace} (ht:P.underlying t=some (.slice e)) (hz:P.cellsOf e=1) (he:P.underlying e=some .bool) (h:DataW.trod enc P w 0 (fun _=>true) true fuel t [v]=some x) (hnf:w.noneFrozen x.2) :
  (vOf w.heap.size v).one=true ∧ ∃ bs,KpAt (adopt w) (vOf w.heap.size v) bs∧bs.length<9223372036854775808:=by
 obtain ⟨h1,h2⟩:=slice_seen ht hz (by omega) h hnf
 refine ⟨h1, ?_⟩
 rcases h2 with h2 | ⟨b,o,len,c,row,hl0,hl,hv,hb,hbn,hx⟩
 ·exact ⟨[],Or.inl ⟨h2,rfl⟩,by simp⟩
 have each:∀ i,i<len → ∃ p:Bool,row[o+i]? = some (.bool p):=fun i hi=>by
  obtain ⟨cs,n,y,hlen,hcs,htr,_⟩:=hx i hi
  match cs,hlen with
  | [v0],_=>
   obtain ⟨b0,e0,_⟩:=DataW.trod_bool he htr
   cases e0
   have:=hcs 0 _ rfl
   rw [Nat.mul_one,Nat.add_zero,vOf_bool] at this
   exact ⟨b0,this⟩
 obtain ⟨p,hp⟩:=choose_lt each
 refine ⟨(List.range len).map p,Or.inr ⟨b,o,c,0,row,by rw [hv];simp,Or.inr hb,hbn,fun i x hi => ?_⟩,by rw [List.length_map,List.length_range];omega⟩
 obtain ⟨h3,rfl⟩:=got_range hi
 exact hp i h3
theorem u8s_seen {t e:TypeId} {fuel:Nat} {v:Value} {x:DataW H × List MemPlace} (ht:P.underlying t=some (.slice e)) (hz:P.cellsOf e=1) (he:P.underlying e=some (.int .u8)) (h:DataW.trod enc P w 0 (fun _=>true) true fuel t [v]=some x) (hnf:w.noneFrozen x.2) :
  (vOf w.heap.size v).one=true ∧ ∃ us,U8At (adopt w) (vOf w.heap.size v) us∧us.length<9223372036854775808:=by
 obtain ⟨h1,h2⟩:=slice_seen ht hz (by omega) h hnf
 refine ⟨h1, ?_⟩
 rcases h2 with h2 | ⟨b,o,len,c,row,hl0,hl,hv,hb,hbn,hx⟩
 ·exact ⟨[],Or.inl ⟨h2,rfl⟩,by simp⟩
 have each:∀ i,i<len → ∃ p:Nat,row[o+i]? = some (.int 4 p)∧p<256:=fun i hi=>by
  obtain ⟨cs,n,y,hlen,hcs,htr,_⟩:=hx i hi
  match cs,hlen with
  | [v0],_=>
   obtain ⟨n0,e0,_,w0⟩:=DataW.trod_int he htr
   cases e0
   have:=hcs 0 _ rfl
   rw [Nat.mul_one,Nat.add_zero,vOf_int w0] at this
   exact ⟨_,this,u8_lt⟩
 obtain ⟨p,hp⟩:=choose_lt each
 refine ⟨(List.range len).map p,Or.inr ⟨b,o,c,0,row,by rw [hv];simp,Or.inr hb,hbn,fun i x hi => ?_⟩,by rw [List.length_map,List.length_range];omega⟩
 obtain ⟨h3,rfl⟩:=got_range hi
 exact hp i h3
theorem log_seen {t e:TypeId} {f0 f1 f2 g0 g1:Field} {fuel:Nat} {v:Value} {x:DataW H × List MemPlace} (ht:P.underlying t=some (.slice e)) (he:P.underlying e=some (.struct #[f0,f1,f2])) (hz:P.cellsOf e=4)
  (o0:f0.offset=0) (o1:f1.offset=1) (o2:f2.offset=2) (c0:P.cellsOf f0.type=1) (c1:P.cellsOf f1.type=1) (c2:P.cellsOf f2.type=2) (u0:P.underlying f0.type=some (.int .u64)) (u1:P.underlying f1.type=some (.int .i64)) (u2:P.underlying f2.type=some (.struct #[g0,g1]))
  (p0:g0.offset=0) (p1:g1.offset=1) (d0:P.cellsOf g0.type=1) (d1:P.cellsOf g1.type=1) (v0:P.underlying g0.type=some (.int .u64)) (v1:P.underlying g1.type=some (.int .u64))
  (h:DataW.trod enc P w 0 (fun _=>true) true fuel t [v]=some x) (hnf:w.noneFrozen x.2) :
  (vOf w.heap.size v).one=true ∧ ∃ es,LogAt (adopt w) (vOf w.heap.size v) es (fun _=>False)∧es.length<9223372036854775808:=by
 obtain ⟨h1,h2⟩:=slice_seen ht hz (by omega) h hnf
 refine ⟨h1, ?_⟩
 rcases h2 with h2 | ⟨b,o,len,c,row,hl0,hl,hv,hb,hbn,hx⟩
 ·exact ⟨[],Or.inl ⟨h2,rfl⟩,by simp⟩
 have each:∀ i,i<len → ∃ p:Ent,row[o+i * 4]? = some (.int 7 p.1)∧row[o+i * 4+1]? = some (.int 3 p.2.1)∧row[o+i * 4+2]? = some (.int 7 p.2.2.1)∧row[o+i * 4+3]? = some (.int 7 p.2.2.2)∧okE p:=fun i hi=>by
  obtain ⟨cs,n,y,hlen,hcs,htr,_⟩:=hx i hi
  obtain ⟨xs,n',_,_,_,hxl,hf⟩:=DataW.trod_struct he htr
  match cs,hlen with
  | [w0,w1,w2,w3],_=>
   have a0:=hf 0 f0 rfl
   have a1:=hf 1 f1 rfl
   have a2:=hf 2 f2 rfl
   simp [o0,c0] at a0
   simp [o1,c1] at a1
   simp [o2,c2] at a2
   have hxl:xs.length=3:=hxl
   rw [List.getElem?_eq_getElem (by omega)] at a0 a1 a2
   obtain ⟨n0,e0,_,x0⟩:=DataW.trod_int u0 a0
   obtain ⟨n1,e1,_,x1⟩:=DataW.trod_int u1 a1
   obtain ⟨ys,n'',_,_,_,hyl,hg⟩:=DataW.trod_struct u2 a2
   have hyl:ys.length=2:=hyl
   have b0:=hg 0 g0 rfl
   have b1:=hg 1 g1 rfl
   simp [p0,d0] at b0
   simp [p1,d1] at b1
   rw [List.getElem?_eq_getElem (by omega)] at b0 b1
   obtain ⟨n2,e2,_,x2⟩:=DataW.trod_int v0 b0
   obtain ⟨n3,e3,_,x3⟩:=DataW.trod_int v1 b1
   cases e0;cases e1;cases e2;cases e3
   have r0:=hcs 0 _ rfl
   have r1:=hcs 1 _ rfl
   have r2:=hcs 2 _ rfl
   have r3:=hcs 3 _ rfl
   rw [vOf_int x0] at r0
   rw [vOf_int x1] at r1
   rw [vOf_int x2] at r2
   rw [vOf_int x3] at r3
   exact ⟨(_,_,_,_),r0,r1,r2,r3,u64_lt,i64_lt,u64_lt,u64_lt⟩
 obtain ⟨p,hp⟩:=choose_lt each
 refine ⟨(List.range len).map p,Or.inr ⟨b,o,c,0,row,by rw [hv];simp,Or.inr hb,hbn,fun hb=>hb,⟨fun i x hi => ?_,fun i x hi => ?_,fun i x hi => ?_,fun i x hi => ?_,fun x hx => ?_⟩⟩,by rw [List.length_map,List.length_range];omega⟩
 ·obtain ⟨h3,rfl⟩:=got_range hi;exact (hp i h3).1
 ·obtain ⟨h3,rfl⟩:=got_range hi;exact (hp i h3).2.1
 ·obtain ⟨h3,rfl⟩:=got_range hi;exact (hp i h3).2.2.1
 ·obtain ⟨h3,rfl⟩:=got_range hi;exact (hp i h3).2.2.2.1
 ·obtain ⟨i,hi⟩:=List.getElem?_of_mem hx
  obtain ⟨h3,rfl⟩:=got_range hi;exact (hp i h3).2.2.2.2
theorem hds_seen {t q:TypeId} {k0 k1 k2:Field} {e:TypeId} {f0 f1 f2 g0 g1:Field} {fuel:Nat} {v:Value} {x:DataW H × List MemPlace} (ht:P.underlying t=some (.slice q)) (hq:P.underlying q=some (.struct #[k0,k1,k2])) (hq3:P.cellsOf q=3)
  (ko0:k0.offset=0) (ko1:k1.offset=1) (ko2:k2.offset=2) (kc0:P.cellsOf k0.type=1) (kc1:P.cellsOf k1.type=1) (kc2:P.cellsOf k2.type=1) (ku0:P.underlying k0.type=some (.int .u64)) (ku1:P.underlying k1.type=some (.int .i64)) (ku2:P.underlying k2.type=some (.slice e))
  (he:P.underlying e=some (.struct #[f0,f1,f2])) (hz:P.cellsOf e=4)
  (o0:f0.offset=0) (o1:f1.offset=1) (o2:f2.offset=2) (c0:P.cellsOf f0.type=1) (c1:P.cellsOf f1.type=1) (c2:P.cellsOf f2.type=2) (u0:P.underlying f0.type=some (.int .u64)) (u1:P.underlying f1.type=some (.int .i64)) (u2:P.underlying f2.type=some (.struct #[g0,g1]))
  (p0:g0.offset=0) (p1:g1.offset=1) (d0:P.cellsOf g0.type=1) (d1:P.cellsOf g1.type=1) (v0:P.underlying g0.type=some (.int .u64)) (v1:P.underlying g1.type=some (.int .u64))
  (h:DataW.trod enc P w 0 (fun _=>true) true fuel t [v]=some x) (hnf:w.noneFrozen x.2) :
  (vOf w.heap.size v).one=true ∧ ∃ hs,HsAt (adopt w) (vOf w.heap.size v) hs∧hs.length<9223372036854775808:=by
 obtain ⟨h1,h2⟩:=slice_seen ht hq3 (by omega) h hnf
 refine ⟨h1, ?_⟩
 rcases h2 with h2 | ⟨b,o,len,c,row,hl0,hl,hv,hb,hbn,hx⟩
 ·exact ⟨[],Or.inl ⟨h2,rfl⟩,by simp⟩
 have each:∀ i,i<len → ∃ p:Hd,row[o+i * 3]? = some (.int 7 p.1)∧row[o+i * 3+1]? = some (.int 3 p.2.1)∧row[o+i * 3+2]? = some p.2.2.1∧p.1<18446744073709551616∧p.2.1<18446744073709551616∧p.2.2.2.length<9223372036854775808∧LogAt (adopt w) p.2.2.1 p.2.2.2 (fun _=>False):=fun i hi=>by
  obtain ⟨cs,n,y,hlen,hcs,htr,hnf'⟩:=hx i hi
  obtain ⟨xs,n',_,hy,_,hxl,hf⟩:=DataW.trod_struct hq htr
  match cs,hlen,xs,hxl with
  | [w0,w1,w2],_,[y0,y1,y2],_=>
   have a0:=hf 0 k0 rfl
   have a1:=hf 1 k1 rfl
   have a2:=hf 2 k2 rfl
   simp [ko0,kc0] at a0
   simp [ko1,kc1] at a1
   simp [ko2,kc2] at a2
   obtain ⟨n0,e0,_,x0⟩:=DataW.trod_int ku0 a0
   obtain ⟨n1,e1,_,x1⟩:=DataW.trod_int ku1 a1
   have nf2:w.noneFrozen y2.2:=fun b off h=>hnf' b off (by rw [hy];simp [h])
   obtain ⟨one2,es,s1,s2⟩:=log_seen ku2 he hz o0 o1 o2 c0 c1 c2 u0 u1 u2 p0 p1 d0 d1 v0 v1 a2 nf2
   cases e0;cases e1
   have r0:=hcs 0 _ rfl
   have r1:=hcs 1 _ rfl
   have r2:=hcs 2 _ rfl
   rw [vOf_int x0] at r0
   rw [vOf_int x1] at r1
   exact ⟨(_,_,_,es),r0,r1,r2,u64_lt,i64_lt,s2,s1⟩
 haveI:Inhabited Hd:=⟨(0,0, .nils,[])⟩
 obtain ⟨p,hp⟩:=choose_lt each
 refine ⟨(List.range len).map p,Or.inr ⟨b,o,c,0,row,by rw [hv];simp,Or.inr hb,hbn,fun i x hi => ?_⟩,by rw [List.length_map,List.length_range];omega⟩
 obtain ⟨h3,rfl⟩:=got_range hi
 exact hp i h3
end
end Go.Ev
end

