/- EvE: a part of the evaluator,of its logic,or of the laws' walk in it. -/
import Derived.Test.YtalmhjlkdhlbiaaGreatDoorEvD
import Derived.Laws.NewBlocks
import Derived.Laws.IdiomCopy
open Or renaming inr → YD,inl → YG
open Nat renaming beq → YK,ble → YS,blt → Yy
open List renaming mem_of_getElem? → YY,getElem?_take → Yk,drop_zero → WV
open Array renaming getElem?_toList → Yo,getElem?_modify → Wj
set_option linter.unusedVariables false
set_option linter.unusedSimpArgs false
set_option linter.unusedSectionVars false
section
namespace Go.Ev
open Go.RowKit
noncomputable def Tl (row:List V) (vb vn:Nat) (s:V) (H:Heap) (k:K):R:=bh 0 s
 (λb o len cp sz=>aD (YK b vb) (no 0) (aD (YK o 0) (aD (YK cp 0) (aD (Yy 0 len) (aD (YS len 65536) (aD (YK sz 1) (dj H b λbl=>rJ 0 bl (λl=>aD (YK (dL l) len) (aZ 0 l (jf row l λl'=>cQ 0 H b .dead λH=>cm H (.cells l') λb' H=>k (.slice b' 0 (Nat.add len vn) 0 1) H)) (no 0)) (λ_ _=>no 0)) (no 0)) (no 0)) (no 0)) (no 0)) (no 0)))
 (cm H (.cells row) λb' H=>k (.slice b' 0 vn 0 1) H)
noncomputable def iK (args:List V) (H:Heap) (k:K):R:=List.rec (motive:=λ_=>R) (no 0) (λs r _=>List.rec (motive:=λ_=>R) (no 0) (λi r2 _=>List.rec (motive:=λ_=>R) (no 0) (λv r3 _=>List.rec (motive:=λ_=>R)
 (cw 0 i λki i=>aD (YK ki 3) (aD (YK i 0) (bh 0 v (λvb vo vn _ _=>aD (Yy 0 vn) (aD (YS vn 65536) (dj H vb λbl=>rJ 0 bl (λ_=>eC 0 H vb vo vn λrow=>aZ 0 row (Tl row vb vn s H k)) (λ_ _=>no 0)) (no 0)) (no 0)) (no 0)) (no 0)) (no 0)) (λ_ _ _=>no 0) r3) r2) r) args
theorem He {args:List V} {H:Heap} {k:K} (h:iK args H k=1):∃ s vb vo vn vc vz row,args=[s,.int 3 0,.slice vb vo vn vc vz]/\0<vn/\vn<=65536/\(∃ l,rowOf (H.get vb)=some l/\vo+vn<=l.length/\row=(l.drop vo).take vn)/\(∀ v ∈ row,v.one=true)/\(∃ q,H.get vb = .cells q)/\Tl row vb vn s H k=1:=by
 match args,h with
 | [],h=>exact (au h).elim
 | [x],h=>exact (au h).elim
 | [x,y],h=>exact (au h).elim
 | x :: y :: z :: q :: r,h=>exact (au h).elim
 | [s,i,v],h=>
  obtain ⟨ki,n,rfl,h1⟩:=dE (id:=0) (x:=i) (k:=λki i=>aD (YK ki 3) (aD (YK i 0) (bh 0 v (λvb vo vn _ _=>aD (Yy 0 vn) (aD (YS vn 65536) (dj H vb λbl=>rJ 0 bl (λ_=>eC 0 H vb vo vn λrow=>aZ 0 row (Tl row vb vn s H k)) (λ_ _=>no 0)) (no 0)) (no 0)) (no 0)) (no 0)) (no 0)) h
  obtain ⟨h2,h3⟩:=aK h1
  obtain ⟨h4,h5⟩:=aK h3
  obtain rfl:=bT h2
  obtain rfl:=bT h4
  rcases ez h5 with ⟨vb,vo,vn,vc,vz,rfl,h6⟩|⟨_,h6⟩
  .obtain ⟨h7,h8⟩:=aK h6
   obtain ⟨h9,h10⟩:=aK h8
   rw [aP]at h10
   rcases jN h10 with ⟨q,hq,h10⟩|⟨_,_,_,h10⟩
   rotate_left
   .exact (au h10).elim
   obtain ⟨l,h11,h12,h13⟩:=mb h10
   obtain ⟨h14,h15⟩:=ec h13
   exact ⟨s,vb,vo,vn,vc,vz,_,rfl,er h7,bU h9,⟨l,h11,h12,rfl⟩,h14,⟨q,hq⟩,h15⟩
  .exact (au h6).elim
structure vA (P:Program) (f:FuncId):Prop where
 Jl:∃ fn c,P.funcs[f]? = some fn/\fn.body=some c/\(fn.name == "runtime.NumGoroutine")=false
 NV:∀ (vb voff m vc:Nat) (vs:List Value) (w:World),0<m->m<=65536->m<=vc->vs.length=m->(∀ (j:Nat) v,vs[j]? = some v->w.cell? ⟨vb,voff+j,none⟩=some v)->(∀ v ∈ vs,v.oneCell'=true)->
  Calls P f #[.slice none 0 0,.int .i64 0,.slice (some ⟨vb,voff,none⟩) m vc] w λe w'=>∃ (cap:Nat) (rest:Array Value) (el:TypeId),e = .returned (.slice (some ⟨w.heap.size,0,none⟩) m cap)/\m<=cap/\cap<9223372036854775808/\rest.size=cap-m/\vB w w'/\w'.heap=w.heap.push (.cells (vs.toArray ++ rest) el)
 bC:∀ (b n c vb voff m vc:Nat) (cs vs:List Value) (cur vcur:Array Value) (el vel:TypeId) (fr vfr:Nat × Nat) (w:World),vb≠b->0<n->n<=65536->0<m->m<=65536->n<=c->c<9223372036854775808->m<=vc->
  w.heap[b]? = some (.cells cur el fr)->cur.size=c->(∀ i,i<cur.size->¬ (fr.1<=i/\i<fr.2))->w.heap[vb]? = some (.cells vcur vel vfr)->(∀ i,i<vcur.size->¬ (vfr.1<=i/\i<vfr.2))->¬ (vfr.1<=vcur.size/\vcur.size<vfr.2)->
  cs.length=n->(∀ (j:Nat) v,cs[j]? = some v->cur[j]? = some v)->(∀ v ∈ cs,v.oneCell'=true)->vs.length=m->(∀ (j:Nat) v,vs[j]? = some v->vcur[voff+j]? = some v)->(∀ v ∈ vs,v.oneCell'=true)->
  Calls P f #[.slice (some ⟨b,0,none⟩) n c,.int .i64 0,.slice (some ⟨vb,voff,none⟩) m vc] w λe w'=>
   (∃ cur':Array Value,n+m<=c/\e = .returned (.slice (some ⟨b,0,none⟩) (n+m) c)/\w'.heap[b]? = some (.cells cur' el fr)/\cur'.size=c/\(∀ (j:Nat) v,(vs ++ cs)[j]? = some v->cur'[j]? = some v)/\(∀ j,j≠b->w'.heap[j]? = w.heap[j]?)/\w'.heap.size=w.heap.size/\vB w w')\/
   (∃ (cap:Nat) (row:Array Value) (el':TypeId),e = .returned (.slice (some ⟨w.heap.size,0,none⟩) (n+m) cap)/\n+m<=cap/\cap<9223372036854775808/\row.size=cap/\(∀ (j:Nat) v,(vs ++ cs)[j]? = some v->row[j]? = some v)/\vB w w'/\w'.heap.size=w.heap.size+1/\w'.heap[w.heap.size]? = some (.cells row el')/\∀ j,j<w.heap.size->w'.heap[j]? = w.heap[j]?)
theorem vA.nat {P:Program} {f:FuncId} (hj:vA P f):tP P f iK:=λargs H k h=>by
 obtain ⟨s,vb,vo,vn,vc,vz,row,rfl,hv0,hvb,⟨l,hl1,hl2,hl3⟩,hone,⟨qv,hqv⟩,h1⟩:=He h
 obtain ⟨fn,c,hf,hbd,hn⟩:=hj.Jl
 have hvar:∀ {base:Nat} {w0 w:World} {rho:Nat->Option Nat} {cv:Value},PR P base w0 rho H w->VR (mu rho H w) (.slice vb vo vn vc vz) cv->
  ∃ cb cap vcur vel vfr vs,cv = .slice (some ⟨cb,vo,none⟩) vn cap/\vn<=cap/\rho vb=some cb/\w.heap[cb]? = some (.cells vcur vel vfr)/\(∀ i,i<vcur.size->¬ (vfr.1<=i/\i<vfr.2))/\vs.length=vn/\bS (mu rho H w) row vs/\(∀ (j:Nat) v,vs[j]? = some v->vcur[vo+j]? = some v)/\(∀ v ∈ vs,v.oneCell'=true):=λ{base w0 w rho cv} hp hv=>by
  simp only [VR]at hv
  obtain ⟨cb,cap,o',sp,rfl,hm,hle,hcp,ho⟩:=hv
  obtain ⟨rfl,rfl⟩:o'=vo/\sp=none:=by
   rcases ho with h|h
   .exact h
   .omega
  have hr:=hp.jr hm hl1
  obtain ⟨vcur,vel,vfr,g1,g2⟩:=hp.row hr hl1
  have hvr:=g2.vrs hl2
  rw [<- hl3]at hvr
  have hrl:row.length=vn:=by rw [hl3,List.length_take,List.length_drop];omega
  refine ⟨cb,cap,vcur,vel,vfr,(vcur.toList.drop o').take vn,rfl,hle,hr,g1,g2.2,by rw [hvr.length,hrl],hvr,λj v hj=>?_,sE hvr hone⟩
  rw [Yk]at hj
  split at hj
  .rw [List.getElem?_drop,Yo]at hj
   exact hj
  .cases hj
 rcases ez h1 with ⟨b,o,len,cp,sz,rfl,h2⟩|⟨rfl,h2⟩
 .rcases bO h2 with ⟨_,h3⟩|⟨hbv,h3⟩
  .exact (au h3).elim
  have hbne:b≠vb:=λe=>by subst e;rw [eY]at hbv;simp at hbv
  obtain ⟨h4,h5⟩:=aK h3
  obtain ⟨h6,h7⟩:=aK h5
  obtain ⟨h8,h9⟩:=aK h7
  obtain ⟨h10,h11⟩:=aK h9
  obtain ⟨h12,h13⟩:=aK h11
  obtain rfl:=bT h4
  obtain rfl:=bT h6
  obtain rfl:=bT h12
  have hlen0:0<len:=er h8
  have hlenb:len<=65536:=bU h10
  rw [aP]at h13
  rcases jN h13 with ⟨l0,hb,h14⟩|⟨_,_,_,h14⟩
  rotate_left
  .exact (au h14).elim
  obtain ⟨h15,h16⟩:=aK h14
  have hl0:l0.length=len:=by have:=bT h15;rwa [iJ]at this
  obtain ⟨hone0,h17⟩:=ec h16
  rw [eL]at h17
  obtain ⟨H1,h18,hS⟩:=fR h17
  obtain ⟨H2,h19,hN⟩:=dr h18
  have hbn:=hS.lt
  rw [hS.n]at h19
  refine ⟨_,H2,λbase w0 rho w cargs hp hv=>?_,h19⟩
  simp only [bS]at hv
  obtain ⟨c1,r1,e1,v1,c2,r2,rfl,v2,c3,r3,rfl,v3,rfl⟩:=hv
  obtain ⟨cb,vcap,vcur,vel,vfr,vs,rfl,hvle,hrv,g1,g2,g3,g4,g5,g6⟩:=hvar hp v3
  simp only [VR]at v1 v2
  obtain ⟨cc,cap,o',sp,rfl,hm,hle,hcp,ho⟩:=v1
  obtain ⟨rfl,_⟩:=v2
  obtain ⟨rfl,rfl⟩:o'=0/\sp=none:=by
   rcases ho with h|h
   .exact h
   .omega
  have bC:rowOf (H.get b)=some l0:=by rw [hb];rfl
  have hr:=hp.jr hm bC
  have hc:cargs = #[.slice (some ⟨cc,0,none⟩) len cap,.int .i64 0,.slice (some ⟨cb,vo,none⟩) vn vcap]:=by apply Array.ext';exact e1
  subst hc
  have hcb:cb≠cc:=λe=>hbne (hp.inj b vb cc hr (e ▸ hrv))
  obtain ⟨cur,el,fr,k1,k2⟩:=hp.row hr bC
  obtain ⟨hz,hcb63⟩:cur.size=cap/\cap<9223372036854775808:=by
   rcases hcp.2 trivial with h|⟨⟨cs2,e2,fr2,h,h'⟩,h''⟩
   .omega
   .rw [k1]at h;cases h;exact ⟨by omega,h''⟩
  have hvr:=k2.vrs (o:=0) (n:=l0.length) (by omega)
  rw [WV,List.take_length]at hvr
  have hns:¬ (vfr.1<=vcur.size/\vcur.size<vfr.2):=hp.Tz hrv hqv g1
  refine ⟨fD hf hbd hn _ _,?_⟩
  have hcall:=hj.bC cc len cap cb vo vn vcap ((cur.toList.drop 0).take l0.length) vs cur vcur el vel fr vfr w hcb hlen0 hlenb hv0 hvb hle hcb63 hvle k1 hz k2.2 g1 g2 hns (by rw [hvr.length,hl0]) (λj v hj=>by
   rw [Yk]at hj
   split at hj
   .rw [WV,Yo]at hj
    exact hj
   .cases hj) (sE hvr hone0) g3 g5 g6
  refine CallsIn.mono (callsIn_wide.2 hcall) ?_
  have hall:=g4.append hvr
  have hone':∀ v ∈ row ++ l0,v.one=true:=λv hv=>(List.mem_append.1 hv).elim (hone v) (hone0 v)
  have hRow:∀ (c':Array Value) (fr':Nat × Nat),(∀ (j:Nat) v,(vs ++ (cur.toList.drop 0).take l0.length)[j]? = some v->c'[j]? = some v)->(∀ i,i<c'.size->¬ (fr'.1<=i/\i<fr'.2))->ik (mu rho H w) (row ++ l0) c' fr':=λc' fr' q1 q2=>by
   refine ⟨λj v hj=>⟨hone' v (YY hj),?_⟩,q2⟩
   obtain ⟨cv,t1,t2⟩:=hall.get hj
   exact ⟨cv,q1 j cv t1,t2⟩
  have hg2:H2.get b = .dead:=by rw [hN.tE b (by rw [hS.n];omega)];exact hS.get
  have hgo:∀ j,j≠b->j≠H.n->H2.get j=H.get j:=λj hj1 hj2=>by rw [hN.tE j (by rw [hS.n];exact hj2)];exact hS.tE j hj1
  have hgn:H2.get H.n = .cells (row ++ l0):=by rw [<- hS.n];exact hN.get
  have hcl:=(hp.jt b cc hr).2.2.1
  rintro e w' (⟨cur',q0,rfl,q1,q2,q3,q4,q5,q6⟩|⟨cap',nrow,el',rfl,q1,q1',q2,q3,q4,q5,q6,q7⟩)
  .obtain ⟨p1,p2⟩:=hp.move (H':=H2) (w':=w') (c':=cc) (o:=.cells cur' el fr) hr (by rw [hb];intro e;cases e) (by rw [hN.n,hS.n]) (by rw [hN.bj];exact hS.bj) (by rw [hN.bj];exact hS.wb) hg2 hgn hgo trivial q6 (by omega) (YG rfl) (by omega) q1 (λj _ hj=>q4 j hj)
    ⟨cur',el,fr,rfl,hRow cur' fr q3 (by rw [q2,<- hz];exact k2.2),by rw [q2,<- hz];exact hp.Tz hr hb k1⟩ (λcs2 e2 fr2 h=>by rw [k1]at h;cases h;exact ⟨cur',el,fr,q1,by omega⟩) (λr h=>by rw [k1]at h;cases h)
   refine ⟨_,rfl,_,?_,p1,p2⟩
   simp only [VR]
   refine ⟨cc,cap,0,none,rfl,⟨by rw [hN.n,hS.n];omega,λ_=>by simp⟩,by show len+vn<=cap;exact q0,⟨λq hq=>absurd hq (by omega),λ_=>YD ⟨⟨cur',el,fr,q1,by omega⟩,hcb63⟩⟩,YG ⟨rfl,rfl⟩⟩
  .obtain ⟨p1,p2⟩:=hp.move (H':=H2) (w':=w') (c':=w.heap.size) (o:=.cells nrow el') hr (by rw [hb];intro e;cases e) (by rw [hN.n,hS.n]) (by rw [hN.bj];exact hS.bj) (by rw [hN.bj];exact hS.wb) hg2 hgn hgo trivial q4 (by omega) (YD (Nat.le_refl _)) (by omega) q6 (λj hj _=>q7 j hj)
    ⟨nrow,el',(0,0),rfl,hRow nrow (0,0) q3 (by simp),by simp⟩ (λcs2 e2 fr2 h=>⟨cs2,e2,fr2,(q7 cc hcl).trans h,rfl⟩) (λr h=>by obtain ⟨_,_,_,k1,_⟩:=hp.row hr (show rowOf (H.get b)=some _ by rw [hb];rfl);rw [k1]at h;cases h)
   refine ⟨_,rfl,_,?_,p1,p2⟩
   simp only [VR]
   refine ⟨w.heap.size,cap',0,none,rfl,⟨by rw [hN.n,hS.n];omega,λ_=>by simp⟩,by show len+vn<=cap';exact q1,⟨λq hq=>absurd hq (by omega),λ_=>YD ⟨⟨nrow,el',_,q6,by omega⟩,q1'⟩⟩,YG ⟨rfl,rfl⟩⟩
 .obtain ⟨H',h3,hN⟩:=dr h2
  refine ⟨_,H',λbase w0 rho w cargs hp hv=>?_,h3⟩
  simp only [bS]at hv
  obtain ⟨c1,r1,e1,v1,c2,r2,rfl,v2,c3,r3,rfl,v3,rfl⟩:=hv
  obtain ⟨cb,vcap,vcur,vel,vfr,vs,rfl,hvle,hrv,g1,g2,g3,g4,g5,g6⟩:=hvar hp v3
  simp only [VR]at v1 v2
  obtain rfl:=v1
  obtain ⟨rfl,_⟩:=v2
  have hc:cargs = #[.slice none 0 0,.int .i64 0,.slice (some ⟨cb,vo,none⟩) vn vcap]:=by apply Array.ext';exact e1
  subst hc
  refine ⟨fD hf hbd hn _ _,?_⟩
  refine CallsIn.mono (callsIn_wide.2 (hj.NV cb vo vn vcap vs w hv0 hvb hvle g3 (λj v hj=>by simp [World.cell?,g1,g5 j v hj]) g6)) ?_
  rintro e w' ⟨cap,rest,el,rfl,q1,q1',q2,q3,q4⟩
  have hR:ik (mu rho H w) row (vs.toArray ++ rest) (0,0):=by
   refine ⟨λj v hj=>⟨hone v (YY hj),?_⟩,λ_ _=>by simp⟩
   obtain ⟨cv,t1,t2⟩:=g4.get hj
   have hjl:=(List.getElem?_eq_some_iff.1 t1).1
   exact ⟨cv,by rw [Array.getElem?_append_left (by simpa using hjl)];simpa using t1,t2⟩
  obtain ⟨rho',p1,p2,p3⟩:=hp.fresh (w':=w') hN rfl (λ_ _ e=>nomatch e) hR q3 q4
  refine ⟨_,rfl,rho',?_,p1,p2⟩
  simp only [VR]
  exact ⟨_,cap,0,none,rfl,p3,q1,⟨λq hq=>absurd hq (by omega),λ_=>YD ⟨⟨_,_,_,by rw [q4,Array.getElem?_push_size],by simp only [Array.size_append,List.size_toArray,g3,q2];omega⟩,q1'⟩⟩,YG ⟨rfl,rfl⟩⟩
theorem gW {b:Nat} {el:TypeId} {fr:Nat × Nat}:∀ (vs:List Value) (o:Nat) (w:World) (cur:Array Value),w.heap[b]? = some (.cells cur el fr)->o+vs.length<=cur.size->
 ∃ cur':Array Value,(w.setCells b o vs).heap[b]? = some (.cells cur' el fr)/\cur'.size=cur.size/\(∀ j,cur'[j]? = if o<=j/\j<o+vs.length then vs[j-o]? else cur[j]?)/\(∀ j,j≠b->(w.setCells b o vs).heap[j]? = w.heap[j]?)/\(w.setCells b o vs).heap.size=w.heap.size/\vB w (w.setCells b o vs)
 | [],o,w,cur,h,_=>⟨cur,h,rfl,λj=>by grind,λ_ _=>rfl,rfl,⟨rfl,rfl,rfl⟩⟩
 | v :: vs,o,w,cur,h,hle=>by
  simp only [List.length_cons]at hle
  have h1:(w.setCell ⟨b,o,none⟩ v).heap[b]? = some (.cells (cur.setIfInBounds o v) el fr):=by
   simp [World.setCell,Wj,h]
  have h2:∀ j,j≠b->(w.setCell ⟨b,o,none⟩ v).heap[j]? = w.heap[j]?:=λj hj=>by
   simp [World.setCell,Wj,Ne.symm hj]
  have h3:(w.setCell ⟨b,o,none⟩ v).heap.size=w.heap.size:=by simp [World.setCell]
  obtain ⟨cur',g1,g2,g3,g4,g5,g6⟩:=gW vs (o+1) (w.setCell ⟨b,o,none⟩ v) (cur.setIfInBounds o v) h1 (by simp;omega)
  refine ⟨cur',g1,by rw [g2];simp,λj=>?_,λj hj=>(g4 j hj).trans (h2 j hj),g5.trans h3,⟨g6.os,g6.tape,g6.output⟩⟩
  grind
end Go.Ev
end

