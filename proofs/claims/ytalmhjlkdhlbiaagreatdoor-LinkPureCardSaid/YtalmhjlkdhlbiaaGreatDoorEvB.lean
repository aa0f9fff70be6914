/- EvB: a part of the evaluator,of its logic,or of the laws' walk in it. -/
import Derived.Test.YtalmhjlkdhlbiaaGreatDoorEvA
import Derived.Laws.BytesString
import Derived.Laws.MakeOwn
import Derived.Laws.Tables
import Derived.Laws.StructEq
open Nat renaming le_refl → YA,beq → YL,ble → YS,add → YX,lt_or_ge → Yf,mul → Yg,shiftLeft → Yp,mod → Yr,blt → Yv,shiftRight → Yx,zero_add → WG,succ → WH,mul_one → WN,ble_eq_true_of_le → WQ,zero_mul → Wm,add_mul → Wp,sub → Wx,pow_mul → QE,mul_le_mul_right → QG,mod_lt → QZ,mul_le_mul → YO2
open Or renaming inr → YE,inl → YG
open List renaming length_cons → YF,mem_cons_of_mem → YH,mem_cons_self → YI,nil_append → YN,mem_cons → YT,getElem?_eq_some_iff → Ya,take_of_length_le → Yc,map_cons → Yd,mem_map → Ye,getElem?_map → Yh,mem_of_getElem? → Yi,length_map → Yl,getElem?_append_left → Yq,getElem?_append_right → Ys,mem_append → Yt,map_nil → WA,map_append → WB,nodup_cons → WY,drop_zero → WZ,take_zero → Wy,nodup_nil → QP,foldl_cons → QU,ext_getElem? → Ql,map_take → Qv,size_toArray → YB3,map_toArray → YB4,foldlM_cons → YC0,foldlM_nil → YD3,eraseIdx_nil → YM2
open Bool renaming false_eq_true → YU,and_eq_true → Yu
open Option renaming map_eq_some_iff → YY
open Array renaming getElem?_toList → Yo,replicate → QV,getElem?_push_size → Qa,size_append → YG0,toList_push → YM3
set_option linter.unusedVariables false
set_option linter.unusedSimpArgs false
set_option linter.unusedSectionVars false
section
namespace Go.Ev
open Go.RowKit
section
variable {P:Program} {nt:Nat} {o:Oper} {id:Nat} {ph:dg} {e:Env} {H:Heap} {k:K}
theorem lH {m} {bl} {row} {c} {t} {fr} (h:rowOf bl=some row) (hcan:∀ len n,bl = .bytes len n->n<256 ^ len) (hR:ie m row c fr) (hns:∀ l,bl = .cells l->¬ (fr.1<=c.size/\c.size<fr.2):=by first|(intro _ _;simp;done)|(intro _ e;cases e)):BR P m bl (.cells c t fr):=by
 cases bl with
 | cells l=>simp only [rowOf,Option.some.injEq]at h;subst h;exact ⟨c,t,fr,rfl,hR,hns _ rfl⟩
 | bytes len n=>
  simp only [rowOf,Option.some.injEq]at h
  subst h
  exact ⟨c,t,fr,rfl,⟨hcan len n rfl,λi y hy=>by
   obtain ⟨_,cv,t1,t2⟩:=hR.1 i (eB y) (by simp_all)
   rw [t1,t2.SF.2]⟩,hR.2⟩
 | _=>simp [rowOf]at h
theorem PR.fresh {base:Nat} {w0 w w':World} {rho:Nat->Option Nat} {H':Heap} (h:PR P base w0 rho H w) {bl:ee} (hN:nI H bl H') {row:List V} (bM:rowOf bl=some row) (hcan:∀ len n,bl = .bytes len n->n<256 ^ len)
 {c:Array Value} {t:TypeId} {fr:Nat × Nat} (hR:ie (mu rho H w) row c fr) (hs:vJ w w') (hh:w'.heap=w.heap.push (.cells c t fr)) (hns:∀ l,bl = .cells l->¬ (fr.1<=c.size/\c.size<fr.2):=by first|(intro _ _;simp;done)|(intro _ e;cases e)):
 ∃ rho',PR P base w0 rho' H' w'/\Ext rho H w rho' H' w'/\(mu rho' H' w').b H.n w.heap.size:=by
 obtain ⟨p1,p2⟩:=h.alloc (w':=w') (o:=.cells c t fr) hN.n hN.bC hN.get hN.tC (gi bM).1 hs (by simp [hh]) (by simp [hh]) (λj hj=>by rw [hh,Array.getElem?_push,if_neg (by omega)]) (lH bM hcan hR hns)
 exact ⟨_,p1,p2,by rw [hN.n];omega,λ_=>by simp⟩
theorem ie.exact {m:M} {row:List V} {cs:Array Value} (h:cj m row cs.toList) (h1:∀ v ∈ row,v.one=true):ie m row cs (0,0):=by
 refine ⟨λi v hi=>?_,λi _=>by simp⟩
 obtain ⟨c,h2,h3⟩:=h.get hi
 exact ⟨h1 v (Yi hi),c,by simpa using h2,h3⟩
theorem Ju:∀ {z},z8 z=true->z=(aC z.length 0).map eB
 | [],_=>rfl
 | .int 4 0 :: l,h=>by
  have h':z8 l=true:=h
  have:=Ju h'
  simp only [YF,aC,Yd,eB]
  grind
theorem me {t} {z} (h:qi P t=some z):∃ i zv,P.info? t=some i/\i.zero=some zv/\(∀ m,cj m z zv.cells.toList)/\∀ v ∈ z,v.one=true:=by
 unfold qi at h
 split at h
 .rename_i i hi
  split at h
  .rename_i zv hz
   exact ⟨i,zv,hi,hz,λm=>(lQ h).1,(lQ (mu:=⟨λ_ _=>True,λ_ _=>True⟩) h).2⟩
  simp_all
 simp_all
theorem TC {t} (hop:o.op = .alloc t) (h:aN (af P nt o) id ph e H k=1):Good P nt o e H k:=by
 simp only [af,hop]at h
 have hnd:∀ c,o.op ≠ .defer c:=by simp_all
 have key:∀ (z) (bl),qi P t=some z->rowOf bl=some z->(∀ len n,bl = .bytes len n->n<256 ^ len)->(cA H bl λn H=>k (.ptr n 0) H)=1->Good P nt o e H k:=by
  intro z bl hz bM hcan h'
  obtain ⟨H',h1,h2⟩:=dr h'
  obtain ⟨i,zv,hi,hzv,hvr,hone⟩:=me hz
  refine ⟨_,_,eM.of_run hnd λbase w0 rho w a hp ho=>?_,h1⟩
  obtain ⟨rho',p1,p2,p3⟩:=hp.fresh (w':=w.alloc (.cells zv.cells t)) h2 bM hcan (ie.exact (hvr _) hone) ⟨rfl,rfl,rfl⟩ rfl
  refine ⟨.pointer (some ⟨w.heap.size,0,none⟩),w.alloc (.cells zv.cells t),?_,rho',by simp only [VR];simp_all,p1,p2⟩
  simp [execOp,hop,Instr.alloc,zeroValue,typeInfo,hi,hzv,newVar,newRow]
 split at h
 .rename_i z n el hz hu
  split at h
  .rename_i hc
   simp only [Yu,beq_iff_eq]at hc
   have hzz:=Ju hc.1
   rw [hc.2]at hzz
   exact key z (.bytes n 0) hz (by rw [hzz];rfl) (λlen m e=>by grind) h
  .exact key z (.cells z) hz rfl (λlen m e=>by cases e) h
 .exact key _ (.cells _) (by omega) rfl (λlen m e=>by cases e) h
 .exact (au h).elim
theorem oT {x} {f} (h:dO id x f=1):∃ l,f l=1/\∀ (m) (c),VR m x c->cj m l c.cells.toList:=by
 rcases Lb h with ⟨l,rfl,h1⟩|⟨h1,h2⟩
 .exact ⟨l,h1,λm c hv=>by obtain ⟨cs,rfl,hr⟩:=hv;exact hr⟩
 .refine ⟨[x],h2,λm c hv=>?_⟩
  have:=hv.one h1
  have hc:c.cells = #[c]:=by
   cases c<;>first|rfl|simp_all|rfl
  simp only [cj]
  simp_all
theorem abJ {t} {x} (hop:o.op = .box t x) (h:aN (af P nt o) id ph e H k=1):Good P nt o e H k:=by
 simp only [af,hop]at h
 have mem:x ∈ o.op.operands:=by simp [hop,Op.operands]
 have hnd:∀ c,o.op ≠ .defer c:=by simp_all
 split at h
 .rename_i x' hx
  have h':Nq x' id ph e H k=1:=h
  unfold Nq at h'
  rw [ai]at h'
  obtain ⟨l,h1,h2⟩:=oT h'
  obtain ⟨h3,h4⟩:=ef h1
  obtain ⟨H',h5,h6⟩:=dr h4
  refine ⟨_,_,eM.of_run hnd λbase w0 rho w a hp ho=>?_,h5⟩
  obtain ⟨rho',p1,p2,p3⟩:=hp.fresh (w':=w.alloc (.cells (a.eval x).cells t)) h6 rfl (λlen m e=>by cases e) (ie.exact (h2 _ _ (ho x mem x' hx)) h3) ⟨rfl,rfl,rfl⟩ rfl
  exact ⟨.pointer (some ⟨w.heap.size,0,none⟩),w.alloc (.cells (a.eval x).cells t),by simp [execOp,hop,Instr.box,newVar,newRow],rho',by simp only [VR];simp_all,p1,p2⟩
 .exact (au h).elim
theorem jD {t} {b} (h:lj P t=some b) (w):(isAgg t).run P w = .ok b w:=by
 unfold lj at h
 split at h
 .rename_i hu;cases h;simp [isAgg,run_underlying hu]
 .rename_i hu;cases h;simp [isAgg,run_underlying hu]
 .rename_i d h1 h2 hu
  cases h
  simp only [isAgg,Sem.run_bind,run_underlying hu,Result.andThen_ok]
  rfl
 simp_all
theorem X1 {t} {x} (hop:o.op = .load t x) (h:aN (af P nt o) id ph e H k=1):Good P nt o e H k:=by
 simp only [af,hop]at h
 have mem:x ∈ o.op.operands:=by simp [hop,Op.operands]
 have hnd:∀ c,o.op ≠ .defer c:=by simp_all
 split at h
 .rename_i x' n hx hag hsz
  have h':qC n x' id ph e H k=1:=h
  unfold qC at h'
  rw [ai]at h'
  obtain ⟨b,off,hb,h1⟩:=fF h'
  obtain ⟨row,h2,h3,h30,h4⟩:=Ho h1
  refine ⟨_,_,eM.of_run hnd λbase w0 rho w a hp ho=>?_,h4⟩
  have vx:=ho x mem x' hx
  rw [hb]at vx
  obtain ⟨c,hc,hm⟩:=vx
  obtain ⟨cs,g1,g2,g3,_⟩:=hp.Hm (hp.xu hm h2) h2 h3 h30
  exact ⟨.agg cs.toArray,w,by simp [execOp,hop,hc,Instr.loadAt,Instr.sureAddr,loadVar,jD hag,cH hsz,g1],rho,by simp only [VR];simp_all,hp,Ext.refl hp.lt⟩
 .rename_i _ x' hx hag
  have h':qB x' id ph e H k=1:=h
  unfold qB at h'
  rw [ai]at h'
  obtain ⟨b,off,hb,h1⟩:=fF h'
  obtain ⟨row,v,h2,h3,h30,h4⟩:=Pf h1
  refine ⟨_,_,eM.of_run hnd λbase w0 rho w a hp ho=>?_,h4⟩
  have vx:=ho x mem x' hx
  rw [hb]at vx
  obtain ⟨c,hc,hm⟩:=vx
  obtain ⟨cv,g1,g2,_⟩:=hp.Pe (hp.xu hm h2) h2 h3 h30
  exact ⟨cv,w,by simp [execOp,hop,hc,Instr.loadAt,Instr.sureAddr,loadVar,jD hag,g1],rho,g2,hp,Ext.refl hp.lt⟩
 .exact (au h).elim
end
end Go.Ev
end
section
namespace Go.Ev
open Go.RowKit
section
variable {P:Program} {nt:Nat} {o:Oper} {id:Nat} {ph:dg} {e:Env} {H:Heap} {k:K}
theorem kX {b off} {m} {f} (h:ez id H b off m f=1):∃ H',f H'=1/\∀ {base} {w0 w} {rho} {c} {ms},PR P base w0 rho H w->(mu rho H w).b b c->(∀ v ∈ m,v.one=true)->cj (mu rho H w) m ms->
 ∃ w',(storeCells ⟨c,off,none⟩ ms 0).run P w = .ok () w'/\PR P base w0 rho H' w'/\Ext rho H w rho H' w':=by
 have h0:=h
 unfold ez at h
 rw [aV]at h
 rcases jN h with ⟨l,hb,h2⟩|⟨len,x,hb,h2⟩
 .obtain ⟨_,h2⟩:=ef h2
  obtain ⟨h3,h4⟩:=xA h2
  obtain ⟨H',h5,h6⟩:=fS h4
  refine ⟨H',h5,λ{base w0 w rho c ms} hp hm hone hv=>?_⟩
  have hms:=sf hv hone
  have bM:rowOf (H.get b)=some l:=by rw [hb];rfl
  have hr:=hp.ji hm bM
  obtain ⟨cs,el,fr,h7,h8⟩:=hp.row hr bM
  have hle:=h8.le
  obtain ⟨w',cur',g1,g2,g3,g4,g5,g6,g7⟩:=gS (P:=P) (o:=off) ms 0 cs w h7 (by rw [hv.length];omega) hms h8.2
  obtain ⟨p1,p2⟩:=hp.write hr (by simp_all) h6.n h6.bC h6.wb h6.get h6.tC trivial g7 g6 g2 g5 ⟨cur',el,fr,rfl,h8.PG hv hone h3 g3 g4,by rw [g3];exact hp.SU hr hb h7⟩ (λcs2 e2 fr2 h=>by simp_all) (λr h=>by simp_all)
  simp_all
 .obtain ⟨mx,h3,h30,h4⟩:=oJ h2
  obtain ⟨h5,h6⟩:=aL h3
  rw [ay]at h6
  obtain ⟨H',h7,h8⟩:=fS h6
  refine ⟨H',h7,λ{base w0 w rho c ms} hp hm hone hv=>?_⟩
  have hms:=sf hv hone
  obtain ⟨h9,h10⟩:=h4 hv.small
  have hle:off+m.length<=len:=cq h5
  have bM:rowOf (H.get b)=some ((aC len x).map eB):=by rw [hb];rfl
  have hr:=hp.ji hm bM
  obtain ⟨o,q1,q2⟩:=hp.cQ b c hr
  rw [hb]at q2
  obtain ⟨_,_,_,_,⟨hx,_⟩,_⟩:=q2
  obtain ⟨cs,el,fr,g7,g8⟩:=hp.row hr bM
  have hle':=g8.le
  simp only [Yl,aM]at hle'
  obtain ⟨w',cur',g1,g2,g3,g4,g5,g6,g9⟩:=gS (P:=P) (o:=off) ms 0 cs w g7 (by rw [hv.length];omega) hms g8.2
  have hR:=g8.PG hv hone (by simpa [aM] using hle) g3 g4
  obtain ⟨s1,s2⟩:=yh hx h10 hle
  have hnew:((aC len x).map eB).take off ++ (m ++ ((aC len x).map eB).drop (off+m.length))=(aC len (YX (Yr x (Nat.pow 256 off)) (Yp (YX mx (Yp (Yx x (Yg 8 (YX off m.length))) (Yg 8 m.length))) (Yg 8 off)))).map eB:=by
   rw [s1]
   simp only [WB,Qv,List.map_drop]
   rw [<- h9]
  rw [hnew]at hR
  obtain ⟨p1,p2⟩:=hp.write hr (by grind) h8.n h8.bC h8.wb h8.get h8.tC trivial g9 g6 g2 g5
   ⟨cur',el,fr,rfl,⟨s2,λi y hy=>by
    obtain ⟨_,cv,t1,t2⟩:=hR.1 i (eB y) (by grind)
    rw [t1,t2.SF.2]⟩,hR.2⟩ (λcs2 e2 fr2 h=>by grind) (λr h=>by grind)
  grind
theorem TJ {t} {x y} (hop:o.op = .store t x y) (h:aN (af P nt o) id ph e H k=1):Good P nt o e H k:=by
 simp only [af,hop]at h
 have mem:x ∈ o.op.operands/\y ∈ o.op.operands:=by simp [hop,Op.operands]
 have hnd:∀ c,o.op ≠ .defer c:=by simp [hop]
 split at h
 .rename_i x' y' n hx hy hag hsz
  have h':ve n x' y' id ph e H k=1:=h
  unfold ve at h'
  rw [ai]at h'
  obtain ⟨b,off,hb,h1⟩:=fF h'
  rw [ai]at h1
  obtain ⟨l,hl,h2⟩:=pN h1
  obtain ⟨h3,h4⟩:=aL h2
  have hlen:=cm h3
  rw [iH]at hlen
  obtain ⟨H',h5,h6⟩:=kX h4
  refine ⟨_,_,eM.Bh hnd λbase w0 rho w a hp ho=>?_,h5⟩
  have vx:=ho x mem.1 x' hx
  rw [hb]at vx
  obtain ⟨c,hc,hm⟩:=vx
  have vy:=ho y mem.2 y' hy
  rw [hl]at vy
  obtain ⟨cs,hcs,hr⟩:=vy
  have hone:=xD h4
  obtain ⟨w',g1,g2,g3⟩:=h6 hp hm hone hr
  refine ⟨w',?_,rho,g2,g3⟩
  have hcl:cs.size=n:=by have:=hr.length;simp_all
  simp [execOp,hop,hc,hcs,Instr.storeAt,Instr.sureAddr,storeVar,Value.cells,cH hsz,hcl,g1]
 .rename_i x' y' hx hy hag hsz
  have h':vd x' y' id ph e H k=1:=h
  unfold vd at h'
  rw [ai]at h'
  obtain ⟨b,off,hb,h1⟩:=fF h'
  rw [ai]at h1
  obtain ⟨hone1,h4⟩:=wK h1
  obtain ⟨H',h5,h6⟩:=kX h4
  refine ⟨_,_,eM.Bh hnd λbase w0 rho w a hp ho=>?_,h5⟩
  have vx:=ho x mem.1 x' hx
  rw [hb]at vx
  obtain ⟨c,hc,hm⟩:=vx
  have vy:=ho y mem.2 y' hy
  have hcl:(a.eval y).cells = #[a.eval y]:=by
   have:=vy.one hone1
   generalize a.eval y=q at this
   cases q<;>first|rfl|simp_all|omega
  obtain ⟨w',g1,g2,g3⟩:=h6 (ms:=[a.eval y]) hp hm (λv hv=>by simp_all) (by simp only [cj];simp_all)
  refine ⟨w',?_,rho,g2,g3⟩
  simp [execOp,hop,hc,Instr.storeAt,Instr.sureAddr,storeVar,hcl,cH hsz,g1]
 .exact (au h).elim
end
end Go.Ev
end
section
namespace Go.Ev
open Go.RowKit
section
variable {P:Program} {nt:Nat} {o:Oper} {id:Nat} {ph:dg} {e:Env} {H:Heap} {k:K}
theorem C5:∀ (l:List Value) (j) (off) (cells:Array Value),off+j+l.length<=cells.size->((l.zipIdx j).foldl (λcs (p:Value × Nat)=>cs.setIfInBounds (off+p.2) p.1) cells).size=cells.size/\
 ∀ i:Nat,((l.zipIdx j).foldl (λcs (p:Value × Nat)=>cs.setIfInBounds (off+p.2) p.1) cells)[i]? = if off+j<=i/\i<off+j+l.length then l[i-(off+j)]? else cells[i]?
 | [],j,off,cells,_=>⟨rfl,λi=>by rw [if_neg (by simp)];rfl⟩
 | v :: l,j,off,cells,h=>by
  simp only [YF]at h
  obtain ⟨h1,h2⟩:=C5 l (j+1) off (cells.setIfInBounds (off+j) v) (by simp;omega)
  simp only [List.zipIdx_cons,QU,YF]
  grind
theorem Ie {m} {z l} {cs cs':Array Value} {vs} {off} (hz:cj m z cs.toList) (hl:cj m l vs) (hle:off+l.length<=z.length) (hsz:cs'.size=cs.size)
 (hg:∀ i:Nat,cs'[i]? = if off+0<=i/\i<off+0+vs.length then vs[i-(off+0)]? else cs[i]?):cj m (z.take off ++ (l ++ z.drop (off+l.length))) cs'.toList:=by
 have e1:=hz.length
 have e2:=hl.length
 simp at e1
 refine cj.oI (by simp;omega) λi v c h1 h2=>?_
 rw [Yo,hg]at h2
 by_cases hi1:i<off
 .rw [Yq (by simp;omega),List.getElem?_take,if_pos hi1]at h1
  rw [if_neg (by omega)]at h2
  obtain ⟨c',h3,h4⟩:=hz.get h1
  simp_all
 .rw [Ys (by simp;omega),show (z.take off).length=off by simp;omega]at h1
  by_cases hi2:i-off<l.length
  .rw [Yq hi2]at h1
   rw [if_pos (by omega)]at h2
   obtain ⟨c',h3,h4⟩:=hl.get h1
   simp_all
  .rw [Ys (by omega),List.getElem?_drop,show off+l.length+(i-off-l.length)=i by omega]at h1
   obtain ⟨c',h3,h4⟩:=hz.get h1
   simp_all
inductive mh (m:M) (e:Env) (place:Nat->Option (Nat × Nat)):List (Nat × Nat × Arg)->List (Nat × Value)->Prop
 | nil:mh m e place [] []
 | cons {off size i:Nat} {a:Arg} {v:Value} {l r} (h1:place i=some (off,size)) (h2:VR m (aA a e) v) (h:mh m e place l r):mh m e place ((off,size,a):: l) ((i,v):: r)
theorem wD:∀ {parts} {z} {f},jU id e parts z f=1->∃ z',f z'=1/\z'.length=z.length/\∀ (m) (place) (cp) (cs),mh m e place parts cp->cj m z cs.toList->
 ∃ cs',Instr.fill place cs cp=some cs'/\cj m z' cs'.toList
 | [],z,f,h=>⟨z,h,rfl,λm place cp cs hp hz=>by cases hp;exact ⟨cs,rfl,hz⟩⟩
 | (off,size,a):: parts,z,f,h=>by
  have h':aI a e (λv=>dO id v λl=>aE (YL (eR l) size) (setAt id l z off λz'=>jU id e parts z' f) (no _))=1:=h
  rw [ai]at h'
  obtain ⟨l,h1,h2⟩:=oT h'
  obtain ⟨h3,h4⟩:=aL h1
  have hlen:=cm h3
  rw [iH]at hlen
  obtain ⟨h5,h6⟩:=xA h4
  obtain ⟨z',h7,h70,h8⟩:=wD h6
  refine ⟨z',h7,h70.trans (by simp;omega),λm place cp cs hp hz=>?_⟩
  cases hp with
  | cons p1 p2 p3=>
   rename_i i v r
   have hvr:=h2 m v p2
   have hl2:=hvr.length
   have hz2:=hz.length
   obtain ⟨g1,g2⟩:=C5 v.cells.toList 0 off cs (by simp_all)
   obtain ⟨cs',q1,q2⟩:=h8 m place r _ p3 (Ie hz hvr h5 g1 (by omega))
   refine ⟨cs',?_,q2⟩
   simp only [Instr.fill,p1]
   rw [if_neg (by simp_all)]
   rw [<- q1]
   rw [<- Array.foldl_toList,Array.toList_zipIdx]
theorem Au {m} {ac:Act}:∀ {l} {r},eg nt l=some r->(∀ p ∈ l,∀ ar,aK nt p.2=some ar->VR m (aA ar e) (ac.eval p.2))->
 r.length=l.length/\∀ i (h1) (h2:i<r.length),r[i].1=l[i].1/\VR m (aA r[i].2 e) (ac.eval l[i].2)
 | [],r,h,_=>by simp only [eg,Option.some.injEq]at h;simp_all
 | (j,x):: l,r,h,ho=>by
  simp only [eg]at h
  split at h
  .rename_i a r' h1 h2
   obtain ⟨h3,h4⟩:=Au h2 λp hp=>ho p (YH _ hp)
   grind
  simp_all
theorem qI {m} {ac:Act} {s}:∀ {l} {r},eg nt l=some r->(∀ p ∈ l,∀ ar,aK nt p.2=some ar->VR m (aA ar e) (ac.eval p.2))->
 mh m e (λi=>some (i*s,s)) (px s r) (l.map λp=>(p.1,ac.eval p.2))
 | [],r,h,_=>by simp only [eg,Option.some.injEq]at h;subst h;exact .nil
 | (j,x):: l,r,h,ho=>by
  simp only [eg]at h
  split at h
  .rename_i a r' h1 h2
   cases h
   exact .cons rfl (ho (j,x) (YI ..) a h1) (qI h2 λp hp=>ho p (YH _ hp))
  simp_all
theorem uv {m} {ac:Act} {pl}:∀ {l} {r} {q},eg nt l=some r->jT pl r=some q->(∀ p ∈ l,∀ ar,aK nt p.2=some ar->VR m (aA ar e) (ac.eval p.2))->
 mh m e (pl.toArray[·]?) q (l.map λp=>(p.1,ac.eval p.2))
 | [],r,q,h,hq,_=>by simp only [eg,Option.some.injEq]at h;subst h;simp only [jT,Option.some.injEq]at hq;subst hq;exact .nil
 | (j,x):: l,r,q,h,hq,ho=>by
  simp only [eg]at h
  split at h
  .rename_i a r' h1 h2
   cases h
   simp only [jT]at hq
   split at hq
   .rename_i p q' h3 h4
    cases hq
    exact .cons (by simp_all) (ho (j,x) (YI ..) a h1) (uv h2 h4 λp hp=>ho p (YH _ hp))
   simp_all
  simp_all
theorem TE {t} {parts} (hop:o.op = .build t parts) (h:aN (af P nt o) id ph e H k=1):Good P nt o e H k:=by
 simp only [af,hop]at h
 have hnd:∀ c,o.op ≠ .defer c:=by simp_all
 have hmem:∀ p ∈ parts.toList,p.2 ∈ o.op.operands:=λp hp=>by simp [hop,Op.operands];grind
 have key:∀ (z) (q) (place),qi P t=some z->(∀ (m) (ac),OR m nt e ac o->mh m e place q (parts.toList.map λp=>(p.1,ac.eval p.2)))->
  (∀ (i) (zv),P.info? t=some i->i.zero=some zv->∀ l,P.built t l=Instr.fill place zv.cells l)->Nr z q id ph e H k=1->Good P nt o e H k:=by
  intro z q place hz hpo hb h'
  obtain ⟨z',h1,_,h2⟩:=wD h'
  obtain ⟨i,zv,hi,hzv,hvr,_⟩:=me hz
  refine ⟨_,_,eM.bG hnd λm w ac ho=>?_,h1⟩
  obtain ⟨cs',h3,h4⟩:=h2 m place _ _ (hpo m ac ho) (hvr m)
  refine ⟨.agg cs',?_,by simp only [VR];simp_all⟩
  have:=run_build (P:=P) w t (parts.map λ(i,x)=>(i,ac.eval x)) cs' (by simp_all)
  simp [execOp,hop,this]
 split at h
 .rename_i z ps fs hz hps hu
  split at h
  .rename_i pl hpl
   split at h
   .rename_i q hq
    exact key z q (pl.toArray[·]?) hz (λm ac ho=>uv hps hq λp hp=>ho p.2 (hmem p hp)) (λi zv hi hzv l=>by
     unfold Jh at hpl
     simp [Program.built,hi,hu,hzv,hpl]) h
   .exact (au h).elim
  .exact (au h).elim
 .rename_i z ps n el hz hps hu
  split at h
  .rename_i s hs
   simp only [pV,YY]at hs
   obtain ⟨ti,hti,hsz⟩:=hs
   exact key z _ (λi=>some (i*s,s)) hz (λm ac ho=>qI hps λp hp=>ho p.2 (hmem p hp)) (λi zv hi hzv l=>by simp [Program.built,hi,hu,hzv,hti,hsz]) h
  .exact (au h).elim
 .exact (au h).elim
theorem zy {z}:∀ {c i} {v},(gO c z)[i]? = some v->z[i%z.length]? = some v/\i<c*z.length
 | 0,i,v,h=>by simp [gO]at h
 | c+1,i,v,h=>by
  simp only [gO]at h
  by_cases hi:i<z.length
  .rw [Yq hi]at h
   exact ⟨by rw [Nat.mod_eq_of_lt hi];omega,by grind⟩
  .rw [Ys (by omega)]at h
   obtain ⟨h1,h2⟩:=zy h
   refine ⟨?_,by grind⟩
   rw [Nat.mod_eq_sub_mod (by omega)]
   omega
theorem rR {z}:∀ c:Nat,(gO c z).length=c*z.length
 | 0=>by simp [gO]
 | c+1=>by simp [gO,rR c,Nat.succ_mul];omega
theorem DE {m} {z} {zc} (hz:cj m z zc.toList) (c):cj m (gO c z) (madeCells zc (c*z.length)).toList:=by
 have hl:=hz.length
 refine cj.oI (by simp [rR,size_madeCells]) λi v cv h1 h2=>?_
 obtain ⟨h3,h4⟩:=zy h1
 obtain ⟨c',h5,h6⟩:=hz.get h3
 have hlt:i%z.length<zc.size:=by
  grind
 have h7:(madeCells zc (c*z.length))[i]? = some (zc[i%zc.size]!):=by
  simp [madeCells,h4]
 simp_all
theorem Bz {t:TypeId} {len:Nat} {parts:Array (Nat × Operand)} (hop:o.op = .buildSlice t len parts) (h:aN (af P nt o) id ph e H k=1):Good P nt o e H k:=by
 simp only [af,hop]at h
 have hnd:∀ c,o.op ≠ .defer c:=by simp [hop]
 have hmem:∀ p ∈ parts.toList,p.2 ∈ o.op.operands:=λp hp=>by simp [hop,Op.operands];grind
 split at h
 .rename_i ps el hps hu
  split at h
  .rename_i s z hs hz
   split at h
   .rename_i hc
    simp only [Yu,beq_iff_eq,decide_eq_true_eq]at hc
    obtain ⟨hc1,hc2⟩:=hc
    have h':AJ (Ds P el && decide (0<len)) len (gO len z) (px s ps) id ph e H k=1:=h
    unfold AJ at h'
    obtain ⟨z',h1,hzl,h2⟩:=wD h'
    obtain ⟨i,zv,hi,hzv,hvr,hone⟩:=me hz
    simp only [pV,YY]at hs
    obtain ⟨ti,hti,hsz⟩:=hs
    rw [hi]at hti
    cases hti
    have hrun:∀ (w:World) (cs':Array Value) (ac:Act),Instr.fill (λi=>some (i*s,s)) (madeCells zv.cells (len*s)) (parts.toList.map λp=>(p.1,ac.eval p.2))=some cs'->
     (execOp ac.eval o).run P w = .ok (.value (.slice (some ⟨w.heap.size,0,none⟩) len len)) (w.alloc (.cells cs' el)):=by
     intro w cs' ac hf
     have hsz':(sizeOf el).run P w = .ok s w:=by simp [sizeOf,typeInfo,hi,hsz]
     have hzr:(zeroValue el).run P w = .ok zv w:=by simp [zeroValue,typeInfo,hi,hzv]
     have hbig:¬ (2 ^ 24<len*s):=by omega
     by_cases h0:len*s=0
     .have hm0:madeCells zv.cells (len*s) = #[]:=by rw [h0];simp [madeCells,Array.range_zero']
      rw [hm0]at hf
      simp [execOp,hop,Instr.buildSlice,run_underlying hu,hsz',h0,hf,newRow,Array.range_zero']
     .have hf':Instr.fill (λi=>some (i*s,s)) ((Array.range (len*s)).map (λx=>zv.cells[x%zv.cells.size]!)) (parts.toList.map λp=>(p.1,ac.eval p.2))=some cs':=hf
      simp [execOp,hop,Instr.buildSlice,run_underlying hu,hsz',hzr,hbig,h0,hf',newRow]
    have fin:∀ (bl:ee) (H':Heap),nI H bl H'->k (.slice H.n 0 len (WH len) 0) H'=1->(∀ m,cj m z' []->False)\/True->(∀ (m:M) (cs':Array Value),cj m z' cs'.toList->rowOf bl=some z'/\(∀ ln n,bl = .bytes ln n->n<256 ^ ln)/\∀ v ∈ z',v.one=true)->Good P nt o e H k:=by
     intro bl H' hN hk _ bM
     refine ⟨_,_,eM.of_run hnd λbase w0 rho w a hp ho=>?_,hk⟩
     have hmv:=DE (hvr (mu rho H w)) len
     rw [hc2]at hmv
     obtain ⟨cs',h3,h4⟩:=h2 (mu rho H w) (λi=>some (i*s,s)) _ _ (qI hps λp hp'=>ho p.2 (hmem p hp')) hmv
     obtain ⟨r1,r2,r3⟩:=bM _ cs' h4
     obtain ⟨rho',p1,p2,p3⟩:=hp.fresh (w':=w.alloc (.cells cs' el)) (t:=el) hN r1 r2 (ie.exact h4 r3) ⟨rfl,rfl,rfl⟩ rfl
     exact ⟨_,_,hrun w cs' a h3,rho',by simp only [VR];grind,p1,p2⟩
    rcases bQ h1 with ⟨h3,h4⟩|⟨h3,h4⟩
    .obtain ⟨n,h5,h6,h7⟩:=oJ h4
     obtain ⟨H',h8,h9⟩:=dr h5
     refine fin _ H' h9 h8 (YE trivial) λm cs' hm=>?_
     obtain ⟨g1,g2⟩:=h7 hm.small
     exact ⟨by simp only [rowOf];rw [<- g1],λln n' e=>by grind,λv hv=>by obtain ⟨x,rfl⟩:=h6 v hv;rfl⟩
    .obtain ⟨h5,h6⟩:=ef h4
     obtain ⟨H',h8,h9⟩:=dr h6
     exact fin _ H' h9 h8 (YE trivial) λm cs' hm=>⟨rfl,λln n' e=>(by cases e),h5⟩
   .exact (au h).elim
  .exact (au h).elim
 .exact (au h).elim
theorem Ek {t} {l c} (hop:o.op = .makeSlice t l c) (h:aN (af P nt o) id ph e H k=1):Good P nt o e H k:=by
 simp only [af,hop]at h
 have hnd:∀ c,o.op ≠ .defer c:=by simp_all
 have mem:l ∈ o.op.operands/\c ∈ o.op.operands:=by simp [hop,Op.operands]
 split at h
 .rename_i l' c' el hl hc hu
  split at h
  .rename_i z s i hz hs hi
   split at h
   .rename_i hcond
    simp only [Yu,beq_iff_eq,decide_eq_true_eq]at hcond
    obtain ⟨⟨hzs,hs0⟩,hby⟩:=hcond
    have h':wu (z8 z && s == 1) z l' c' id ph e H k=1:=h
    unfold wu at h'
    rw [ai]at h'
    obtain ⟨kl,ln,hln,h1⟩:=dE h'
    rw [ai]at h1
    obtain ⟨kc,cn,hcn,h2⟩:=dE h1
    obtain ⟨h3,h4⟩:=aL h2
    obtain ⟨h5,h6⟩:=aL h4
    obtain ⟨h7,h8⟩:=aL h6
    obtain ⟨h9,h10⟩:=aL h8
    have hle:=cq h7
    have hcs:=cq h9
    obtain ⟨i',zv,hi',hzv,hvr,hone⟩:=me hz
    rw [hi]at hi'
    cases hi'
    have hsz:=by simpa [pV,hi] using hs
    have fin:∀ (bl) (H'),nI H bl H'->k (.slice H.n 0 ln (WH cn) 0) H'=1->rowOf bl=some (gO cn z)->(∀ ln n,bl = .bytes ln n->n<256 ^ ln)->(∀ v ∈ gO cn z,v.one=true)->Good P nt o e H k:=by
     intro bl H' hN hk r1 r2 r3
     refine ⟨_,_,eM.of_run hnd λbase w0 rho w a hp ho=>?_,hk⟩
     have vl:=ho l mem.1 l' hl
     have vc:=ho c mem.2 c' hc
     rw [hln]at vl
     rw [hcn]at vc
     simp only [VR]at vl vc
     have hmv:=DE (hvr (mu rho H w)) cn
     rw [hzs]at hmv
     obtain ⟨rho',p1,p2,p3⟩:=hp.fresh (w':=w.alloc (.cells (madeCells zv.cells (cn*s)) el)) hN r1 r2 (ie.exact hmv r3) ⟨rfl,rfl,rfl⟩ rfl
     refine ⟨.slice (some ⟨w.heap.size,0,none⟩) ln cn,w.alloc (.cells (madeCells zv.cells (cn*s)) el),?_,rho',by simp only [VR];grind,p1,p2⟩
     have hm:=run_make w t el i zv hu hi hzv (oh kl) (oh kc) (ln:Int) (cn:Int) (by omega) (by omega) (by
      have:=YO2 hby hcs
      omega) (by omega)
     rw [toI_64 (cq h3) vl.2.2 (by omega) vl.2.1]at vl
     rw [toI_64 (cq h5) vc.2.2 (by omega) vc.2.1]at vc
     simp only [Int.toNat_natCast,hsz]at hm
     simp [execOp,hop,vl.1,vc.1,hm]
    rcases bQ h10 with ⟨h11,h12⟩|⟨h11,h12⟩
    .obtain ⟨H',h13,h14⟩:=dr h12
     simp only [Yu,beq_iff_eq]at h11
     have hz1:z=[.int 4 0]:=by
      have:=Ju h11.1
      rw [hzs,h11.2]at this
      exact this
     have hrep:∀ q,(aC q 0).map eB=gO q z:=by
      intro q
      rw [hz1]
      induction q with
      | zero=>rfl
      | succ q ih=>simp only [aC,Yd,gO,List.cons_append,YN,<- ih];rfl
     exact fin _ H' h14 h13 (by simp only [rowOf];simp_all) (λln n e=>by grind) (λv hv=>by rw [<- hrep]at hv;obtain ⟨y,_,rfl⟩:=Ye.1 hv;rfl)
    .rw [Bx]at h12
     obtain ⟨h13,h14⟩:=ef h12
     obtain ⟨H',h15,h16⟩:=dr h14
     exact fin _ H' h16 h15 rfl (λln n e=>by cases e) h13
   .exact (au h).elim
  .exact (au h).elim
 .exact (au h).elim
end
end Go.Ev
end
section
namespace Go.Ev
open Go.RowKit
section
variable {P:Program} {nt:Nat} {o:Oper} {id:Nat} {ph:dg} {e:Env} {H:Heap} {k:K}
theorem FF (k k') (a) (ha:a<eQ k) (hc:¬ (k.signed=true/\k.bits<k'.bits)):k'.wrap (toI k a)=toI k' (a%2 ^ k'.bits):=by
 show k'.wrap (k.wrap (a:Int))=k'.wrap ((a%2 ^ k'.bits:Nat):Int)
 unfold eQ at ha
 cases k<;>cases k'<;>simp [IntKind.wrap,IntKind.bits,IntKind.signed]at * <;> (omega)<;>omega
theorem JJ (k k':IntKind) (a:Nat) (ha:a<eQ k) (hc:k.signed=true/\k.bits<k'.bits):k'.wrap (toI k a)=toI k' (if a<2 ^ (k.bits-1) then a else a+(2 ^ k'.bits-2 ^ k.bits))/\(if a<2 ^ (k.bits-1) then a else a+(2 ^ k'.bits-2 ^ k.bits))<eQ k':=by
 unfold eQ at ha ⊢
 by_cases hlt:a<2 ^ (k.bits-1)
 .rw [if_pos hlt]
  constructor
  .show k'.wrap (k.wrap (a:Int))=k'.wrap (a:Int)
   apply qT
   cases k<;>cases k'<;>simp [IntKind.wrap,IntKind.bits,IntKind.signed]at * <;> (try split)<;>omega
  .cases k<;>cases k'<;>simp [IntKind.bits,IntKind.signed]at * <;> omega
 .rw [if_neg hlt]
  constructor
  .show k'.wrap (k.wrap (a:Int))=k'.wrap ((a+(2 ^ k'.bits-2 ^ k.bits):Nat):Int)
   apply qT
   cases k<;>cases k'<;>simp [IntKind.wrap,IntKind.bits,IntKind.signed]at * <;> (try split)<;>omega
  .cases k<;>cases k'<;>simp [IntKind.bits,IntKind.signed]at * <;> omega
theorem xk:∀ (ns:List Int) (s:ByteArray),(ns.foldl (λr n=>r.push (UInt8.ofNat n.toNat)) s).data.toList=s.data.toList ++ ns.map λn=>UInt8.ofNat n.toNat
 | [],s=>by simp
 | n :: ns,s=>by rw [QU,xk ns];simp
theorem zQ {m}:∀ {l:List UInt8} {cs},cj m (l.map eB) cs->cs=(l.map λx=>(x.toNat:Int)).map (Value.int .u8)
 | [],cs,h=>by simp only [WA,cj]at h;simp_all
 | x :: l,cs,h=>by
  obtain ⟨c,r,rfl,h1,h2⟩:=h
  rw [zQ h2]
  congr 1
  exact h1.SF.2
theorem Gx {b off n} {f} (h:lX id H b off n f=1):∃ x,f x=1/\∀ {base} {w0 w} {rho} {c},PR P base w0 rho H w->(mu rho H w).b b c->
 x<256 ^ n/\(loadCells ⟨c,off,none⟩ n).run P w = .ok (((aC n x).map λy=>(y.toNat:Int)).map (Value.int .u8)).toArray w:=by
 obtain ⟨row,x,h1,h2,h3,h4,h5⟩:=wU h
 refine ⟨x,h3,λ{base w0 w rho c} hp hm=>?_⟩
 obtain ⟨cs,g1,g2,g3⟩:=hp.cells (hp.ji hm h1) h1 h2
 obtain ⟨h6,h7⟩:=h5 g2.small
 have hl:((row.drop off).take n).length=n:=by simp;omega
 rw [hl]at h6 h7
 rw [h6]at g2
 refine ⟨h7,?_⟩
 rw [g1,zQ g2]
theorem BJ (l x):(((aC l x).map λy=>(y.toNat:Int)).foldl (λr n=>r.push (UInt8.ofNat n.toNat)) ByteArray.empty)=⟨(aC l x).toArray⟩:=by
 apply Go.WideShapes.bytes_inj
 rw [xk]
 have he:(ByteArray.empty).data.toList=[]:=rfl
 rw [he,YN,List.map_map]
 conv=>rhs;rw [<- List.map_id (aC l x)]
 apply List.map_congr_left
 simp
theorem rU {t} {s} {w} (hbig:s.size<=16777216):∃ cap w',(s.size<=cap/\cap<9223372036854775808)/\(Conv.stringToBytes t s).run P w = .ok (.slice (some ⟨w.heap.size,0,none⟩) s.size cap) w'/\vJ w w'/\
 w'.heap=w.heap.push (.cells (s.data.map (λb=>Value.int .u8 b.toNat) ++ QV (cap-s.size) (Value.int .u8 0)) t (cap,cap+1)):=by
 refine ⟨(Question.appendCap s.size 0 t).cut (w.tape w.drawn (.appendCap s.size 0 t)),?_⟩
 have hle:s.size<=(Question.appendCap s.size 0 t).cut (w.tape w.drawn (.appendCap s.size 0 t))/\(Question.appendCap s.size 0 t).cut (w.tape w.drawn (.appendCap s.size 0 t))<9223372036854775808:=by
  have hmod:=QZ (w.tape w.drawn (.appendCap s.size 0 t)) (show 0<2 ^ 63-s.size by omega)
  simp only [Question.cut]
  omega
 generalize hcap:(Question.appendCap s.size 0 t).cut (w.tape w.drawn (.appendCap s.size 0 t))=cap at hle ⊢
 have hsz:(s.data.map (λb=>Value.int .u8 b.toNat) ++ QV (cap-s.size) (Value.int .u8 0)).size=cap:=by
  simp_all
 generalize hcs:s.data.map (λb=>Value.int .u8 b.toNat) ++ QV (cap-s.size) (Value.int .u8 0)=cs at hsz ⊢
 refine ⟨{w with heap:=w.heap.push (.cells cs t (cap,cap+1)),drawn:=w.drawn+1 },hle,?_,⟨rfl,rfl,rfl⟩,rfl⟩
 simp only [Conv.stringToBytes,Sem.run_bind,run_choose,Question.forced,YU,if_false,Result.andThen_ok,hcap,newRow,run_newObj,Sem.run_pure,markStringish,run_shape,hcs]
 have h1:({w with heap:=w.heap.push (.cells cs t),drawn:=w.drawn+1 }:World).shape? w.heap.size=some (t,cap):=by
  simp [World.shape?,hsz]
 have h2:({w with heap:=w.heap.push (.cells cs t),drawn:=w.drawn+1 }:World).freeze ⟨w.heap.size,cap,none⟩ 1={w with heap:=w.heap.push (.cells cs t (cap,cap+1)),drawn:=w.drawn+1 }:=by
  simp only [World.freeze,Nat.one_ne_zero,if_false]
  congr 1
  grind
 simp_all
theorem KS {src dst:TypeId} {x:Operand} (hop:o.op = .convert src dst x) (h:aN (af P nt o) id ph e H k=1):Good P nt o e H k:=by
 simp only [af,hop]at h
 have mem:x ∈ o.op.operands:=by simp [hop,Op.operands]
 have hnd:∀ c,o.op ≠ .defer c:=by simp [hop]
 split at h
 .rename_i x' kx kd hx hs hd
  have key:∀ (mode c:Nat),FQ (lB kx) (lB kd) mode c x' id ph e H k=1->(∀ a r,a<eQ kx->(if mode=0 then a%c else if a<mode then a else a+c)=r->kd.wrap (toI kx a)=toI kd r/\r<eQ kd)->Good P nt o e H k:=by
   intro mode c h' hr
   unfold FQ at h'
   rw [ai]at h'
   obtain ⟨k1,a,ha,h1⟩:=dE h'
   obtain ⟨h2,h3⟩:=aL h1
   have:=cm h2
   subst this
   have h4:k (.int (lB kd) (if mode=0 then a%c else if a<mode then a else a+c)) H=1:=by
    cases mode with
    | zero=>
     have h5:av (Yr a c) (λr=>k (.int (lB kd) r) H)=1:=h3
     rw [ay]at h5
     exact h5
    | succ n=>
     have h5:aE (Yv a (n+1)) (k (.int (lB kd) a) H) (av (YX a c) λr=>k (.int (lB kd) r) H)=1:=h3
     rw [if_neg (by omega)]
     rcases bQ h5 with ⟨h6,h7⟩|⟨h6,h7⟩
     .rw [if_pos (er h6)];exact h7
     .rw [ay]at h7
      rw [if_neg]
      .exact h7
      .intro hlt
       have:Yv a (n+1)=true:=WQ hlt
       rw [this]at h6;cases h6
   refine ⟨_,_,eM.bG hnd λm w ac ho=>?_,h4⟩
   have v:=ho x mem x' hx
   rw [ha]at v
   simp only [VR,dJ]at v
   obtain ⟨h5,h6⟩:=hr a _ v.2.1 rfl
   refine ⟨.int kd (kd.wrap (toI kx a)),?_,?_⟩
   .simp [execOp,hop,v.1,convert,run_underlying hs,run_underlying hd,Conv.intToInt]
   .rw [h5]
    simp only [VR,dJ]
    exact ⟨trivial,h6,wO kd⟩
  unfold sV at h
  split at h
  .rename_i hc
   simp only [Yu,decide_eq_true_eq]at hc
   refine key (2 ^ (kx.bits-1)) (2 ^ kd.bits-2 ^ kx.bits) h λa r ha hr=>?_
   rw [if_neg (by cases kx<;>decide)]at hr
   rw [<- hr]
   exact JJ kx kd a ha hc
  .rename_i hc
   simp only [Yu,decide_eq_true_eq]at hc
   refine key 0 (2 ^ kd.bits) h λa r ha hr=>?_
   rw [if_pos rfl]at hr
   rw [<- hr]
   exact ⟨FF kx kd a ha hc,QZ _ (wN kd)⟩
 .rename_i x' el hx hs hd
  split at h
  .rename_i hu8
   have hel:P.underlying el=some (.int .u8):=by
    unfold Ds at hu8
    split at hu8
    .assumption
    .cases hu8
   have h':wo x' id ph e H k=1:=h
   unfold wo at h'
   rw [ai]at h'
   rcases eA h' with ⟨b,off,l,cp,sz,hb,h1⟩|⟨hb,h1⟩
   .obtain ⟨n,h2,h3⟩:=Gx (P:=P) h1
    refine ⟨_,_,eM.of_run hnd λbase w0 rho w a hp ho=>?_,h2⟩
    have v:=ho x mem x' hx
    rw [hb]at v
    simp only [VR]at v
    obtain ⟨c,cap,o',sp,hc,hm,hle,hcp,ho'⟩:=v
    obtain ⟨h4,h5⟩:=h3 hp hm
    have h5':(loadCells ⟨c,o',sp⟩ l).run P w = .ok (((aC l n).map λy=>(y.toNat:Int)).map (Value.int .u8)).toArray w:=by
     rcases ho' with ⟨rfl,rfl⟩|h6
     .exact h5
     .have:l=0:=by omega
      subst this
      rfl
    refine ⟨.string ⟨(aC l n).toArray⟩,w,?_,rho,by simp only [VR];exact ⟨trivial,h4⟩,hp,Ext.refl hp.lt⟩
    have hr:=run_bytesToString (P:=P) w ⟨c,o',sp⟩ l cap _ h5'
    rw [BJ]at hr
    simp only [execOp,hop,hc,Sem.run_bind,run_convert_bytes_string w src dst el (some ⟨c,o',sp⟩) l cap hs hel hd,hr,Result.andThen_ok,Sem.run_pure]
   .refine ⟨_,_,eM.bG hnd λm w ac ho=>?_,h1⟩
    have v:=ho x mem x' hx
    rw [hb]at v
    simp only [VR]at v
    refine ⟨.string ByteArray.empty,?_,by simp only [VR];exact ⟨rfl,by decide⟩⟩
    simp only [execOp,hop,v,Sem.run_bind,run_convert_bytes_string w src dst el none 0 0 hs hel hd,Conv.bytesToString,Sem.run_pure,Result.andThen_ok]
  .exact (au h).elim
 .rename_i x' el hx hs hd
  split at h
  .rename_i hu8
   have hel:P.underlying el=some (.int .u8):=by
    unfold Ds at hu8
    split at hu8
    .assumption
    .cases hu8
   have h':wq x' id ph e H k=1:=h
   unfold wq at h'
   rw [ai]at h'
   obtain ⟨l,n,hb,h1⟩:=ek h'
   obtain ⟨hl,h1⟩:=aL h1
   obtain ⟨H',h2,h3⟩:=dr h1
   refine ⟨_,_,eM.of_run hnd λbase w0 rho w a hp ho=>?_,h2⟩
   have v:=ho x mem x' hx
   rw [hb]at v
   simp only [VR]at v
   obtain ⟨cap,w',g1,g2,g3,g4⟩:=rU (P:=P) (t:=el) (s:=⟨(aC l n).toArray⟩) (w:=w) (by simp [ByteArray.size,aM];exact cq hl)
   have hsz:(⟨(aC l n).toArray⟩:ByteArray).size=l:=by simp [ByteArray.size,aM]
   rw [hsz]at g1 g2 g4
   have hR:ie (mu rho H w) ((aC l n).map eB) ((⟨(aC l n).toArray⟩:ByteArray).data.map (λb=>Value.int .u8 b.toNat) ++ QV (cap-l) (Value.int .u8 0)) (cap,cap+1):=by
    refine ⟨λi v hi=>?_,λi hi=>?_⟩
    .rw [Yh,YY]at hi
     obtain ⟨y,hy,rfl⟩:=hi
     refine ⟨rfl,.int .u8 y.toNat,?_,uV _ y⟩
     grind
    .simp [aM]at hi ⊢
     omega
   obtain ⟨rho',p1,p2,p3⟩:=hp.fresh (w':=w') h3 rfl (λln m' e=>by cases e;exact v.2) hR g3 g4
   refine ⟨.slice (some ⟨w.heap.size,0,none⟩) l cap,w',?_,rho',by simp only [VR];exact ⟨_,_,_,_,rfl,p3,g1.1,⟨λq hq=>absurd hq (by omega),λ_=>YE ⟨⟨_,_,_,by rw [g4,Qa],by have hle:(aC l n).length=l:=aM l n;simp [aM];omega⟩,g1.2⟩⟩,YG ⟨rfl,rfl⟩⟩,p1,p2⟩
   simp [execOp,hop,v.1,convert,run_underlying hs,run_underlying hd,run_underlying hel,g2]
  .exact (au h).elim
 .rename_i x' hx hs hd
  have h':CV x' (.c (.str 0 0)) id ph e H k=1:=h
  unfold CV at h'
  rw [ai]at h'
  obtain ⟨l,n,hb,h1⟩:=ek h'
  rw [ai]at h1
  obtain ⟨l2,n2,hb2,h2⟩:=ek h1
  simp only [aA,V.str.injEq]at hb2
  obtain ⟨rfl,rfl⟩:=hb2
  rw [ay]at h2
  obtain ⟨_,h3⟩:=aL h2
  rw [ay]at h3
  have e1:YX n (Yp 0 (Yg 8 l))=n:=by
   show n+0 <<< (8*l)=n
   simp
  rw [e1]at h3
  refine ⟨_,_,eM.bG hnd λm w ac ho=>?_,h3⟩
  have v:=ho x mem x' hx
  rw [hb]at v
  simp only [VR]at v
  exact ⟨ac.eval x,by simp [execOp,hop,v.1,convert,run_underlying hs,run_underlying hd],by simp only [VR];exact v⟩
 .exact (au h).elim
end
end Go.Ev
end
section
namespace Go.Ev
open Go.RowKit
section
variable {P:Program} {nt:Nat} {o:Oper} {id:Nat} {ph:dg} {e:Env} {H:Heap} {k:K}
def pX (m:M) (e:Env) (x:Option Arg) (cv:Option Value):Prop:=match x,cv with
 | none,none=>True
 | some a,some c=>VR m (aA a e) c
 | _,_=>False
theorem gJ {m} {ac:Act} {x} {x'} (h:GO nt x=some x') (ho:∀ y,x=some y->∀ ar,aK nt y=some ar->VR m (aA ar e) (ac.eval y)):pX m e x' (x.map ac.eval):=by
 cases x with
 | none=>simp only [GO,Option.some.injEq]at h;subst h;trivial
 | some y=>
  simp only [GO,YY]at h
  obtain ⟨a,h1,rfl⟩:=h
  exact ho y rfl a h1
theorem jO {x} {d} {f} (h:gj id x e d f=1):∃ n,f n=1/\(x=none->n=d)/\∀ (m) (cv),pX m e x cv->x.isSome=true->∃ kd,cv=some (.int kd n):=by
 cases x with
 | none=>exact ⟨d,h,λ_=>rfl,λ_ _ _ h=>by cases h⟩
 | some a=>
  have h':aI a e (λv=>cC id v λkd n=>aE (YS 3 kd) (aE (Yv n 9223372036854775808) (f n) (no _)) (no _))=1:=h
  rw [ai]at h'
  obtain ⟨kd,n,hn,h1⟩:=dE h'
  obtain ⟨h2,h3⟩:=aL h1
  obtain ⟨h4,h5⟩:=aL h3
  refine ⟨n,h5,λh=>(by cases h),λm cv hb _=>?_⟩
  cases cv with
  | none=>exact hb.elim
  | some c=>
   have hv:VR m (aA a e) c:=hb
   rw [hn]at hv
   exact ⟨oh kd,by rw [hv.1,toI_64 (cq h2) hv.2.2 (er h4) hv.2.1]⟩
theorem run_sliceBound {kd} {n y:Nat} {code} {w} (h:n<=y):(Instr.sliceBound (.int kd n) y code).run P w = .ok n w:=by
 simp [Instr.sliceBound,asIntOf,h]
theorem fU {isS} {len cap l h mm:Nat} {m} {lo hi mx} {clo chi cmx} {w} (b1:pX m e lo clo) (b2:pX m e hi chi) (b3:pX m e mx cmx)
 (hlo:lo=none->l=0) (hhi:hi=none->h=len) (hmx:mx=none->mm=cap) (hlo':∀ (m) (cv),pX m e lo cv->lo.isSome=true->∃ kd,cv=some (.int kd l)) (hhi':∀ (m) (cv),pX m e hi cv->hi.isSome=true->∃ kd,cv=some (.int kd h))
 (hmx':∀ (m) (cv),pX m e mx cv->mx.isSome=true->∃ kd,cv=some (.int kd mm)) (hno:hi=none->mx=none) (h1:l<=h) (h2:h<=mm) (h3:mm<=cap):
 (Instr.sliceBounds isS len cap clo chi cmx).run P w = .ok (l,h,mm) w:=by
 cases mx with
 | none=>
  cases cmx with
  | some _=>exact b3.elim
  | none=>
   have:=hmx rfl
   subst this
   cases hi with
   | none=>
    cases chi with
    | some _=>exact b2.elim
    | none=>
     have:=hhi rfl
     subst this
     cases lo with
     | none=>
      cases clo with
      | some _=>exact b1.elim
      | none=>have:=hlo rfl;subst this;rfl
     | some a=>
      obtain ⟨kd,rfl⟩:=hlo' _ _ b1 rfl
      simp [Instr.sliceBounds,run_sliceBound h1]
   | some a2=>
    obtain ⟨kd2,rfl⟩:=hhi' _ _ b2 rfl
    cases lo with
    | none=>
     cases clo with
     | some _=>exact b1.elim
     | none=>have:=hlo rfl;subst this;simp [Instr.sliceBounds,run_sliceBound h2]
    | some a=>
     obtain ⟨kd,rfl⟩:=hlo' _ _ b1 rfl
     simp [Instr.sliceBounds,run_sliceBound h1,run_sliceBound h2]
 | some a3=>
  obtain ⟨kd3,rfl⟩:=hmx' _ _ b3 rfl
  cases hi with
  | none=>simp_all
  | some a2=>
   obtain ⟨kd2,rfl⟩:=hhi' _ _ b2 rfl
   cases lo with
   | none=>
    cases clo with
    | some _=>exact b1.elim
    | none=>have:=hlo rfl;subst this;simp [Instr.sliceBounds,run_sliceBound h2,run_sliceBound h3]
   | some a=>
    obtain ⟨kd,rfl⟩:=hlo' _ _ b1 rfl
    simp [Instr.sliceBounds,run_sliceBound h1,run_sliceBound h2,run_sliceBound h3]
theorem TH {t:TypeId} {x:Operand} {lo hi mx:Option Operand} (hop:o.op = .slice t x lo hi mx) (h:aN (af P nt o) id ph e H k=1):Good P nt o e H k:=by
 simp only [af,hop]at h
 have mem:x ∈ o.op.operands:=by simp [hop,Op.operands]
 have mlo:∀ y,lo=some y->y ∈ o.op.operands:=λy hy=>by subst hy;simp [hop,Op.operands]
 have mhi:∀ y,hi=some y->y ∈ o.op.operands:=λy hy=>by subst hy;simp [hop,Op.operands]
 have mmx:∀ y,mx=some y->y ∈ o.op.operands:=λy hy=>by subst hy;simp [hop,Op.operands]
 have hnd:∀ c,o.op ≠ .defer c:=by simp [hop]
 split at h
 rotate_left
 .exact (au h).elim
 rename_i x' lo' hi' mx' hx hlo hhi hmx
 split at h
 .rename_i hu
  split at h
  .have h':Xd x' lo' hi' id ph e H k=1:=h
   unfold Xd at h'
   rw [ai]at h'
   obtain ⟨len,n,hb,h1⟩:=ek h'
   obtain ⟨hh,h2,h3,h4⟩:=jO h1
   obtain ⟨ll,h5,h6,h7⟩:=jO h2
   obtain ⟨h8,h9⟩:=aL h5
   obtain ⟨h10,h11⟩:=aL h9
   rw [ay,ay]at h11
   have hl:=cq h8
   have hh':=cq h10
   refine ⟨_,_,eM.bG hnd λm w ac ho=>?_,h11⟩
   have v:=ho x mem x' hx
   rw [hb]at v
   simp only [VR]at v
   have rH:mx=none:=by
    cases mx with
    | none=>rfl
    | some y=>simp [GO]at hmx
   subst rH
   have hsb:=fU (P:=P) (isS:=false) (len:=len) (cap:=len) (l:=ll) (h:=hh) (mm:=len) (w:=w) (mx:=none) (cmx:=none) (gJ (m:=m) (ac:=ac) hlo λy hy=>ho y (mlo y hy)) (gJ (m:=m) (ac:=ac) hhi λy hy=>ho y (mhi y hy)) trivial h6 h3 (λ_=>rfl) h7 h4 (λ_ _ _ h=>by cases h) (λ_=>rfl) hl hh' (YA _)
   have e1:Yr (Yx n (Yg 8 ll)) (Nat.pow 256 (Wx hh ll))=n/256 ^ ll%256 ^ (hh-ll):=by
    show (n >>> (8*ll))%256 ^ (hh-ll)=_
    rw [Nat.shiftRight_eq_div_pow,QE]
   rw [e1]
   refine ⟨.string ⟨(aC (hh-ll) (n/256 ^ ll%256 ^ (hh-ll))).toArray⟩,?_,by simp only [VR];exact ⟨rfl,QZ _ (Nat.pow_pos (by decide))⟩⟩
   have hsz:(⟨(aC len n).toArray⟩:ByteArray).size=len:=by simp [ByteArray.size,aM]
   have hex:(⟨(aC len n).toArray⟩:ByteArray).extract ll hh=⟨(aC (hh-ll) (n/256 ^ ll%256 ^ (hh-ll))).toArray⟩:=by
    apply Go.WideShapes.bytes_inj
    rw [ByteArray.data_extract]
    simp only [Array.toList_extract,List.extract_eq_take_drop]
    rw [iV _ _ _ (by omega),iW _ _ _ (by omega)]
    exact mQ _ _ _ (by simp)
   simp [execOp,hop,v.1,Instr.sliceAt,Instr.slice,run_underlying hu,hsz,hsb,hex]
  .exact (au h).elim
 .rename_i el hu
  split at h
  .rename_i s hs
   have hfin:Xe s x' lo' hi' mx' id ph e H k=1/\(hi'=none->mx'=none):=by
    split at h
    .exact (au h).elim
    .rename_i hno
     exact ⟨h,λh1=>by
      cases mx' with
      | none=>rfl
      | some a=>exact (hno a h1 rfl).elim⟩
   obtain ⟨h',hno⟩:=hfin
   unfold Xe at h'
   rw [ai]at h'
   rcases eA h' with ⟨b,off,len,cp,sz,hb,h1⟩|⟨hb,h1⟩
   .obtain ⟨ll,h2,h3,h4⟩:=jO h1
    obtain ⟨hh,h5,h6,h7⟩:=jO h2
    obtain ⟨h8,h9⟩:=aL h5
    have hle:=cq h8
    rw [ay]at h9
    have key:∀ (cp':Nat) (off':Nat) (sz':Nat),k (.slice b off' (hh-ll) cp' sz') H=1->(cp'=0->cp=0/\sz'=sz/\sz=s/\mx'=none)->
     (∀ (c cap o':Nat) (m:M) (cmx:Option Value),pX m e mx' cmx->len<=cap->(∀ q,cp=q+1->cap=q)->(o'=off\/cap=0)->∃ mm,hh<=mm/\mm<=cap/\(mx'=none->mm=cap)/\(∀ (m:M) (cv:Option Value),pX m e mx' cv->mx'.isSome=true->∃ kd,cv=some (.int kd mm))/\
      (∀ q,cp'=q+1->mm-ll=q)/\((if mm=ll then o' else o'+ll*s)=off'\/mm-ll=0))->Good P nt o e H k:=by
     intro cp' off' sz' hk hsz0 hmm
     refine ⟨_,_,eM.bG hnd λm w ac ho=>?_,hk⟩
     have v:=ho x mem x' hx
     rw [hb]at v
     simp only [VR]at v
     obtain ⟨c,cap,o',sp,hc,hm,hlc,hcp,ho'⟩:=v
     have bm:=gJ (m:=m) (ac:=ac) (e:=e) hmx λy hy=>ho y (mmx y hy)
     obtain ⟨mm,g1,g2,g3,g4,g5,g6⟩:=hmm c cap o' m _ bm hlc hcp.1 (ho'.imp (·.1) λh=>h)
     have hsb:=fU (P:=P) (isS:=true) (len:=len) (cap:=cap) (l:=ll) (h:=hh) (mm:=mm) (w:=w) (gJ (m:=m) (ac:=ac) hlo λy hy=>ho y (mlo y hy)) (gJ (m:=m) (ac:=ac) hhi λy hy=>ho y (mhi y hy)) bm h3 h6 g3 h4 h7 g4 hno hle g1 g2
     refine ⟨.slice (some ⟨c,if mm=ll then o' else o'+ll*s,sp⟩) (hh-ll) (mm-ll),?_,?_⟩
     .have ha:(if mm=ll then some (⟨c,o',sp⟩:Addr) else Option.map (λx=>x.add (ll*s)) (some (⟨c,o',sp⟩:Addr)))=some ⟨c,if mm=ll then o' else o'+ll*s,sp⟩:=by
       split
       .rfl
       .have hsp:sp=none:=by
         rcases ho' with h|h
         .exact h.2
         .omega
        rw [hsp];simp [Addr.add_lit]
      simp only [execOp,hop,hc,Instr.sliceAt,Sem.run_bind,run_underlying hu,Result.andThen_ok,Instr.slice,hsb,cH hs,Sem.run_pure,ha]
     .simp only [VR]
      refine ⟨c,mm-ll,_,_,rfl,hm,by omega,⟨g5,λh0=>?_⟩,?_⟩
      rotate_left
      .grind
      obtain ⟨q1,q2,q3,q4⟩:=hsz0 h0
      by_cases hml:mm=ll
      .left;omega
      .have hcapm:=g3 q4
       rcases hcp.2 q1 with q5|q5
       .left;omega
       .right
        rw [if_neg hml,q2,q3]
        have:o'+ll*s+(mm-ll)*s=o'+cap*s:=by
         rw [Nat.add_assoc,<- Wp]
         congr 2
         omega
        rw [this,<- q3]
        exact ⟨q5.1,by have:=q5.2;omega⟩
    cases mx' with
    | none=>
     cases cp with
     | zero=>
      have h10:aE (YS hh len) (aE (YL sz s) (av (YX off (Yg ll s)) λo'=>k (.slice b o' (Wx hh ll) 0 sz) H) (no _)) (no _)=1:=h9
      obtain ⟨h11,h12⟩:=aL h10
      obtain ⟨hszs,h12⟩:=aL h12
      have hszs:=cm hszs
      rw [ay]at h12
      have hhl:=cq h11
      refine key 0 (off+ll*s) sz h12 (λ_=>⟨rfl,rfl,hszs,rfl⟩) λc cap o' m cmx bm hlc hcp ho'=>⟨cap,by omega,YA _,λ_=>rfl,λ_ _ _ h=>(by cases h),λq hq=>absurd hq (by omega),?_⟩
      grind
     | succ q=>
      have h10:aE (YS hh q) (aE (YL q ll) (k (.slice b off (Wx hh ll) 1 0) H) (av (YX off (Yg ll s)) λo'=>av (WH (Wx q ll)) λc'=>k (.slice b o' (Wx hh ll) c' 0) H)) (no _)=1:=h9
      obtain ⟨h11,h12⟩:=aL h10
      have hhq:=cq h11
      rcases bQ h12 with ⟨h13,h14⟩|⟨h13,h14⟩
      .have:=cm h13
       subst this
       refine key 1 off 0 h14 (λh=>absurd h (by omega)) λc cap o' m cmx bm hlc hcp ho'=>?_
       have:=hcp q rfl
       subst this
       refine ⟨cap,hhq,YA _,λ_=>rfl,λ_ _ _ h=>(by cases h),λr hr=>by omega,YE (by omega)⟩
      .rw [ay,ay]at h14
       rw [eS]at h13
       have hne:q≠ll:=by simpa using h13
       refine key _ _ 0 h14 (λh=>absurd h (by omega)) λc cap o' m cmx bm hlc hcp ho'=>?_
       have:=hcp q rfl
       subst this
       refine ⟨cap,hhq,YA _,λ_=>rfl,λ_ _ _ h=>(by cases h),λr hr=>by injection hr,YG ?_⟩
       rw [if_neg hne]
       rcases ho' with rfl|h15
       .rfl
       .omega
    | some am=>
     have h10:gj id (some am) e 0 (λm=>aE (YS hh m) (aE (YS m (Nat.rec (motive:=λ_=>Nat) len (λq _=>q) cp)) (aE (YL m ll) (k (.slice b off (Wx hh ll) 1 0) H) (av (YX off (Yg ll s)) λo'=>av (WH (Wx m ll)) λc'=>k (.slice b o' (Wx hh ll) c' 0) H)) (no _)) (no _))=1:=h9
     obtain ⟨mm,h11,_,h13⟩:=jO h10
     obtain ⟨h14,h15⟩:=aL h11
     obtain ⟨h16,h17⟩:=aL h15
     have hhm:=cq h14
     have hmc:=cq h16
     have hcap:∀ cap:Nat,len<=cap->(∀ q,cp=q+1->cap=q)->mm<=cap:=λcap q1 q2=>by
      clear h9 h10 h17 h11 h15
      cases cp with
      | zero=>exact Nat.le_trans (show mm<=len from hmc) q1
      | succ q=>rw [q2 q rfl];exact hmc
     rcases bQ h17 with ⟨h18,h19⟩|⟨h18,h19⟩
     .have:=cm h18
      subst this
      exact key 1 off 0 h19 (λh=>absurd h (by omega)) λc cap o' m cmx bm hlc hcp ho'=>⟨mm,hhm,hcap cap hlc hcp,λh=>(by cases h),h13,λr hr=>by omega,YE (by omega)⟩
     .rw [ay,ay]at h19
      rw [eS]at h18
      have hne:mm≠ll:=by simpa using h18
      refine key _ _ 0 h19 (λh=>absurd h (by omega)) λc cap o' m cmx bm hlc hcp ho'=>⟨mm,hhm,hcap cap hlc hcp,λh=>(by cases h),h13,λr hr=>(by injection hr),YG ?_⟩
      rw [if_neg hne]
      rcases ho' with rfl|h20
      .rfl
      .have:=hcap cap hlc hcp
       omega
   .obtain ⟨ll,h2,h3,h4⟩:=jO h1
    obtain ⟨hh,h5,h6,h7⟩:=jO h2
    obtain ⟨mm,h8,h9,h10⟩:=jO h5
    obtain ⟨h11,h12⟩:=aL h8
    obtain ⟨h13,h14⟩:=aL h12
    obtain ⟨h15,h16⟩:=aL h14
    have e1:=cm h11
    have e2:=cm h13
    have e3:=cm h15
    subst e1 e2 e3
    refine ⟨_,_,eM.bG hnd λm w ac ho=>?_,h16⟩
    have v:=ho x mem x' hx
    rw [hb]at v
    simp only [VR]at v
    have hsb:=fU (P:=P) (isS:=true) (len:=0) (cap:=0) (l:=0) (h:=0) (mm:=0) (w:=w) (gJ (m:=m) (ac:=ac) hlo λy hy=>ho y (mlo y hy)) (gJ (m:=m) (ac:=ac) hhi λy hy=>ho y (mhi y hy)) (gJ (m:=m) (ac:=ac) hmx λy hy=>ho y (mmx y hy)) h3 h6 h9 h4 h7 h10 hno (YA _) (YA _) (YA _)
    refine ⟨.slice none 0 0,?_,by simp only [VR]⟩
    simp only [execOp,hop,v,Instr.sliceAt,Sem.run_bind,run_underlying hu,Result.andThen_ok,Instr.slice,hsb,cH hs,Sem.run_pure]
    rfl
  .exact (au h).elim
 .rename_i n el hu
  split at h
  .rename_i s hs
   have hfin:Xc n s x' lo' hi' mx' id ph e H k=1/\(hi'=none->mx'=none):=by
    split at h
    .exact (au h).elim
    .rename_i hno
     exact ⟨h,λh1=>by
      cases mx' with
      | none=>rfl
      | some a=>exact (hno a h1 rfl).elim⟩
   obtain ⟨h',hno⟩:=hfin
   unfold Xc at h'
   rw [ai]at h'
   obtain ⟨b,off,hb,h1⟩:=fF h'
   obtain ⟨mm,h2,h3,h4⟩:=jO h1
   obtain ⟨hh,h5,h6,h7⟩:=jO h2
   obtain ⟨ll,h8,h9,h10⟩:=jO h5
   obtain ⟨h11,h12⟩:=aL h8
   obtain ⟨h13,h14⟩:=aL h12
   obtain ⟨h15,h16⟩:=aL h14
   rw [ay]at h16
   have hle:=cq h11
   have hhm:=cq h13
   have rH:=cq h15
   have key:∀ (cp' off':Nat),k (.slice b off' (hh-ll) cp' 0) H=1->cp'≠0->(∀ q,cp'=q+1->mm-ll=q)->(if mm=ll then off else off+ll*s)=off'->Good P nt o e H k:=by
    intro cp' off' hk hne0 g5 g6
    refine ⟨_,_,eM.bG hnd λm w ac ho=>?_,hk⟩
    have v:=ho x mem x' hx
    rw [hb]at v
    simp only [VR]at v
    obtain ⟨c,hc,hm⟩:=v
    have hsb:=fU (P:=P) (isS:=false) (len:=n) (cap:=n) (l:=ll) (h:=hh) (mm:=mm) (w:=w) (gJ (m:=m) (ac:=ac) hlo λy hy=>ho y (mlo y hy)) (gJ (m:=m) (ac:=ac) hhi λy hy=>ho y (mhi y hy)) (gJ (m:=m) (ac:=ac) hmx λy hy=>ho y (mmx y hy)) h9 h6 h3 h10 h7 h4 hno hle hhm rH
    refine ⟨.slice (some ⟨c,if mm=ll then off else off+ll*s,none⟩) (hh-ll) (mm-ll),?_,?_⟩
    .have ha:(if mm=ll then (⟨c,off,none⟩:Addr) else (⟨c,off,none⟩:Addr).add (ll*s))=⟨c,if mm=ll then off else off+ll*s,none⟩:=by
      split<;>simp [Addr.add_lit]
     simp only [execOp,hop,hc,Instr.sliceAt,Sem.run_bind,run_underlying hu,Result.andThen_ok,Instr.sureAddr,hsb,cH hs,Sem.run_pure,ha]
    .simp only [VR]
     exact ⟨c,mm-ll,_,_,rfl,hm,by omega,⟨g5,λh=>absurd h hne0⟩,YG ⟨g6,rfl⟩⟩
   rcases bQ h16 with ⟨h17,h18⟩|⟨h17,h18⟩
   .have:=cm h17
    subst this
    exact key 1 off h18 (by omega) (λq hq=>by omega) (by rw [if_pos rfl])
   .rw [ay,ay]at h18
    rw [eS]at h17
    have hne:mm≠ll:=by simpa using h17
    exact key _ _ h18 (by omega) (λq hq=>by injection hq) (by rw [if_neg hne];rfl)
  .exact (au h).elim
 .exact (au h).elim
end
end Go.Ev
end
section
namespace Go.Ev
open Go.RowKit
section
variable {P:Program} {nt:Nat} {o:Oper} {id:Nat} {ph:dg} {e:Env} {H:Heap} {k:K}
theorem KU {t} (hop:o.op = .makeMap t none) (h:aN (af P nt o) id ph e H k=1):Good P nt o e H k:=by
 simp only [af,hop]at h
 have hnd:∀ c,o.op ≠ .defer c:=by simp_all
 have h':(cA H (.map []) λb H=>k (.map b) H)=1:=h
 obtain ⟨H',h1,h2⟩:=dr h'
 refine ⟨_,_,eM.of_run hnd λbase w0 rho w a hp ho=>?_,h1⟩
 obtain ⟨p1,p2⟩:=hp.alloc (w':=w.alloc (.map #[] 0)) h2.n h2.bC h2.get h2.tC trivial ⟨rfl,rfl,rfl⟩ (by simp) (World.alloc_heap_new w _) (λj hj=>Below.heap_alloc _ _ _ hj) ⟨#[],0,[],rfl,List.Perm.refl _,⟨QP,λx h=>by simp⟩,⟨QP,λx h=>by cases h⟩,by rfl,by rfl⟩
 exact ⟨.map (some w.heap.size),w.alloc (.map #[] 0),by simp [execOp,hop,Instr.makeMap],_,by exact ⟨_,rfl,by rw [h2.n];omega,λ_=>by simp⟩,p1,p2⟩
def Lt (ks:Bool) (d:TypeDesc):Prop:=(ks=false/\∃ k,d = .int k)\/(ks=true/\d = .string)
theorem A9 {t} {ks} (h:J9 P t=some ks):∃ d,P.underlying t=some d/\Lt ks d:=by
 unfold J9 at h
 split at h
 .rename_i q hu;cases h;exact ⟨_,hu,YG ⟨rfl,q,rfl⟩⟩
 .rename_i hu;cases h;exact ⟨_,hu,YE ⟨rfl,rfl⟩⟩
 simp_all
def Fe (ks:Bool) (x y:V):Prop:=(ks=false/\∃ k a b,x = .int k a/\y = .int k b)\/(ks=true/\∃ l a m b,x = .str l a/\y = .str m b)
theorem Fe.kd {ks:Bool} {x y:V} (h:Fe ks x y):Kd x y:=h.imp (λh=>h.2) (λh=>h.2)
theorem Fe.trans {ks:Bool} {x y z:V} (h:Fe ks x y) (k:Kd y z):Fe ks x z:=by
 rcases h with ⟨h,q,a,b,rfl,rfl⟩|⟨h,l,a,m,b,rfl,rfl⟩<;>rcases k with ⟨q',a',b',e,rfl⟩|⟨l',a',m',b',e,rfl⟩<;>cases e
 .exact YG ⟨h,_,_,_,rfl,rfl⟩
 .exact YE ⟨h,_,_,_,_,rfl,rfl⟩
theorem Kd.symm {x y:V} (h:Kd x y):Kd y x:=by
 rcases h with ⟨q,a,b,rfl,rfl⟩|⟨l,a,m,b,rfl,rfl⟩
 .exact YG ⟨_,_,_,rfl,rfl⟩
 .exact YE ⟨_,_,_,_,rfl,rfl⟩
theorem wP {ks} {x y} {f} (h:I0 id ks x y f=1):∃ b,f b=1/\(b=true->x=y)/\(b=false->x≠y)/\Fe ks x y:=by
 cases x<;>first|exact (au h).elim|skip
 .rename_i k1 a
  have h':cC id y (λk2 b=>aE ks (no _) (aE (YL k1 k2) (f (YL a b)) (no _)))=1:=h
  obtain ⟨k2,b,rfl,h1⟩:=dE h'
  rcases bQ h1 with ⟨_,h2⟩|⟨hks,h2⟩
  .exact (au h2).elim
  obtain ⟨h3,h4⟩:=aL h2
  have:=cm h3
  subst this
  refine ⟨_,h4,λhb=>by simp_all,λhb e=>?_,YG ⟨hks,_,_,_,rfl,rfl⟩⟩
  simp_all
 .rename_i l1 a
  have h':ec id y (λl2 b=>aE ks (aE (YL l1 l2) (f (YL a b)) (f false)) (no _))=1:=h
  obtain ⟨l2,b,rfl,h1⟩:=ek h'
  obtain ⟨hks,h2⟩:=aL h1
  have hf:f (decide (l1=l2) && decide (a=b))=1:=by
   rcases bQ h2 with ⟨h3,h4⟩|⟨h3,h4⟩
   .rw [eS]at h3 h4
    simp_all
   .rw [eS]at h3
    simp_all
  refine ⟨_,hf,λhb=>by simp_all,λhb e=>?_,YE ⟨hks,_,_,_,_,rfl,rfl⟩⟩
  simp_all
theorem Dw {ks} {x y} (hk:Fe ks x y) {m} {cx cy} {d} (vx:VR m x cx) (vy:VR m y cy) (hd:Lt ks d):(x=y->Instr.sameNow d cx cy=some true/\Instr.sameBits 10000 cy cx=true)/\(x≠y->Instr.sameNow d cx cy=some false):=by
 rcases hk with ⟨rfl,q,a,b,rfl,rfl⟩|⟨rfl,l1,a,l2,b,rfl,rfl⟩
 .rw [vx.1,vy.1]
  rcases hd with ⟨_,q2,rfl⟩|⟨h,_⟩
  .refine ⟨λe=>?_,λe=>?_⟩
   .cases e
    refine ⟨by simp [Instr.sameNow],?_⟩
    simp [Instr.sameBits]
   .have hab:a≠b:=λh=>e (by rw [h])
    have:=λh=>hab (toI_inj _ vx.2.1 vy.2.1 h)
    simp only [Instr.sameNow,if_true]
    simp_all
  simp_all
 .rw [vx.1,vy.1]
  rcases hd with ⟨h,_⟩|⟨_,rfl⟩
  .cases h
  .refine ⟨λe=>?_,λe=>?_⟩
   .cases e
    have hs:((⟨(aC l1 a).toArray⟩:ByteArray) == ⟨(aC l1 a).toArray⟩)=true:=by rw [beq_toListBytes];simp
    refine ⟨by simp only [Instr.sameNow,hs],?_⟩
    simp only [Instr.sameBits]
    omega
   .have:((⟨(aC l1 a).toArray⟩:ByteArray) == ⟨(aC l2 b).toArray⟩)=false:=by
     rw [beq_toListBytes,ByteArray.toList_eq,ByteArray.toList_eq,beq_eq_false_iff_ne]
     intro h
     have hl:=congrArg List.length h
     simp [aM]at hl
     subst hl
     exact e (by rw [qN vx.2 vy.2 (by omega)])
    simp only [Instr.sameNow,this]
def fL (m:M) (es:List (V × V)) (ents:List MapEntry):Prop:=cj m (es.map (·.1)) (ents.map (·.key))/\cj m (es.map (·.2)) (ents.map (·.val))
theorem fL.cons {m:M} {p:V × V} {es:List (V × V)} {ents:List MapEntry} (h:fL m (p :: es) ents):∃ en r,ents=en :: r/\VR m p.1 en.key/\VR m p.2 en.val/\fL m es r:=by
 obtain ⟨h1,h2⟩:=h
 simp only [Yd,cj]at h1 h2
 obtain ⟨c,r,h3,h4,h5⟩:=h1
 obtain ⟨c',r',h6,h7,h8⟩:=h2
 cases ents with
 | nil=>cases h3
 | cons en r0=>
  simp only [Yd,List.cons.injEq]at h3 h6
  obtain ⟨rfl,rfl⟩:=h3
  obtain ⟨rfl,rfl⟩:=h6
  exact ⟨en,r0,rfl,h4,h7,h5,h8⟩
theorem fL.mk {m:M} {p:V × V} {es:List (V × V)} {en:MapEntry} {r:List MapEntry} (h1:VR m p.1 en.key) (h2:VR m p.2 en.val) (h:fL m es r):fL m (p :: es) (en :: r):=by
 refine ⟨?_,?_⟩<;>simp only [Yd,cj]
 .exact ⟨_,_,rfl,h1,h.1⟩
 .exact ⟨_,_,rfl,h2,h.2⟩
theorem fL.nil {m:M} {ents:List MapEntry} (h:fL m [] ents):ents=[]:=by
 have:=h.1
 simp only [WA,cj]at this
 simpa using this
theorem fL.set {m:M} {p:V × V} {en:MapEntry} (h1:VR m p.1 en.key) (h2:VR m p.2 en.val):∀ {es:List (V × V)} {ents:List MapEntry} {i:Nat},fL m es ents->fL m (es.set i p) (ents.set i en)
 | [],_,_,h=>by rw [h.nil];exact ⟨by simp only [List.set_nil,WA,cj],by simp only [List.set_nil,WA,cj]⟩
 | q :: es,ents,i,h=>by
  obtain ⟨e,r,rfl,e1,e2,e3⟩:=h.cons
  cases i with
  | zero=>exact fL.mk h1 h2 e3
  | succ i=>exact fL.mk e1 e2 (fL.set h1 h2 e3)
theorem fL.erase {m:M}:∀ {es:List (V × V)} {ents:List MapEntry} {i:Nat},fL m es ents->fL m (es.eraseIdx i) (ents.eraseIdx i)
 | [],_,_,h=>by rw [h.nil];exact ⟨by simp only [YM2,WA,cj],by simp only [YM2,WA,cj]⟩
 | q :: es,ents,i,h=>by
  obtain ⟨e,r,rfl,e1,e2,e3⟩:=h.cons
  cases i with
  | zero=>exact e3
  | succ i=>exact fL.mk e1 e2 (fL.erase e3)
theorem fL.snoc {m:M} {p:V × V} {en:MapEntry} (h1:VR m p.1 en.key) (h2:VR m p.2 en.val):∀ {es:List (V × V)} {ents:List MapEntry},fL m es ents->fL m (es ++ [p]) (ents ++ [en])
 | [],_,h=>by rw [h.nil];exact fL.mk h1 h2 ⟨by simp only [WA,cj],by simp only [WA,cj]⟩
 | q :: es,ents,h=>by
  obtain ⟨e,r,rfl,e1,e2,e3⟩:=h.cons
  exact fL.mk e1 e2 (fL.snoc h1 h2 e3)
theorem rG {ks} {x v} {m} {cx} {d} (vx:VR m x cx) (hd:Lt ks d):∀ {es} {ents} (j),(x,v) ∈ es->(es.map (·.1)).Nodup->(∀ p ∈ es,Fe ks x p.1)->fL m es ents->
 ∃ i cv en,Instr.findNow d cx ents j=some (some (j+i,cv))/\VR m v cv/\es[i]? = some (x,v)/\ents[i]? = some en/\Instr.sameBits 10000 en.key cx=true
 | [],_,_,h,_,_,_=>by cases h
 | (a,u):: es,ents,j,h,hn,hk,he=>by
  obtain ⟨en,r,rfl,e1,e2,e3⟩:=he.cons
  obtain ⟨g1,g2⟩:=Dw (hk _ (YI ..)) vx e1 hd
  rw [Yd,WY]at hn
  rcases YT.1 h with h|h
  .cases h
   obtain ⟨g3,g4⟩:=g1 rfl
   exact ⟨0,en.val,en,by simp only [Instr.findNow,g3,Nat.add_zero],e2,rfl,rfl,g4⟩
  .have hne:=λe=>hn.1 (Ye.2 ⟨(x,v),h,e⟩)
   obtain ⟨i,cv,en',g3,g4,g5,g6,g7⟩:=rG vx hd (j+1) h hn.2 (λp hp=>hk p (YH _ hp)) e3
   exact ⟨i+1,cv,en',by simp only [Instr.findNow,g2 hne,g3];grind,g4,by simp_all,by simp_all,g7⟩
theorem pB {ks} {x} {m} {cx} {d} (vx:VR m x cx) (hd:Lt ks d):∀ {es} {ents} (j),(∀ p ∈ es,p.1≠x)->(∀ p ∈ es,Fe ks x p.1)->fL m es ents->Instr.findNow d cx ents j=some none
 | [],_,_,_,_,he=>by rw [he.nil];rfl
 | (a,u):: es,ents,j,h,hk,he=>by
  obtain ⟨en,r,rfl,e1,e2,e3⟩:=he.cons
  obtain ⟨_,g2⟩:=Dw (hk _ (YI ..)) vx e1 hd
  have hne:x≠a:=λe=>h _ (YI ..) e.symm
  simp only [Instr.findNow,g2 hne,pB vx hd (j+1) (λp hp=>h p (YH _ hp)) (λp hp=>hk p (YH _ hp)) e3]
theorem eT.tail {a:V} {l:List V} (h:eT (a :: l)):eT l:=⟨(WY.1 h.1).2,λx hx y hy=>h.2 x (YH _ hx) y (YH _ hy)⟩
theorem eT.perm {l m:List V} (h:eT l) (hp:l.Perm m):eT m:=⟨hp.nodup_iff.1 h.1,λx hx y hy=>h.2 x (hp.mem_iff.2 hx) y (hp.mem_iff.2 hy)⟩
theorem A8 {ks} {x} {es:List (V × V)} (h:es=[]\/∃ p ∈ es,Fe ks x p.1) (ho:eT (es.map (·.1))):∀ p ∈ es,Fe ks x p.1:=λp hp=>by
 rcases h with rfl|⟨q,hq,h⟩
 .cases hp
 .exact h.trans (ho.2 q.1 (Ye.2 ⟨q,hq,rfl⟩) p.1 (Ye.2 ⟨p,hp,rfl⟩))
theorem DD {ks} {x} {f} {z}:∀ {es},uj id ks es x f z=1->(es=[]\/∃ p ∈ es,Fe ks x p.1)/\((∃ v,f v=1/\(x,v) ∈ es)\/(z=1/\∀ p ∈ es,p.1≠x))
 | [],h=>⟨YG rfl,YE ⟨h,λp h=>by cases h⟩⟩
 | (a,v):: es,h=>by
  have h':=h
  obtain ⟨b,h1,h2,h3,h4⟩:=wP h'
  refine ⟨YE ⟨_,YI ..,h4⟩,?_⟩
  rcases bQ h1 with ⟨rfl,h5⟩|⟨rfl,h5⟩
  .grind
  .rcases (DD h5).2 with ⟨v',h6,h7⟩|⟨h6,h7⟩
   .grind
   grind
theorem run_checkKey {b} {t} {d} {ks} {c} {w} (hu:P.underlying t=some d) (hd:Lt ks d):(Instr.checkKey b 10000 t c).run P w = .ok () w:=by
 show (Instr.checkKey b (9999+1) t c).run P w=_
 generalize 9999=dd
 rcases hd with ⟨_,q,rfl⟩|⟨_,rfl⟩<;>simp only [Instr.checkKey,Sem.run_bind,run_underlying hu,Result.andThen_ok,Sem.run_pure]
theorem run_findKey {t} {d} {c} {ents} {r} {w} (hu:P.underlying t=some d) (h:Instr.findNow d c ents 0=some r):(Instr.findKey t c ents).run P w = .ok r w:=by
 simp [Instr.findKey,run_underlying hu,h]
theorem PR.wW {base:Nat} {w0 w:World} {rho:Nat->Option Nat} (hp:PR P base w0 rho H w) {b c:Nat} {es:List (V × V)} (hb:H.get b = .map es) (hm:(mu rho H w).b b c):rho b=some c/\∃ ents clock es',w.heap[c]? = some (.map ents clock)/\es'.Perm es/\eT (es.map (·.1))/\fL (mu rho H w) es' ents.toList/\lh ents clock:=by
 have hr:rho b=some c:=hm.2 (by rw [hb];trivial)
 obtain ⟨o,h1,h2⟩:=hp.cQ b c hr
 rw [hb]at h2
 obtain ⟨ents,clock,es',rfl,h5,h6,h7,h3,h4⟩:=h2
 exact ⟨hr,ents,clock,es',h1,h5,h6,⟨h3,h4⟩,h7⟩
theorem keys_perm {es es':List (V × V)} (h:es'.Perm es) (ho:eT (es.map (·.1))):eT (es'.map (·.1)):=ho.perm (h.symm.map _)
theorem fX {c} {ob} {w} (h:w.heap[c]? = some ob) (hn:∀ a b d,ob ≠ .cells a b d):(getObj c).run P w = .ok ob w:=by
 unfold getObj
 unfold Sem.run
 simp_all
theorem mP {c} {ob o'} {w} (h:w.heap[c]? = some ob) (hn:∀ a b d,ob ≠ .cells a b d):(setObj c o').run P w = .ok () {w with heap:=w.heap.setIfInBounds c o' }:=by
 unfold setObj
 unfold Sem.run
 simp_all
theorem Q6 {t} {z} (h:zeroV P t=some z):∃ i zv,P.info? t=some i/\i.zero=some zv/\∀ m,VR m z zv:=by
 unfold zeroV at h
 split at h
 .rename_i i hi
  split at h
  .rename_i zv hz
   exact ⟨i,zv,hi,hz,λm=>sU h⟩
  simp_all
 simp_all
theorem Pq {t:TypeId} {mm x:Operand} {ok:Bool} (hop:o.op = .lookup t mm x ok) (h:aN (af P nt o) id ph e H k=1):Good P nt o e H k:=by
 simp only [af,hop]at h
 have mem:mm ∈ o.op.operands/\x ∈ o.op.operands:=by simp [hop,Op.operands]
 have hnd:∀ c,o.op ≠ .defer c:=by simp [hop]
 split at h
 .rename_i m' x' kt el hm hx hu
  split at h
  .rename_i z ks hz hks
   obtain ⟨d,hd1,hd2⟩:=A9 hks
   obtain ⟨i,zv,hi,hzv,hzr⟩:=Q6 hz
   have h':NC ks z ok m' x' id ph e H k=1:=h
   unfold NC at h'
   rw [ai,ai]at h'
   have hzrun:∀ w:World,(zeroValue el).run P w = .ok zv w:=λw=>by simp [zeroValue,typeInfo,hi,hzv]
   have fin0:aE ok (k (.cE [z,.bool false]) H) (k z H)=1->(∀ (m:M) (w:World) (ac:Act),OR m nt e ac o->(execOp ac.eval o).run P w = .ok (.value (if ok then .tuple #[zv,.bool false] else zv)) w)->Good P nt o e H k:=by
    intro hk hrun
    rcases bQ hk with ⟨rfl,h1⟩|⟨rfl,h1⟩
    .exact ⟨_,_,eM.bG hnd λm w ac ho=>⟨_,hrun m w ac ho,by exact ⟨_,rfl,by exact ⟨_,_,rfl,hzr m,_,_,rfl,by simp only [VR],rfl⟩⟩⟩,h1⟩
    .exact ⟨_,_,eM.bG hnd λm w ac ho=>⟨_,hrun m w ac ho,by grind⟩,h1⟩
   rcases EM h' with ⟨b,hb,h1⟩|⟨hb,h1⟩
   .rw [aV]at h1
    obtain ⟨es,hes,h2⟩:=uW h1
    obtain ⟨hkd,h2⟩:=DD h2
    rcases h2 with ⟨v,h3,h4⟩|⟨h3,h4⟩
    .have hrun:∀ (base:Nat) (w0:World) (rho:Nat->Option Nat) (w:World) (a:Act),PR P base w0 rho H w->OR (mu rho H w) nt e a o->∃ cv,VR (mu rho H w) v cv/\(execOp a.eval o).run P w = .ok (.value (if ok then .tuple #[cv,.bool true] else cv)) w:=by
      intro base w0 rho w a hp ho
      have vm:=ho mm mem.1 m' hm
      rw [hb]at vm
      obtain ⟨c,hc,hmu⟩:=vm
      obtain ⟨_,ents,clock,es',g1,gp,go,g2,_⟩:=hp.wW hes hmu
      have hka:=A8 hkd go
      obtain ⟨i',cv,en,g3,g4,_⟩:=rG (ho x mem.2 x' hx) hd2 0 (gp.mem_iff.2 h4) (keys_perm gp go).1 (λp hp=>hka p (gp.mem_iff.1 hp)) g2
      refine ⟨cv,g4,?_⟩
      simp only [execOp,hop,hc,Instr.lookup,Sem.run_bind,run_underlying hu,Result.andThen_ok,fX g1 (by simp),Sem.run_pure,run_checkKey hd1 hd2,run_findKey hd1 g3]
     rcases bQ h3 with ⟨rfl,h5⟩|⟨rfl,h5⟩
     .refine ⟨_,_,eM.of_run hnd λbase w0 rho w a hp ho=>?_,h5⟩
      obtain ⟨cv,g1,g2⟩:=hrun base w0 rho w a hp ho
      exact ⟨_,w,g2,rho,by exact ⟨_,rfl,by exact ⟨_,_,rfl,g1,_,_,rfl,by simp only [VR],rfl⟩⟩,hp,Ext.refl hp.lt⟩
     .refine ⟨_,_,eM.of_run hnd λbase w0 rho w a hp ho=>?_,h5⟩
      obtain ⟨cv,g1,g2⟩:=hrun base w0 rho w a hp ho
      exact ⟨_,w,g2,rho,by grind,hp,Ext.refl hp.lt⟩
    .have hrun:∀ (base:Nat) (w0:World) (rho:Nat->Option Nat) (w:World) (a:Act),PR P base w0 rho H w->OR (mu rho H w) nt e a o->(execOp a.eval o).run P w = .ok (.value (if ok then .tuple #[zv,.bool false] else zv)) w:=by
      intro base w0 rho w a hp ho
      have vm:=ho mm mem.1 m' hm
      rw [hb]at vm
      obtain ⟨c,hc,hmu⟩:=vm
      obtain ⟨_,ents,clock,es',g1,gp,go,g2,_⟩:=hp.wW hes hmu
      have hka:=A8 hkd go
      have g3:=pB (ho x mem.2 x' hx) hd2 0 (λp hp=>h4 p (gp.mem_iff.1 hp)) (λp hp=>hka p (gp.mem_iff.1 hp)) g2
      simp only [execOp,hop,hc,Instr.lookup,Sem.run_bind,run_underlying hu,Result.andThen_ok,fX g1 (by simp),Sem.run_pure,run_checkKey hd1 hd2,run_findKey hd1 g3,hzrun]
     rcases bQ h3 with ⟨rfl,h5⟩|⟨rfl,h5⟩
     .exact ⟨_,_,eM.of_run hnd λbase w0 rho w a hp ho=>⟨_,w,hrun base w0 rho w a hp ho,rho,by exact ⟨_,rfl,by exact ⟨_,_,rfl,hzr _,_,_,rfl,by simp only [VR],rfl⟩⟩,hp,Ext.refl hp.lt⟩,h5⟩
     .exact ⟨_,_,eM.of_run hnd λbase w0 rho w a hp ho=>⟨_,w,hrun base w0 rho w a hp ho,rho,by grind,hp,Ext.refl hp.lt⟩,h5⟩
   .refine fin0 h1 λm w ac ho=>?_
    have vm:=ho mm mem.1 m' hm
    rw [hb]at vm
    simp only [VR]at vm
    simp only [execOp,hop,vm,Instr.lookup,Sem.run_bind,run_underlying hu,Result.andThen_ok,Sem.run_pure,run_checkKey hd1 hd2,run_findKey hd1 (show Instr.findNow d (ac.eval x) (#[]:Array MapEntry).toList 0=some none from rfl),hzrun]
  .exact (au h).elim
 .exact (au h).elim
theorem Jo {ks} {x y}:∀ {es} {f},Ex id ks es x y f=1->∃ es2,f es2=1/\(es=[]\/∃ p ∈ es,Fe ks x p.1)/\((∃ v rest,es.Perm ((x,v):: rest)/\es2.Perm ((x,y):: rest))\/((∀ p ∈ es,p.1≠x)/\es2.Perm ((x,y):: es)))
 | [],f,h=>⟨_,h,YG rfl,YE ⟨λp h=>(by cases h),List.Perm.refl _⟩⟩
 | (a,v):: es,f,h=>by
  have h':=h
  obtain ⟨b,h1,h2,h3,h4⟩:=wP h'
  rcases bQ h1 with ⟨rfl,h5⟩|⟨rfl,h5⟩
  .obtain rfl:=h2 rfl
   exact ⟨_,h5,YE ⟨_,YI ..,h4⟩,YG ⟨v,es,List.Perm.refl _,List.Perm.refl _⟩⟩
  .obtain ⟨es2,h6,_,h7⟩:=Jo h5
   refine ⟨_,h6,YE ⟨_,YI ..,h4⟩,?_⟩
   rcases h7 with ⟨u,rest,h8,h9⟩|⟨h8,h9⟩
   .exact YG ⟨u,(a,v):: rest,(h8.cons _).trans (List.Perm.swap ..),(h9.cons _).trans (List.Perm.swap ..)⟩
   .exact YE ⟨λp hp=>(YT.1 hp).elim (λe=>e ▸ (h3 rfl).symm) (h8 p),(h9.cons _).trans (List.Perm.swap ..)⟩
theorem IM {ks} {x}:∀ {es} {f},aaH id ks es x f=1->∃ es2,f es2=1/\(es=[]\/∃ p ∈ es,Fe ks x p.1)/\((∃ v,es.Perm ((x,v):: es2))\/((∀ p ∈ es,p.1≠x)/\es2=es))
 | [],f,h=>⟨_,h,YG rfl,YE ⟨λp h=>(by cases h),rfl⟩⟩
 | (a,v):: es,f,h=>by
  have h':=h
  obtain ⟨b,h1,h2,h3,h4⟩:=wP h'
  rcases bQ h1 with ⟨rfl,h5⟩|⟨rfl,h5⟩
  .obtain rfl:=h2 rfl
   exact ⟨_,h5,YE ⟨_,YI ..,h4⟩,YG ⟨v,List.Perm.refl _⟩⟩
  .obtain ⟨es2,h6,_,h7⟩:=IM h5
   refine ⟨_,h6,YE ⟨_,YI ..,h4⟩,?_⟩
   rcases h7 with ⟨u,h8⟩|⟨h8,rfl⟩
   .exact YG ⟨u,(h8.cons _).trans (List.Perm.swap ..)⟩
   grind
theorem mH {α:Type}:∀ {l:List α} {i} {a},l[i]? = some a->l.Perm (a :: l.eraseIdx i)
 | [],i,a,h=>by simp_all
 | x :: l,0,a,h=>by
  simp_all
 | x :: l,i+1,a,h=>((mH (by simp_all)).cons x).trans (List.Perm.swap ..)
theorem OZ {α:Type} {l:List α} {i} {a b} (h:l[i]? = some a):(l.set i b).Perm (b :: l.eraseIdx i):=by
 obtain ⟨hlt,_⟩:=Ya.1 h
 have h1:(l.set i b)[i]? = some b:=by simp_all
 have:=mH h1
 grind
theorem Ka {x v y} {es es2 rest:List (V × V)} (h1:es.Perm ((x,v):: rest)) (h2:es2.Perm ((x,y):: rest)) (ho:eT (es.map (·.1))):eT (es2.map (·.1)):=by
 have h3:(es.map (·.1)).Perm (x :: rest.map (·.1)):=h1.map _
 have h4:(es2.map (·.1)).Perm (x :: rest.map (·.1)):=h2.map _
 exact ho.perm (h3.trans h4.symm)
theorem Oi {ks} {x y} {es es2:List (V × V)} (h1:∀ p ∈ es,p.1≠x) (h2:es2.Perm ((x,y):: es)) (hx:Kd x x) (hk:∀ p ∈ es,Fe ks x p.1) (ho:eT (es.map (·.1))):eT (es2.map (·.1)):=by
 have h4:(es2.map (·.1)).Perm (x :: es.map (·.1)):=h2.map _
 refine eT.perm ⟨WY.2 ⟨λh=>?_,ho.1⟩,λa ha b hb=>?_⟩ h4.symm
 .grind
 .have hxb:∀ c,c ∈ es.map (·.1)->Kd x c:=λc hc=>by
   obtain ⟨p,hp,rfl⟩:=Ye.1 hc
   exact (hk p hp).kd
  rcases YT.1 ha with ea|ha<;>rcases YT.1 hb with eb|hb
  .simp_all
  .grind
  .rw [eb];exact (hxb _ ha).symm
  .exact ho.2 a ha b hb
theorem HI {ents ents2} {clock i} {en} {k v} (hen:ents[i]? = some en) (h:lh ents clock) (h2:ents2.toList=ents.toList.set i {en with key:=k,val:=v }):lh ents2 clock:=by
 have hm:(ents.toList.set i {en with key:=k,val:=v }).map (·.born)=ents.toList.map (·.born):=by
  refine Ql λj=>?_
  grind
 refine ⟨by rw [h2,hm];exact h.1,λq hq=>?_⟩
 have:q.born ∈ ents.toList.map (·.born):=by grind
 obtain ⟨q',hq',e⟩:=Ye.1 this
 rw [<- e]
 exact h.2 q' hq'
theorem EC {ents} {clock} {k v} (h:lh ents clock):lh (ents.push {key:=k,val:=v,born:=clock }) (clock+1):=by
 unfold lh
 rw [YM3]
 refine ⟨?_,λq hq=>?_⟩
 .rw [WB,List.nodup_append]
  refine ⟨h.1,by simp,λa ha b hb e=>?_⟩
  obtain ⟨q,hq,rfl⟩:=Ye.1 ha
  have:=h.2 q hq
  simp_all
 .rcases Yt.1 hq with hq|hq
  .have:=h.2 q hq;omega
  simp_all
theorem BI {ents ents2} {clock i} (h:lh ents clock) (h2:ents2.toList=ents.toList.eraseIdx i):lh ents2 clock:=by
 have hs:(ents.toList.eraseIdx i).Sublist ents.toList:=List.eraseIdx_sublist ..
 exact ⟨by rw [h2];exact (hs.map _).nodup h.1,λq hq=>h.2 q (hs.subset (by simp_all))⟩
theorem PR.pG {base:Nat} {w0 w:World} {rho:Nat->Option Nat} {H':Heap} (hp:PR P base w0 rho H w) {b c:Nat} {es es2 es':List (V × V)} {ents0 ents:Array MapEntry} {clock0 clock:Nat} (hb:H.get b = .map es) (hr:rho b=some c) (hw:w.heap[c]? = some (.map ents0 clock0)) (hS:Lw H b (.map es2) H') (hperm:es'.Perm es2) (hok:eT (es2.map (·.1))) (hst:lh ents clock) (he:fL (mu rho H w) es' ents.toList):
 PR P base w0 rho H' {w with heap:=w.heap.setIfInBounds c (.map ents clock)}/\Ext rho H w rho H' {w with heap:=w.heap.setIfInBounds c (.map ents clock)}:=by
 have hlt:c<w.heap.size:=(hp.jl b c hr).2.2.1
 exact hp.write (o:=.map ents clock) hr (by rw [hb];intro e;cases e) hS.n hS.bC hS.wb hS.get hS.tC trivial ⟨rfl,rfl,rfl⟩ (by simp) (by simp [hlt]) (λj hj=>by simp [Array.getElem?_setIfInBounds_ne (Ne.symm hj)]) ⟨ents,clock,es',rfl,hperm,hok,hst,he.1,he.2⟩ (λcs e fr h=>by rw [hw]at h;cases h) (λr h=>by rw [hw]at h;cases h)
theorem Dp {x} {k} (h:isKey id x k=1):Kd x x/\k=1:=by
 cases x<;>first|exact (au h).elim|exact ⟨YG ⟨_,_,_,rfl,rfl⟩,h⟩|exact ⟨YE ⟨_,_,_,_,rfl,rfl⟩,h⟩
theorem uy {t} {mm x y} (hop:o.op = .mapUpdate t mm x y\/o.op = .insert t mm x y) (h:aN (af P nt o) id ph e H k=1):Good P nt o e H k:=by
 have hc:af P nt o=match aK nt mm,aK nt x,aK nt y,P.underlying t with
  | some m,some x,some y,some (.map kt _)=>(match J9 P kt with | some ks=>.XF ks m x y | none=>.bad)
  | _,_,_,_=>.bad:=by rcases hop with h | h<;>simp only [af,h]<;>rfl
 rw [hc]at h
 have mem:mm ∈ o.op.operands/\x ∈ o.op.operands/\y ∈ o.op.operands:=by rcases hop with h|h<;>simp [h,Op.operands]
 have hnd:∀ c,o.op ≠ .defer c:=by grind
 split at h
 .rename_i m' x' y' kt el hm hx hy hu
  split at h
  .rename_i ks hks
   obtain ⟨d,hd1,hd2⟩:=A9 hks
   have h':NG ks m' x' y' id ph e H k=1:=h
   unfold NG at h'
   rw [ai,ai,ai]at h'
   obtain ⟨b,hb,h1⟩:=Js h'
   rw [aV]at h1
   obtain ⟨es,hes,h2⟩:=uW h1
   obtain ⟨hxs,h2⟩:=Dp h2
   obtain ⟨es2,h3,hkd,h4⟩:=Jo h2
   obtain ⟨H',h5,h6⟩:=fS h3
   refine ⟨_,_,eM.Bh hnd λbase w0 rho w a hp ho=>?_,h5⟩
   have vm:=ho mm mem.1 m' hm
   rw [hb]at vm
   obtain ⟨c,hcm,hmu⟩:=vm
   obtain ⟨hr,ents,clock,es',g1,gp,go,g2,gs⟩:=hp.wW hes hmu
   have hka:=A8 hkd go
   have hka':=λp hp=>hka p (gp.mem_iff.1 hp)
   have vx:=ho x mem.2.1 x' hx
   have vy:=ho y mem.2.2 y' hy
   have hex:(execOp a.eval o).run P w=((Instr.mapUpdate t (a.eval mm) (a.eval x) (a.eval y)).run P w).andThen λ_ w'=>.ok .skip w':=by
    rcases hop with h|h<;>simp only [execOp,h,Sem.run_bind,Sem.run_pure]
   rcases h4 with ⟨v,rest,h7,h8⟩|⟨h7,h8⟩
   .obtain ⟨i,cv,en,f1,f2,f3,f4,f5⟩:=rG vx hd2 0 ((gp.trans h7).mem_iff.2 (YI ..)) (keys_perm gp go).1 hka' g2
    have hen:ents[i]? = some en:=by simp_all
    have hmod:(ents.modify i λe=>{e with key:=a.eval x,val:=a.eval y }).toList=ents.toList.set i {en with key:=a.eval x,val:=a.eval y }:=by
     refine Ql λk=>?_
     grind
    obtain ⟨p1,p2⟩:=hp.pG hes hr g1 h6
     ((OZ f3).trans ((((mH f3).symm.trans (gp.trans h7)).cons_inv.cons _).trans h8.symm)) (Ka h7 h8 go) (HI hen gs hmod) (by rw [hmod];exact fL.set vx vy g2)
    refine ⟨_,?_,rho,p1,p2⟩
    rw [hex]
    simp only [hcm,Instr.mapUpdate,Sem.run_bind,run_underlying hu,Result.andThen_ok,fX g1 (by simp),run_checkKey hd1 hd2,run_findKey hd1 f1,WG,hen,Option.map_some,Option.getD_some,Instr.keyThatStays,f5,if_true,Sem.run_pure,mP g1 (by simp)]
   .have f1:=pB vx hd2 0 (λp hp=>h7 p (gp.mem_iff.1 hp)) hka' g2
    obtain ⟨p1,p2⟩:=hp.pG (ents:=ents.push {key:=a.eval x,val:=a.eval y,born:=clock }) hes hr g1 h6
     (List.perm_append_singleton _ _ |>.trans ((gp.cons _).trans h8.symm)) (Oi h7 h8 hxs hka go) (EC gs) (by rw [YM3];exact fL.snoc vx vy g2)
    refine ⟨_,?_,rho,p1,p2⟩
    rw [hex]
    simp only [hcm,Instr.mapUpdate,Sem.run_bind,run_underlying hu,Result.andThen_ok,fX g1 (by simp),run_checkKey hd1 hd2,run_findKey hd1 f1,mP g1 (by simp)]
  .exact (au h).elim
 .exact (au h).elim
end
end Go.Ev
end
section
namespace Go.Ev
open Go.RowKit
section
variable {P:Program} {nt:Nat} {o:Oper} {id:Nat} {ph:dg} {e:Env} {H:Heap} {k:K}
theorem FSp.op {x:V} {args:List V} {v:V} {H':Heap} {f:Operand} {asL:Array Operand} {ts:Array TypeId} (h:FSp P x args H v H') (hop:o.op = .call {callee:=.value f,args:=asL,argTypes:=ts })
 (hx:∀ (m:M) (ac:Act),OR m nt e ac o->VR m x (ac.eval f)) (ha:∀ (m:M) (ac:Act),OR m nt e ac o->cj m args (asL.map ac.eval).toList):eM P nt o e H v H':=by
 intro rd base w0 rho w a hp ho
 refine ⟨ig P o a w rd,?_⟩
 rw [semAt_eq (by simp [hop])]
 have hex:execOp a.eval o=(do let d <- Deferred.ofValue (a.eval f) (asL.map a.eval);invoke d.target d.args):=by
  simp only [execOp,hop]
  rfl
 rw [hex]
 exact h rd base w0 rho w (a.eval f) (asL.map a.eval) hp (hx _ _ ho) (ha _ _ ho) o a
theorem Hv (hph:iM P ph) {f} {asL} {ts} (hop:o.op = .call {callee:=.value (.func f),args:=asL,argTypes:=ts }) (h:aN (af P nt o) id ph e H k=1):Good P nt o e H k:=by
 simp only [af,hop]at h
 split at h
 .rename_i l _ hl hf
  have h':Ns (2*f) l id ph e H k=1:=h
  unfold Ns at h'
  rw [gH]at h'
  obtain ⟨v,H',h1,h2⟩:=hph _ _ _ _ h'
  refine ⟨v,H',h1.1.op hop (λm ac ho=>by simp only [Act.eval,VR];exact ⟨#[],by simp,by rfl⟩) (λm ac ho=>?_),h2⟩
  have:=iO hl λx hx=>ho x (by simp [hop,Op.operands,Call.operands];simp_all)
  simp_all
 .exact (au h).elim
theorem KR (hph:iM P ph) {t} {asL} {ts} (hop:o.op = .call {callee:=.value (.tmp t),args:=asL,argTypes:=ts }) (h:aN (af P nt o) id ph e H k=1):Good P nt o e H k:=by
 simp only [af,hop]at h
 split at h
 .rename_i x l hx hl
  have h':FP x l id ph e H k=1:=h
  unfold FP at h'
  rw [ai,gH]at h'
  obtain ⟨v,H',h1,h2⟩:=hph _ _ _ _ h'
  refine ⟨v,H',h1.1.op hop (λm ac ho=>ho _ (by simp [hop,Op.operands,Call.operands]) x hx) (λm ac ho=>?_),h2⟩
  have:=iO hl λx hx=>ho x (by simp [hop,Op.operands,Call.operands];simp_all)
  simp_all
 .exact (au h).elim
theorem eU {b} {asL} {ts} (hop:o.op = .call {callee:=.builtin b,args:=asL,argTypes:=ts }) (r):
 execOp r o=builtin b ts o.type (asL.map λ| .const _=>true|_=>false) (asL.map r):=by
 simp only [execOp,hop]
 rfl
theorem L2 {asL} {x} (h:bT nt asL.toList=some [x]):∃ y,asL = #[y]/\aK nt y=some x:=by
 obtain ⟨l⟩:=asL
 cases l with
 | nil=>simp [bT]at h
 | cons y l=>
  cases l with
  | nil=>
   simp only [bT]at h
   grind
  | cons z l=>
   simp only [bT]at h
   grind
theorem B8 {asL} {x y} (h:bT nt asL.toList=some [x,y]):∃ p q,asL = #[p,q]/\aK nt p=some x/\aK nt q=some y:=by
 obtain ⟨l⟩:=asL
 cases l with
 | nil=>simp [bT]at h
 | cons p l=>
  simp only [bT]at h
  split at h
  .rename_i a r h1 h2
   obtain ⟨rfl,rfl⟩:=h
   obtain ⟨q,hq,h3⟩:=L2 h2
   grind
  simp_all
theorem ZY {asL} {x y z} (h:bT nt asL.toList=some [x,y,z]):∃ p q r,asL = #[p,q,r]/\aK nt p=some x/\aK nt q=some y/\aK nt r=some z:=by
 obtain ⟨l⟩:=asL
 cases l with
 | nil=>simp [bT]at h
 | cons p l=>
  simp only [bT]at h
  split at h
  .rename_i a r h1 h2
   obtain ⟨rfl,rfl⟩:=h
   obtain ⟨q,r,hq,h3,h4⟩:=B8 h2
   grind
  simp_all
theorem toI_64' {n} (h:n<9223372036854775808):toI .i64 n=n:=toI_small _ _ (by simp [half,IntKind.signed,IntKind.bits];omega)
theorem oU {m} {n} (h:n<9223372036854775808):VR m (.int 3 n) (goInt n):=by
 exact ⟨by show Value.int .i64 (n:Int)=Value.int .i64 (toI .i64 n);rw [toI_64' h],by show n<2 ^ 64;omega,by omega⟩
theorem Ba:∀ es:List (V × V),Ke es=es.length
 | []=>rfl
 | _ :: es=>congrArg WH (Ba es)
theorem Om {x} {f} (h:Ol id x f=1):∃ n,f n=1/\∀ (m) (c),VR m x c->∀ w:World,(Builtin.lenOf c).run P w = .ok n w:=by
 cases x<;>first|exact (au h).elim|skip
 .exact ⟨_,h,λm c v w=>by rw [v.1];simp [Builtin.lenOf,ByteArray.size,aM]⟩
 .exact ⟨_,h,λm c v w=>by obtain ⟨c1,cap,o',sp,rfl,_⟩:=v;rfl⟩
 .exact ⟨_,h,λm c v w=>by rw [v];rfl⟩
theorem pF {n} (h:kH id n H k=1):n<9223372036854775808/\k (.int 3 n) H=1:=by
 obtain ⟨h1,h2⟩:=aL h
 simp_all
theorem abL {asL:Array Operand} {ts:Array TypeId} (hop:o.op = .call {callee:=.builtin .len,args:=asL,argTypes:=ts }) (h:aN (af P nt o) id ph e H k=1):Good P nt o e H k:=by
 simp only [af,hop,dh]at h
 have hnd:∀ c,o.op ≠ .defer c:=by simp [hop]
 split at h
 .rename_i x t tr hx hts
  obtain ⟨y,rfl,hy⟩:=L2 hx
  have hts':ts[0]? = some t:=by rw [<- Yo,hts];rfl
  have fin:∀ n:Nat,n<9223372036854775808->k (.int 3 n) H=1->(∀ (base:Nat) (w0:World) (rho:Nat->Option Nat) (w:World) (a:Act),PR P base w0 rho H w->VR (mu rho H w) (aA x e) (a.eval y)->(Builtin.len_ ts o.type #[a.eval y]).run P w = .ok (goInt n) w)->Good P nt o e H k:=by
   intro n hn hk hr
   refine ⟨_,_,eM.of_run hnd λbase w0 rho w a hp ho=>?_,hk⟩
   have v:=ho y (by simp [hop,Op.operands,Call.operands]) x hy
   refine ⟨goInt n,w,?_,rho,oU hn,hp,Ext.refl hp.lt⟩
   rw [eU hop a.eval]
   simp [builtin,hr base w0 rho w a hp v]
  split at h
  .rename_i hu
   have h':NA x id ph e H k=1:=h
   unfold NA at h'
   rw [ai]at h'
   obtain ⟨l,q,hq,h1⟩:=ek h'
   obtain ⟨h2,h3⟩:=pF h1
   refine fin l h2 h3 λbase w0 rho w a hp v=>?_
   rw [hq]at v
   simp only [VR]at v
   have hs:(⟨(aC l q).toArray⟩:ByteArray).size=l:=by simp [ByteArray.size,aM]
   simp [Builtin.len_,hts',run_underlying hu,v.1,hs]
  .rename_i el hu
   have h':Ny x id ph e H k=1:=h
   unfold Ny at h'
   rw [ai]at h'
   rcases eA h' with ⟨b,off,l,cp,sz,hq,h1⟩|⟨hq,h1⟩
   .obtain ⟨h2,h3⟩:=pF h1
    refine fin l h2 h3 λbase w0 rho w a hp v=>?_
    rw [hq]at v
    obtain ⟨c1,cap,o',sp,hc,_⟩:=v
    simp [Builtin.len_,hts',run_underlying hu,hc]
   .obtain ⟨h2,h3⟩:=pF h1
    refine fin 0 h2 h3 λbase w0 rho w a hp v=>?_
    rw [hq]at v
    simp only [VR]at v
    simp [Builtin.len_,hts',run_underlying hu,v]
  .rename_i kt el hu
   have h':Nz x id ph e H k=1:=h
   unfold Nz at h'
   rw [ai]at h'
   rcases EM h' with ⟨b,hq,h1⟩|⟨hq,h1⟩
   .rw [aV]at h1
    obtain ⟨es,hes,h2⟩:=uW h1
    rw [ay,Ba]at h2
    obtain ⟨h3,h4⟩:=pF h2
    refine fin _ h3 h4 λbase w0 rho w a hp v=>?_
    rw [hq]at v
    obtain ⟨c,hc,hmu⟩:=v
    obtain ⟨hr,ents,clock,es',g1,gp,go,g2,_⟩:=hp.wW hes hmu
    have hl:ents.size=es.length:=by have:=g2.1.length;rw [<- gp.length_eq];grind
    simp [Builtin.len_,hts',run_underlying hu,hc,fX g1,hl]
   .obtain ⟨h2,h3⟩:=pF h1
    refine fin 0 h2 h3 λbase w0 rho w a hp v=>?_
    rw [hq]at v
    simp only [VR]at v
    simp [Builtin.len_,hts',run_underlying hu,v]
  .exact (au h).elim
 .exact (au h).elim
theorem pL {t el} (h:tJ P t=some el):P.underlying t=some (.slice el):=by
 unfold tJ at h
 grind
theorem abK {asL} {ts} (hop:o.op = .call {callee:=.builtin .cap,args:=asL,argTypes:=ts }) (h:aN (af P nt o) id ph e H k=1):Good P nt o e H k:=by
 simp only [af,hop,dh]at h
 have hnd:∀ c,o.op ≠ .defer c:=by simp_all
 split at h
 .rename_i x t tr hx hts
  obtain ⟨y,rfl,hy⟩:=L2 hx
  have hts':ts[0]? = some t:=by rw [<- Yo,hts];rfl
  split at h
  .rename_i el hel
   have hu:=pL hel
   have h':V7 x id ph e H k=1:=h
   unfold V7 at h'
   rw [ai]at h'
   have fin:∀ n,n<9223372036854775808->k (.int 3 n) H=1->(∀ (m) (w) (a:Act),VR m (aA x e) (a.eval y)->(Builtin.cap_ ts o.type #[a.eval y]).run P w = .ok (goInt n) w)->Good P nt o e H k:=by
    intro n hn hk hr
    refine ⟨_,_,eM.bG hnd λm w a ho=>?_,hk⟩
    have v:=ho y (by simp [hop,Op.operands,Call.operands]) x hy
    refine ⟨goInt n,?_,oU hn⟩
    rw [eU hop a.eval]
    simp [builtin,hr m w a v]
   rcases eA h' with ⟨b,off,l,cp,sz,hq,h1⟩|⟨hq,h1⟩
   .cases cp with
    | zero=>exact (au h1).elim
    | succ q=>
     obtain ⟨h2,h3⟩:=aL (show aE (Yv q 9223372036854775808) (k (.int 3 q) H) (no _)=1 from h1)
     refine fin q (er h2) h3 λm w a v=>?_
     rw [hq]at v
     obtain ⟨c1,cap,o',sp,hc,_,_,hcp,_⟩:=v
     have:=hcp.1 q rfl
     subst this
     simp [Builtin.cap_,hts',run_underlying hu,hc]
   .refine fin 0 (by omega) h1 λm w a v=>?_
    rw [hq]at v
    simp only [VR]at v
    simp [Builtin.cap_,hts',run_underlying hu,v]
  .exact (au h).elim
 .exact (au h).elim
theorem Xb {kd oo mo} {mx} {x y} (h:eMm kd oo mo mx x y id ph e H k=1):∃ a b,aA x e = .int kd a/\aA y e = .int kd b/\k (.int kd (if mx then (if (a+oo)%mo<=(b+oo)%mo then b else a) else (if (a+oo)%mo<=(b+oo)%mo then a else b))) H=1:=by
 unfold eMm at h
 rw [ai]at h
 obtain ⟨k1,a,ha,h1⟩:=dE h
 rw [ai]at h1
 obtain ⟨k2,b,hb,h2⟩:=dE h1
 obtain ⟨h3,h4⟩:=aL h2
 obtain ⟨h5,h6⟩:=aL h4
 have e1:=cm h3
 have e2:=cm h5
 subst e1 e2
 refine ⟨a,b,ha,hb,?_⟩
 rcases bQ h6 with ⟨h7,h8⟩|⟨h7,h8⟩
 .have hle:(a+oo)%mo<=(b+oo)%mo:=cq h7
  rcases bQ h8 with ⟨h9,h10⟩|⟨h9,h10⟩<;>subst h9<;>simpa [hle] using h10
 .have hle:¬ (a+oo)%mo<=(b+oo)%mo:=λhle=>by
   have:YS ((a.add oo).mod mo) ((b.add oo).mod mo)=true:=WQ hle
   simp_all
  rcases bQ h8 with ⟨h9,h10⟩|⟨h9,h10⟩<;>subst h9<;>simpa [hle] using h10
def sm (mx:Bool) (oo mo a b:Nat):Nat:=if mx then (if (a+oo)%mo<=(b+oo)%mo then b else a) else (if (a+oo)%mo<=(b+oo)%mo then a else b)
theorem GC (mx) (oo mo a b):sm mx oo mo a b=a\/sm mx oo mo a b=b:=by
 unfold sm
 grind
theorem xh {oo mo} {mx} {a b} {f}:DV oo mo mx a b f=f (sm mx oo mo a b):=by
 unfold DV sm
 have hb:(YS ((a.add oo).mod mo) ((b.add oo).mod mo)=true)↔(a+oo)%mo<=(b+oo)%mo:=⟨λh=>Nat.le_of_ble_eq_true h,λh=>WQ h⟩
 by_cases hle:(a+oo)%mo<=(b+oo)%mo
 .rw [hb.2 hle]
  cases mx
  .simp only [YU,if_false,if_pos hle];rfl
  .simp only [if_true,if_pos hle];rfl
 .have:YS ((a.add oo).mod mo) ((b.add oo).mod mo)=false:=by
   grind
  rw [this]
  cases mx
  .simp only [YU,if_false,if_neg hle];rfl
  .simp only [if_true,if_neg hle];rfl
theorem Jm {kx} {a b} (mx:Bool) (ha:a<eQ kx) (hb:b<eQ kx):(if mx then Builtin.max2 else Builtin.min2) (.int kx (toI kx a)) (.int kx (toI kx b))=pure (.int kx (toI kx (sm mx (fk kx) (2 ^ kx.bits) a b))):=by
 have oa:=toI_off kx a ha
 have ob:=toI_off kx b hb
 cases mx
 .simp only [YU,if_false,Builtin.min2,sm]
  grind
 .simp only [if_true,Builtin.max2,sm]
  grind
theorem Ss {kd oo mo} {mx} {x y z} (h:Sr kd oo mo mx x y z id ph e H k=1):∃ a b c,aA x e = .int kd a/\aA y e = .int kd b/\aA z e = .int kd c/\k (.int kd (sm mx oo mo (sm mx oo mo a b) c)) H=1:=by
 unfold Sr at h
 rw [ai]at h
 obtain ⟨k1,a,ha,h1⟩:=dE h
 rw [ai]at h1
 obtain ⟨k2,b,hb,h2⟩:=dE h1
 rw [ai]at h2
 obtain ⟨k3,c,hc,h3⟩:=dE h2
 obtain ⟨g1,g2⟩:=aL h3
 obtain ⟨g3,g4⟩:=aL g2
 obtain ⟨g5,g6⟩:=aL g4
 rw [xh,xh]at g6
 simp_all
theorem abM {mx:Bool} {asL:Array Operand} {ts:Array TypeId} (hop:o.op = .call {callee:=.builtin (if mx then .max else .min),args:=asL,argTypes:=ts }) (h:aN (af P nt o) id ph e H k=1):Good P nt o e H k:=by
 have hnd:∀ c,o.op ≠ .defer c:=by simp [hop]
 have hc:af P nt o=match bT nt asL.toList,ts.toList with
  | some [x,y],t :: _=>(match kindOf P t with | some k=>.mm (lB k) (fk k) (2 ^ k.bits) mx x y | none=>.bad)
  | some [x,y,z],t :: _=>(match kindOf P t with | some k=>.mm3 (lB k) (fk k) (2 ^ k.bits) mx x y z | none=>.bad)
  | _,_=>.bad:=by cases mx<;>simp only [af,hop,dh,if_true,YU,if_false]<;>rfl
 have r2:∀ {kx:IntKind} {a b:Nat},mx=false->a<eQ kx->b<eQ kx->Builtin.min2 (.int kx (toI kx a)) (.int kx (toI kx b))=pure (.int kx (toI kx (sm false (fk kx) (2 ^ kx.bits) a b))):=λ_ ha hb=>Jm false ha hb
 have r1:∀ {kx:IntKind} {a b:Nat},mx=true->a<eQ kx->b<eQ kx->Builtin.max2 (.int kx (toI kx a)) (.int kx (toI kx b))=pure (.int kx (toI kx (sm true (fk kx) (2 ^ kx.bits) a b))):=λ_ ha hb=>Jm true ha hb
 rw [hc]at h
 split at h
 .rename_i x y t tr hx hts
  obtain ⟨p,q,rfl,hp',hq'⟩:=B8 hx
  split at h
  .rename_i kx hkx
   have h':eMm (lB kx) (fk kx) (2 ^ kx.bits) mx x y id ph e H k=1:=h
   obtain ⟨a,b,ha,hb,h1⟩:=Xb h'
   refine ⟨_,_,eM.bG hnd λm w ac ho=>?_,h1⟩
   have vx:=ho p (by simp [hop,Op.operands,Call.operands]) x hp'
   have vy:=ho q (by simp [hop,Op.operands,Call.operands]) y hq'
   rw [ha]at vx
   rw [hb]at vy
   simp only [VR,dJ]at vx vy
   refine ⟨.int kx (toI kx (sm mx (fk kx) (2 ^ kx.bits) a b)),?_,?_⟩
   .rw [eU hop ac.eval]
    cases mx
    .simp only [YU,if_false,builtin,Builtin.min_,vx.1,vy.1,YB4,Yd,WA,YC0,YD3,r2 rfl vx.2.1 vy.2.1,Sem.run_bind,Sem.run_pure,Result.andThen_ok]
    .simp only [if_true,builtin,Builtin.max_,vx.1,vy.1,YB4,Yd,WA,YC0,YD3,r1 rfl vx.2.1 vy.2.1,Sem.run_bind,Sem.run_pure,Result.andThen_ok]
   .show VR m (.int (lB kx) (sm mx (fk kx) (2 ^ kx.bits) a b)) _
    simp only [VR,dJ]
    refine ⟨trivial,?_,wO kx⟩
    rcases GC mx (fk kx) (2 ^ kx.bits) a b with h|h<;>rw [h]
    .exact vx.2.1
    grind
  .exact (au h).elim
 .rename_i x y z t tr hx hts
  obtain ⟨p,q,r,rfl,hp',hq',hr'⟩:=ZY hx
  split at h
  .rename_i kx hkx
   have h':Sr (lB kx) (fk kx) (2 ^ kx.bits) mx x y z id ph e H k=1:=h
   obtain ⟨a,b,c,ha,hb,hc,h1⟩:=Ss h'
   refine ⟨_,_,eM.bG hnd λm w ac ho=>?_,h1⟩
   have vx:=ho p (by simp [hop,Op.operands,Call.operands]) x hp'
   have vy:=ho q (by simp [hop,Op.operands,Call.operands]) y hq'
   have vz:=ho r (by simp [hop,Op.operands,Call.operands]) z hr'
   rw [ha]at vx
   rw [hb]at vy
   rw [hc]at vz
   simp only [VR,dJ]at vx vy vz
   have hm1:sm mx (fk kx) (2 ^ kx.bits) a b<eQ kx:=by
    rcases GC mx (fk kx) (2 ^ kx.bits) a b with h|h<;>rw [h]
    .exact vx.2.1
    grind
   refine ⟨.int kx (toI kx (sm mx (fk kx) (2 ^ kx.bits) (sm mx (fk kx) (2 ^ kx.bits) a b) c)),?_,?_⟩
   .rw [eU hop ac.eval]
    cases mx
    .simp only [YU,if_false,builtin,Builtin.min_,vx.1,vy.1,vz.1,YB4,Yd,WA,YC0,YD3,r2 rfl vx.2.1 vy.2.1,r2 rfl hm1 vz.2.1,Sem.run_bind,Sem.run_pure,Result.andThen_ok]
    .simp only [if_true,builtin,Builtin.max_,vx.1,vy.1,vz.1,YB4,Yd,WA,YC0,YD3,r1 rfl vx.2.1 vy.2.1,r1 rfl hm1 vz.2.1,Sem.run_bind,Sem.run_pure,Result.andThen_ok]
   .simp only [VR,dJ]
    refine ⟨trivial,?_,wO kx⟩
    rcases GC mx (fk kx) (2 ^ kx.bits) (sm mx (fk kx) (2 ^ kx.bits) a b) c with h|h<;>rw [h]
    .exact hm1
    grind
  .exact (au h).elim
 .exact (au h).elim
end
end Go.Ev
end
section
namespace Go.Ev
open Go.RowKit
section
variable {P:Program} {nt:Nat} {o:Oper} {id:Nat} {ph:dg} {e:Env} {H:Heap} {k:K}
theorem Jt {m}:VR m (.cE []) (.tuple #[]):=by
 exact ⟨#[],rfl,by rfl⟩
theorem Pp {asL} {ts} (hop:o.op = .call {callee:=.builtin .delete,args:=asL,argTypes:=ts }) (h:aN (af P nt o) id ph e H k=1):Good P nt o e H k:=by
 simp only [af,hop,dh]at h
 have hnd:∀ c,o.op ≠ .defer c:=by simp_all
 split at h
 .rename_i m' x' t tr hx hts
  obtain ⟨mm,x,rfl,hm,hx⟩:=B8 hx
  have hts':ts[0]? = some t:=by rw [<- Yo,hts];rfl
  split at h
  .rename_i kt el hu
   split at h
   .rename_i ks hks
    obtain ⟨d,hd1,hd2⟩:=A9 hks
    have h':ND ks m' x' id ph e H k=1:=h
    unfold ND at h'
    rw [ai,ai]at h'
    obtain ⟨b,hb,h1⟩:=Js h'
    rw [aV]at h1
    obtain ⟨es,hes,h2⟩:=uW h1
    obtain ⟨es2,h3,hkd,h4⟩:=IM h2
    obtain ⟨H',h5,h6⟩:=fS h3
    refine ⟨_,_,eM.of_run hnd λbase w0 rho w a hp ho=>?_,h5⟩
    have vm:=ho mm (by simp [hop,Op.operands,Call.operands]) m' hm
    rw [hb]at vm
    obtain ⟨c,hcm,hmu⟩:=vm
    obtain ⟨hr,ents,clock,es',g1,gp,go,g2,gs⟩:=hp.wW hes hmu
    have hka:=A8 hkd go
    have hka':=λp hp=>hka p (gp.mem_iff.1 hp)
    have vx:=ho x (by simp [hop,Op.operands,Call.operands]) x' hx
    rcases h4 with ⟨v,h7⟩|⟨h7,rfl⟩
    .obtain ⟨i,cv,en,f1,f2,f3,f4,f5⟩:=rG vx hd2 0 ((gp.trans h7).mem_iff.2 (YI ..)) (keys_perm gp go).1 hka' g2
     obtain ⟨p1,p2⟩:=hp.pG (ents:=ents.eraseIdxIfInBounds i) hes hr g1 h6 ((mH f3).symm.trans (gp.trans h7)).cons_inv (keys_perm h7.symm go).tail (BI (i:=i) gs (by
      simp)) (by
      have hlt:=by simpa using (Ya.1 f4).1
      rw [Array.eraseIdxIfInBounds,dif_pos hlt,Array.toList_eraseIdx];exact fL.erase g2)
     refine ⟨.tuple #[],_,?_,rho,Jt,p1,p2⟩
     rw [eU hop a.eval]
     simp [builtin,Builtin.delete_,hts',run_underlying hu,hcm,fX g1,run_checkKey hd1 hd2,run_findKey hd1 f1,mP g1]
    .have f1:=pB vx hd2 0 (λp hp=>h7 p (gp.mem_iff.1 hp)) hka' g2
     obtain ⟨p1,p2⟩:=hp.pG hes hr g1 h6 gp go gs g2
     refine ⟨.tuple #[],_,?_,rho,Jt,p1,p2⟩
     rw [eU hop a.eval]
     simp [builtin,Builtin.delete_,hts',run_underlying hu,hcm,fX g1,run_checkKey hd1 hd2,run_findKey hd1 f1,mP g1]
   .exact (au h).elim
  .exact (au h).elim
 .exact (au h).elim
def lf (P:Program) (H:Heap) (size:Nat) (x:V) (n:Nat) (l:List V):Prop:=
 (∀ (m:M) (c:Value),VR m x c->∀ w:World,(Builtin.lenOf c).run P w = .ok n w)/\
 ∀ {base:Nat} {w0 w:World} {rho:Nat->Option Nat} {c:Value},PR P base w0 rho H w->VR (mu rho H w) x c->l.length=n*size/\∀ n',n'<=n->∃ cs:List Value,(Builtin.firstCells size n' c).run P w = .ok cs.toArray w/\cj (mu rho H w) (l.take (n'*size)) cs
theorem rM {m} {c} {w}:
 (∀ b o l cp sz,VR m (.slice b o l cp sz) c->(Builtin.lenOf c).run P w = .ok l w)/\(VR m .aw c->(Builtin.lenOf c).run P w = .ok 0 w)/\(∀ l n,VR m (.str l n) c->(Builtin.lenOf c).run P w = .ok l w):=by
 refine ⟨λb o l cp sz v=>?_,λv=>?_,λl n v=>?_⟩
 .obtain ⟨c1,cap,o',sp,rfl,_⟩:=v;rfl
 .rw [v];rfl
 .rw [v.1];simp [Builtin.lenOf,ByteArray.size,aM]
theorem Eg {bl} {row} (h:rowOf bl=some row):nj bl=some row:=by
 cases bl<;>first|exact h|(simp [rowOf]at h)
theorem PR.rZ {base:Nat} {w0 w:World} {rho:Nat->Option Nat} (hp:PR P base w0 rho H w) {b o' off c n:Nat} {row:List V} (hm:(mu rho H w).b b c) (bM:nj (H.get b)=some row) (hn:off+n<=row.length) (hv:(∀ v ∈ (row.drop off).take n,v.one=true)\/rowOf (H.get b)=some row) {sp:Option _} (ho:o'=off/\sp=none\/n=0):
 ∃ cs:List Value,(loadCells ⟨c,o',sp⟩ n).run P w = .ok cs.toArray w/\cj (mu rho H w) ((row.drop off).take n) cs:=by
 rcases ho with ⟨rfl,rfl⟩|rfl
 .obtain ⟨cs,h1,h2,_⟩:=hp.Hm (hp.xu hm bM) bM hn hv
  exact ⟨cs,h1,h2⟩
 .exact ⟨[],rfl,by simp only [Wy,cj]⟩
theorem PR.oS {base:Nat} {w0 w:World} {rho:Nat->Option Nat} (hp:PR P base w0 rho H w) {b o' off c n:Nat} {row:List V} (hm:(mu rho H w).b b c) (bM:rowOf (H.get b)=some row) (hn:off+n<=row.length) {sp:Option _} (ho:o'=off/\sp=none\/n=0):
 ∃ cs:List Value,(loadCells ⟨c,o',sp⟩ n).run P w = .ok cs.toArray w/\cj (mu rho H w) ((row.drop off).take n) cs:=hp.rZ hm (Eg bM) hn (YE bM) ho
theorem DL {len n}:lf P H 1 (.str len n) len ((aC len n).map eB):=by
 refine ⟨λm c v w=>rM.2.2 _ _ v,λ{base w0 w rho c} hp v=>⟨by simp [aM],λn' hn=>?_⟩⟩
 refine ⟨((aC len n).take n').map λy=>Value.int .u8 y.toNat,?_,?_⟩
 .rw [v.1]
  simp only [Builtin.firstCells,Sem.run_pure]
  simp
 .rw [WN,<- Qv]
  exact cj.oI (by simp) λi v' c' g1 g2=>by
   rw [Yh,YY]at g1 g2
   obtain ⟨y,hy,rfl⟩:=g1
   obtain ⟨y',hy',rfl⟩:=g2
   rw [hy]at hy'
   cases hy'
   exact uV _ y
theorem xb {b off len cp sz size} {row} (h1:nj (H.get b)=some row) (h2:off+len*size<=row.length) (hv:(∀ v ∈ (row.drop off).take (len*size),v.one=true)\/rowOf (H.get b)=some row):lf P H size (.slice b off len cp sz) len ((row.drop off).take (len*size)):=by
 refine ⟨λm c v w=>rM.1 _ _ _ _ _ v,λ{base w0 w rho c} hp v=>⟨by grind,λn' hn=>?_⟩⟩
 obtain ⟨c1,cap,o',sp,rfl,hm,hle,hcp,ho'⟩:=v
 have hns:n'*size<=len*size:=QG _ hn
 obtain ⟨cs,g1,g2⟩:=hp.rZ (o':=o') (sp:=sp) (off:=off) (n:=n'*size) hm h1 (by omega) (hv.imp (λh v hm=>h v (by
  rw [show (row.drop off).take (n'*size)=((row.drop off).take (len*size)).take (n'*size) by grind]at hm
  grind)) id) (by
  grind)
 refine ⟨cs,by simpa [Builtin.firstCells] using g1,?_⟩
 grind
theorem y9 {size}:lf P H size .aw 0 []:=by
 refine ⟨λm c v w=>rM.2.1 v,λ{base w0 w rho c} hp v=>⟨by simp,λn' hn=>?_⟩⟩
 have:n'=0:=by omega
 subst this
 exact ⟨[],by rw [v];rfl,by simp only [Wm,Wy,cj]⟩
theorem GI {size b off cp sz}:lf P H size (.slice b off 0 cp sz) 0 []:=by
 refine ⟨λm c v w=>rM.1 _ _ _ _ _ v,λ{base w0 w rho c} hp v=>⟨by simp,λn' hn=>?_⟩⟩
 obtain ⟨c1,cap,o',sp,rfl,hm,hle,hcp,ho'⟩:=v
 have:n'=0:=by omega
 subst this
 refine ⟨[],?_,by simp only [Wm,Wy,cj]⟩
 simp only [Builtin.firstCells,Wm]
 rfl
theorem oG {size} {x} {f} (h:de id size H x f=1):∃ n l,f n l=1/\lf P H size x n l:=by
 cases x<;>first|exact (au h).elim|skip
 .have h':=h
  obtain ⟨h1,h2⟩:=aL h'
  have:=cm h1
  subst this
  rw [iG]at h2
  exact ⟨_,_,h2,DL⟩
 .rename_i b off len cp sz
  cases len with
  | zero=>exact ⟨0,[],h,GI⟩
  | succ len=>
   have h':=h
   obtain ⟨row,h1,h2,hv,h3⟩:=Ho h'
   exact ⟨_,_,h3,xb h1 h2 hv⟩
 .exact ⟨0,[],h,y9⟩
theorem DK {x} {f} (h:xa id H x f=1):∃ n y l,f n y=1/\lf P H 1 x n l/\(∀ v ∈ l,v.one=true)/\∀ (m) (c),VR m x c->zX l->zW l y:=by
 cases x<;>first|exact (au h).elim|skip
 .rename_i len n
  refine ⟨len,n,_,h,DL,λv hv=>by obtain ⟨y,_,rfl⟩:=Ye.1 hv;rfl,λm c v _=>?_⟩
  exact ⟨by simp [aM],by simpa [aM] using v.2⟩
 .rename_i b off len cp sz
  have h':=h
  obtain ⟨row,y,h1,h2,h3,h4,h5⟩:=wU h'
  have hN:=xb (P:=P) (cp:=cp) (sz:=sz) (Eg h1) (show off+len*1<=row.length by omega) (YE h1)
  rw [WN]at hN
  exact ⟨len,y,_,h3,hN,λv hv=>by obtain ⟨x,rfl⟩:=h4 v hv;rfl,λ_ _ _ hs=>h5 hs⟩
 .exact ⟨0,0,[],h,y9,λv hv=>absurd hv (by simp),λ_ _ _ _=>⟨rfl,by simp⟩⟩
theorem yL {n} (hn:n<=1073741824):∀ (r c),c<=2147483648->Builtin.growBy n r c<=2147483648
 | 0,c,h=>h
 | r+1,c,h=>by
  simp only [Builtin.growBy]
  split
  .omega
  .exact yL hn r _ (by omega)
theorem SS {need cap} (hn:need<=1073741824) (hc:cap<need):Builtin.nextslicecap need cap<=2147483648:=by
 unfold Builtin.nextslicecap
 split
 .omega
 .split
  .omega
  .exact yL hn 4 cap (by omega)
theorem OJ {d:TypeDesc} (h:∀ k,d ≠ .int k):(match d with | .int _=>true|_=>false)=false:=by simp
structure Fb (P:Program) (ts:Array TypeId) (el:TypeId) (size:Nat) (i:TypeInfo) (zv:Value):Prop where
 t0:∃ st,ts[0]? = some st/\P.underlying st=some (.slice el)
 t1:∃ xt d,ts[1]? = some xt/\P.underlying xt=some d/\∀ k,d ≠ .int k
 info:P.info? el=some i
 isz:i.size=size
 bytes:i.bytes<=65536
 zero:i.zero=some zv
 abY:zv.cells.size=size
theorem iJ {ts} {el} {size} {i} {zv} (hT:Fb P ts el size i zv) {ot} {base} {sLen sCap n} {x} {new:List Value} {w w'}
 (hn:(Builtin.lenOf x).run P w = .ok n w) (hf:(Builtin.firstCells size n x).run P w = .ok new.toArray w) (hle:sLen+n<=sCap)
 (hst:match base with|some a=>(storeCells (a.add (sLen*size)) new).run P w = .ok () w'|none=>w'=w):
 (Builtin.append_ ts ot #[.slice base sLen sCap,x]).run P w = .ok (.slice base (sLen+n) sCap) w':=by
 obtain ⟨st,h1,h2⟩:=hT.t0
 obtain ⟨xt,d,h3,h4,h5⟩:=hT.t1
 have hz:=OJ h5
 have hsz:(sizeOf el).run P w = .ok size w:=by simp [sizeOf,typeInfo,hT.info,hT.isz]
 cases base with
 | none=>
  subst hst
  simp only [Builtin.append_,h1,h3]
  simp [run_underlying h2,run_underlying h4,hsz,hn,hle,hf]
 | some a=>
  simp [Builtin.append_,h1,h3,run_underlying h2,run_underlying h4,hsz,hn,hle,hf,hst]
theorem run_append_grow {ts:Array TypeId} {el:TypeId} {size:Nat} {i:TypeInfo} {zv:Value} (hT:Fb P ts el size i zv) {ot:TypeId} {base:Option Addr} {sLen sCap n:Nat} {x:Value} {old new:List Value} {w:World}
 (hn:(Builtin.lenOf x).run P w = .ok n w) (hlt:sCap<sLen+n) (hb:sLen+n<=1073741824)
 (ho:(Builtin.firstCells size sLen (.slice base sLen sCap)).run P {w with drawn:=w.drawn+1 } = .ok old.toArray {w with drawn:=w.drawn+1 })
 (hf:(Builtin.firstCells size n x).run P {w with drawn:=w.drawn+1 } = .ok new.toArray {w with drawn:=w.drawn+1 }):
 ∃ cap w' rest,(sLen+n<=cap/\cap<9223372036854775808)/\rest.size=(cap-(sLen+n))*size/\(Builtin.append_ ts ot #[.slice base sLen sCap,x]).run P w = .ok (.slice (some ⟨w.heap.size,0,none⟩) (sLen+n) cap) w'/\vJ w w'/\w'.heap=w.heap.push (.cells (old.toArray ++ new.toArray ++ rest) el):=by
 obtain ⟨st,h1,h2⟩:=hT.t0
 obtain ⟨xt,d,h3,h4,h5⟩:=hT.t1
 have hz:=OJ h5
 have hsz:(sizeOf el).run P w = .ok size w:=by simp [sizeOf,typeInfo,hT.info,hT.isz]
 have hti:∀ w:World,(typeInfo el).run P w = .ok i w:=λw=>by simp [typeInfo,hT.info]
 have hzr:∀ w:World,(zeroValue el).run P w = .ok zv w:=λw=>by simp [zeroValue,typeInfo,hT.info,hT.zero]
 have hnle:¬ sLen+n<=sCap:=by omega
 have hbig:¬ (((sLen+n:Nat):Int)>IntKind.i64.max/\((false=true)\/i.bytes=0)):=by
  rintro ⟨h6,_⟩
  simp [IntKind.max,IntKind.signed,IntKind.bits]at h6
  omega
 have hcap:¬ (Builtin.nextslicecap (sLen+n) sCap*i.bytes>2 ^ 48):=by
  have:=SS hb hlt
  have h7:Builtin.nextslicecap (sLen+n) sCap*i.bytes<=2147483648*65536:=YO2 this hT.bytes
  omega
 have hq:(choose (.appendCap (sLen+n) sCap el)).run P w = .ok ((Question.appendCap (sLen+n) sCap el).cut (w.tape w.drawn (.appendCap (sLen+n) sCap el))) {w with drawn:=w.drawn+1 }:=by
  rw [run_choose];rfl
 have hle:sLen+n<=(Question.appendCap (sLen+n) sCap el).cut (w.tape w.drawn (.appendCap (sLen+n) sCap el))/\(Question.appendCap (sLen+n) sCap el).cut (w.tape w.drawn (.appendCap (sLen+n) sCap el))<9223372036854775808:=by
  have hmod:=QZ (w.tape w.drawn (.appendCap (sLen+n) sCap el)) (show 0<2 ^ 63-(sLen+n) by omega)
  simp only [Question.cut]
  omega
 generalize (Question.appendCap (sLen+n) sCap el).cut (w.tape w.drawn (.appendCap (sLen+n) sCap el))=cap at hq hle
 refine ⟨cap,{w with drawn:=w.drawn+1,heap:=w.heap.push (.cells (old.toArray ++ new.toArray ++ Builtin.zeroCells zv.cells (cap-(sLen+n))) el)},Builtin.zeroCells zv.cells (cap-(sLen+n)),hle,by simp [Builtin.zeroCells,hT.abY],?_,⟨rfl,rfl,rfl⟩,rfl⟩
 have hbig':¬ (IntKind.i64.max<(((sLen+n:Nat)):Int)/\i.bytes=0):=λh=>hbig ⟨h.1,YE h.2⟩
 have hcap':¬ (2 ^ 48<Builtin.nextslicecap (sLen+n) sCap*i.bytes):=hcap
 unfold Builtin.append_
 simp only [h1,List.getElem?_toArray,List.getElem?_cons_zero,List.getElem?_cons_succ]
 simp only [h3,Sem.run_bind,run_underlying h2,run_underlying h4,hsz,Result.andThen_ok,Sem.run_pure,YU,if_false,hn,hnle,hti,hcap,hq,run_askRoom,Sem.run_ite,Bool.not_false,if_true,ho,hf,hzr,newRow,run_newObj]
 simp_all
theorem RA {st xt el} {s'} {i} {asL} (hts:asL.toList=[st,xt]) (hel:tJ P st=some el) (hs:pV P el=some s') (hi:P.info? el=some i) (hb:i.bytes<=65536) (hz:Zm P el s'=true) (hl:XD P xt=true):
 ∃ zv,Fb P asL el s' i zv:=by
 obtain ⟨zv,hzv,hzs⟩:∃ zv,i.zero=some zv/\zv.cells.size=s':=by
  unfold Zm at hz
  split at hz
  .rename_i z hzt
   obtain ⟨i',zv,h1,h2,h3,_⟩:=me hzt
   have:=(h3 ⟨λ_ _=>True,λ_ _=>True⟩).length
   simp_all
  simp_all
 have h0:asL[0]? = some st:=by rw [<- Yo,hts];rfl
 have h1:asL[1]? = some xt:=by rw [<- Yo,hts];rfl
 refine ⟨zv,⟨st,h0,pL hel⟩,?_,hi,by simpa [pV,hi] using hs,hb,hzv,hzs⟩
 unfold XD at hl
 grind
section app
variable {p q:Operand} {ts:Array TypeId} {s x:Arg} {el:TypeId} {size:Nat} {i:TypeInfo} {zv:Value}
theorem gv (hop:o.op = .call {callee:=.builtin .append,args:=#[p,q],argTypes:=ts }) (hp':aK nt p=some s) (hq':aK nt q=some x) {v} {H'}
 (h:∀ (base) (w0) (rho) (w) (cs cx),PR P base w0 rho H w->VR (mu rho H w) (aA s e) cs->VR (mu rho H w) (aA x e) cx->∃ cv w',(Builtin.append_ ts o.type #[cs,cx]).run P w = .ok cv w'/\Left P base w0 rho H w v H' cv w'):eM P nt o e H v H':=
 eM.of_run (by simp_all) λbase w0 rho w a hp ho=>by
  obtain ⟨cv,w',h1,h2⟩:=h base w0 rho w _ _ hp (ho p (by simp [hop,Op.operands,Call.operands]) s hp') (ho q (by simp [hop,Op.operands,Call.operands]) x hq')
  refine ⟨cv,w',?_,h2⟩
  rw [eU hop a.eval]
  simp [builtin,h1]
theorem rf (hT:Fb P ts el size i zv) {l} (hN:lf P H size (aA x e) 0 l) (hsl:(∃ b o len cp sz,aA s e = .slice b o len cp sz)\/aA s e = .aw) {base} {w0} {rho} {w} {cs cx} (hp:PR P base w0 rho H w) (vs:VR (mu rho H w) (aA s e) cs) (vx:VR (mu rho H w) (aA x e) cx) {ot}:
 ∃ cv w',(Builtin.append_ ts ot #[cs,cx]).run P w = .ok cv w'/\Left P base w0 rho H w (aA s e) H cv w':=by
 have hlen:=hN.1 _ _ vx w
 obtain ⟨_,h2⟩:=hN.2 hp vx
 obtain ⟨cl,h3,h4⟩:=h2 0 (YA _)
 have hcl:=by simp only [Wm,Wy,cj]at h4;omega
 subst hcl
 refine ⟨cs,w,?_,rho,vs,hp,Ext.refl hp.lt⟩
 rcases hsl with ⟨b,oo,len,cp,sz,hs⟩|hs<;>rw [hs]at vs<;>simp only [VR]at vs
 .obtain ⟨c,cap,o',sp,rfl,hm,hle,_⟩:=vs
  exact iJ hT hlen h3 hle rfl
 .rw [vs]
  exact iJ hT hlen h3 (YA _) rfl
theorem rb (hT:Fb P ts el size i zv) {n} {l old} (hN:lf P H size (aA x e) n l) {H'} {bl} (cA:nI H bl H') {base} {w0} {rho} {w} {cx} (hp:PR P base w0 rho H w) (vx:VR (mu rho H w) (aA x e) cx)
 {ba} {sLen sCap} (hold:∀ w1:World,w1.heap=w.heap->PR P base w0 rho H w1->∃ oc:List Value,(Builtin.firstCells size sLen (.slice ba sLen sCap)).run P w1 = .ok oc.toArray w1/\cj (mu rho H w) old oc) (hol:old.length=sLen*size) (hlt:sCap<sLen+n) (hb:sLen+n<=1073741824)
 (bM:∀ oc nc,cj (mu rho H w) old oc->cj (mu rho H w) l nc->rowOf bl=some (old ++ l)/\(∀ len m,bl = .bytes len m->m<256 ^ len)/\(∀ v ∈ old ++ l,v.one=true)) {ot}:
 ∃ cv w',(Builtin.append_ ts ot #[.slice ba sLen sCap,cx]).run P w = .ok cv w'/\Left P base w0 rho H w (.slice H.n 0 (sLen+n) 0 size) H' cv w':=by
 have hlen:=hN.1 _ _ vx w
 have hpd:=hp.drawn (w.drawn+1)
 obtain ⟨oc,h1,h2⟩:=hold {w with drawn:=w.drawn+1 } rfl hpd
 obtain ⟨hll,h3⟩:=hN.2 hpd vx
 obtain ⟨nc,h4,h5⟩:=h3 n (YA _)
 rw [Yc (by omega)]at h5
 obtain ⟨cap,w',rest,g1,g10,g2,g3,g4⟩:=run_append_grow hT hlen hlt hb h1 h4
 obtain ⟨r1,r2,r3⟩:=bM oc nc h2 h5
 have hR:ie (mu rho H w) (old ++ l) (oc.toArray ++ nc.toArray ++ rest) (0,0):=by
  refine ⟨λj v hj=>⟨r3 v (Yi hj),?_⟩,λj _=>by simp⟩
  obtain ⟨c,h6,h7⟩:=(h2.append h5).get hj
  grind
 obtain ⟨rho',p1,p2,p3⟩:=hp.fresh cA r1 r2 hR g3 g4
 exact ⟨_,w',g2,rho',by exact ⟨_,_,_,_,rfl,p3,g1.1,⟨λq hq=>absurd hq (by omega),λ_=>YE ⟨⟨_,_,_,by rw [g4,Qa],by
  have e1:=h2.length
  have e2:=h5.length
  simp only [YG0,YB3,e1,e2,hol,hll,g10,WG]
  rw [<- Wp,<- Wp]
  simp_all⟩,g1.2⟩⟩,YG ⟨rfl,rfl⟩⟩,p1,p2⟩
theorem Vz (hT:Fb P ts el size i zv) {n} {l} (hN:lf P H size (aA x e) n l) (hn0:0<n) {b off len q sz} (hle:len+n<=q) {base} {w0} {rho} {w} {cs cx} (hp:PR P base w0 rho H w) (vs:VR (mu rho H w) (.slice b off len (q+1) sz) cs) (vx:VR (mu rho H w) (aA x e) cx)
 {H'} (hone:∀ v ∈ l,v.one=true)
 (hst:∀ {base} {w0 w} {rho} {c} {ms},PR P base w0 rho H w->(mu rho H w).b b c->(∀ v ∈ l,v.one=true)->cj (mu rho H w) l ms->∃ w',(storeCells ⟨c,off+len*size,none⟩ ms 0).run P w = .ok () w'/\PR P base w0 rho H' w'/\Ext rho H w rho H' w') {ot}:
 ∃ cv w',(Builtin.append_ ts ot #[cs,cx]).run P w = .ok cv w'/\Left P base w0 rho H w (.slice b off (len+n) (q+1) sz) H' cv w':=by
 have hlen:=hN.1 _ _ vx w
 obtain ⟨hll,h3⟩:=hN.2 hp vx
 obtain ⟨nc,h4,h5⟩:=h3 n (YA _)
 rw [Yc (by omega)]at h5
 obtain ⟨c,cap,o',sp,rfl,hm,hlc,hcp,ho'⟩:=vs
 have:=hcp.1 q rfl
 subst this
 obtain ⟨rfl,rfl⟩:o'=off/\sp=none:=by
  grind
 obtain ⟨w',g1,g2,g3⟩:=hst hp hm hone h5
 refine ⟨_,w',iJ hT hlen h4 hle (by show (storeCells (Addr.add ⟨c,o',none⟩ (len*size)) nc).run P w=_;rw [Addr.add_lit];omega),rho,?_,g2,g3⟩
 exact ⟨c,cap,o',none,rfl,g3.mu.1 _ _ hm,hle,⟨hcp.1,λh=>absurd h (by omega)⟩,YG ⟨rfl,rfl⟩⟩
theorem B7 (hT:Fb P ts el size i zv) (hs0:0<size) {n:Nat} {l row:List V} (hN:lf P H size (aA x e) n l) (hn0:0<n) {b len:Nat} (bM:rowOf (H.get b)=some row) (hrl:row.length=len*size) (hb:len+n<=1073741824)
 {H':Heap} {bl:ee} (h1:H'.n=H.n+1) (h2:H'.bC<=H.bC) (h3:H'.bC<=b) (h4:H'.get b = .dead) (h5:H'.get H.n=bl) (h6:∀ j,j≠b->j≠H.n->H'.get j=H.get j)
 {base:Nat} {w0:World} {rho:Nat->Option Nat} {w:World} {cs cx:Value} (hp:PR P base w0 rho H w) (vs:VR (mu rho H w) (.slice b 0 len 0 size) cs) (vx:VR (mu rho H w) (aA x e) cx)
 (hbl:∀ oc nc,cj (mu rho H w) row oc->cj (mu rho H w) l nc->rowOf bl=some (row ++ l)/\(∀ len m,bl = .bytes len m->m<256 ^ len)/\(∀ v ∈ row ++ l,v.one=true)) (hkd:∀ q,bl = .cells q->∃ q',H.get b = .cells q') {ot:TypeId}:
 ∃ cv w',(Builtin.append_ ts ot #[cs,cx]).run P w = .ok cv w'/\Left P base w0 rho H w (.slice H.n 0 (len+n) 0 size) H' cv w':=by
 have hlen:=hN.1 _ _ vx w
 simp only [VR]at vs
 obtain ⟨c,cap,o',sp,rfl,hm,hlc,hcp,ho'⟩:=vs
 have hr:=hp.ji hm bM
 obtain ⟨cur,elc,fr,k1,k2⟩:=hp.row hr bM
 have hnm:=(gi bM).2
 by_cases hle:len+n<=cap
 .obtain ⟨rfl,rfl⟩:o'=0/\sp=none:=by
   grind
  obtain ⟨hll,h8⟩:=hN.2 hp vx
  obtain ⟨nc,g4,g5⟩:=h8 n (YA _)
  rw [Yc (by omega)]at g5
  have hrv:=k2.vrs (o:=0) (n:=row.length) (by omega)
  rw [WZ,List.take_length]at hrv
  obtain ⟨r1,r2,r3⟩:=hbl _ nc hrv g5
  have hcapb:cap<9223372036854775808:=by
   grind
  have hz:cur.size=cap*size:=by
   rcases hcp.2 trivial with h|⟨⟨cs2,e2,fr2,h,h'⟩,_⟩
   .omega
   .rw [k1]at h;cases h;omega
  have hncl:=g5.length
  have hsum:len*size+n*size<=cap*size:=by rw [<- Wp];exact QG _ hle
  obtain ⟨w',cur',q1,q2,q3,q4,q5,q6,q7⟩:=gS (P:=P) (o:=len*size) nc 0 cur w k1 (by omega) (sf g5 λv hv=>r3 v (List.mem_append_right _ hv)) k2.2
  have hR:ie (mu rho H w) (row ++ l) cur' fr:=by
   refine ⟨λj v hj=>⟨r3 v (Yi hj),?_⟩,by rw [q3];exact k2.2⟩
   rw [q4]
   by_cases hj1:j<row.length
   .rw [Yq hj1]at hj
    rw [if_neg (by omega)]
    exact (k2.1 j v hj).2
   .rw [Ys (by omega)]at hj
    obtain ⟨cv,t1,t2⟩:=g5.get hj
    grind
  obtain ⟨p1,p2⟩:=hp.move (w':=w') (c':=c) (o:=.cells cur' elc fr) hr hnm h1 h2 h3 h4 h5 h6 (gi r1).1 q7 (by omega) (YG rfl) (by grind) q2 (λj _ hj=>q5 j hj) (lH r1 r2 hR λq hq=>by obtain ⟨q',hq'⟩:=hkd q hq;rw [q3];exact hp.SU hr hq' k1) (λcs2 e2 fr2 h=>by grind) (λr h=>by rw [k1]at h;cases h)
  refine ⟨_,w',iJ hT (base:=some ⟨c,0,none⟩) hlen g4 hle (by show (storeCells (Addr.add ⟨c,0,none⟩ (len*size)) nc).run P w=_;rw [Addr.add_lit,WG];exact q1),_,?_,p1,p2⟩
  simp only [VR]
  refine ⟨c,cap,0,none,rfl,⟨by rw [h1];omega,λ_=>by simp⟩,hle,⟨λq hq=>absurd hq (by omega),λ_=>YE ⟨⟨cur',elc,fr,q2,by omega⟩,hcapb⟩⟩,YG ⟨rfl,rfl⟩⟩
 .have hpd:=hp.drawn (w.drawn+1)
  obtain ⟨hll,h8⟩:=hN.2 hpd vx
  obtain ⟨nc,g4,g5⟩:=h8 n (YA _)
  rw [Yc (by omega)]at g5
  obtain ⟨oc,j1,j2⟩:=hpd.oS (o':=o') (sp:=sp) (off:=0) (n:=len*size) hm bM (by omega) (by
   grind)
  rw [WZ,Yc (by omega)]at j2
  obtain ⟨cap',w',rest,q1,q10,q2,q3,q4⟩:=run_append_grow hT (base:=some ⟨c,o',sp⟩) (sLen:=len) (sCap:=cap) hlen (by omega) hb (by simpa [Builtin.firstCells] using j1) g4 (ot:=ot)
  obtain ⟨r1,r2,r3⟩:=hbl oc nc j2 g5
  have hR:ie (mu rho H w) (row ++ l) (oc.toArray ++ nc.toArray ++ rest) (0,0):=by
   refine ⟨λj v hj=>⟨r3 v (Yi hj),?_⟩,λj _=>by simp⟩
   obtain ⟨cv,t1,t2⟩:=(j2.append g5).get hj
   have hjl:j<(oc ++ nc).length:=by
    grind
   refine ⟨cv,?_,t2⟩
   grind
  have hcw:c<w.heap.size:=(hp.jl b c hr).2.2.1
  have hold:∀ j,j<w.heap.size->w'.heap[j]? = w.heap[j]?:=λj hj=>by grind
  obtain ⟨p1,p2⟩:=hp.move (w':=w') (c':=w.heap.size) (o:=.cells (oc.toArray ++ nc.toArray ++ rest) el) hr hnm h1 h2 h3 h4 h5 h6 (gi r1).1 q3 (by rw [q4];simp) (YE (YA _)) (by rw [q4];simp) (by grind) (λj hj _=>hold j hj) (lH r1 r2 hR) (λcs2 e2 fr2 h=>⟨cs2,e2,fr2,(hold c hcw).trans h,rfl⟩) (λr h=>by grind)
  refine ⟨_,w',q2,_,?_,p1,p2⟩
  simp only [VR]
  refine ⟨w.heap.size,cap',0,none,rfl,⟨by rw [h1];omega,λ_=>by simp⟩,q1.1,⟨λq hq=>absurd hq (by omega),λ_=>YE ⟨⟨_,_,_,by rw [q4,Qa],by
   have e1:=j2.length
   have e2:=g5.length
   simp only [YG0,YB3,e1,e2,hrl,hll,q10,WG]
   rw [<- Wp,<- Wp]
   congr 1
   omega⟩,q1.2⟩⟩,YG ⟨rfl,rfl⟩⟩
end app
theorem Po {asL:Array Operand} {ts:Array TypeId} (hop:o.op = .call {callee:=.builtin .append,args:=asL,argTypes:=ts }) (h:aN (af P nt o) id ph e H k=1):Good P nt o e H k:=by
 simp only [af,hop,dh]at h
 split at h
 .rename_i s x st xt hx hts
  obtain ⟨p,q,rfl,hp',hq'⟩:=B8 hx
  split at h
  .rename_i el hel
   split at h
   .rename_i s' i hs hi
    split at h
    .rename_i hc
     simp only [Yu,decide_eq_true_eq]at hc
     obtain ⟨⟨⟨hs0,hby⟩,hzl⟩,hlt⟩:=hc
     obtain ⟨zv,hT⟩:=RA hts hel hs hi hby hzl hlt
     have h':aE (Ds P el && s' == 1) (IP s x id e H k) (IQ s' s x id e H k)=1:=h
     rcases bQ h' with ⟨hu8,h1⟩|⟨_,h1⟩
     .simp only [Yu,beq_iff_eq]at hu8
      obtain ⟨_,rfl⟩:=hu8
      unfold IP at h1
      rw [ai,ai]at h1
      obtain ⟨n,y,l,h2,hN,hone,hby2⟩:=DK (P:=P) h1
      have e8:∀ (a k:Nat),Yp a (Yg 8 k)=256 ^ k*a:=λa k=>by
       show a <<< (8*k)=_
       rw [Nat.shiftLeft_eq,QE,Nat.mul_comm]
      have hjoin:∀ (m:M) (row:List V) (rx:Nat) (oc nc:List Value) (cxv:Value),VR m (aA x e) cxv->(zX row->zW row rx)->cj m row oc->cj m l nc->(row ++ l)=(aC (row.length+l.length) (rx+256 ^ row.length*y)).map eB/\rx+256 ^ row.length*y<256 ^ (row.length+l.length):=by
       intro m row rx oc nc cxv vx hrx hoc hnc
       obtain ⟨g1,g2⟩:=hrx hoc.small
       obtain ⟨g3,g4⟩:=hby2 m cxv vx hnc.small
       rw [eP _ _ _ _ g2,WB,<- g1,<- g3]
       refine ⟨rfl,?_⟩
       rw [Nat.pow_add]
       calc rx+256 ^ row.length*y<256 ^ row.length+256 ^ row.length*y:=by omega
        _=256 ^ row.length*(y+1):=by grind
        _<=256 ^ row.length*256 ^ l.length:=Nat.mul_le_mul_left _ g4
      rcases eA h2 with ⟨b,off,len,cp,sz,hsv,h3⟩|⟨hsv,h3⟩
      .cases n with
       | zero=>exact ⟨_,_,gv hop hp' hq' λbase w0 rho w cs cx hp vs vx=>rf hT hN (YG ⟨b,off,len,cp,sz,hsv⟩) hp vs vx,h3⟩
       | succ n=>
        have h4:Jy id (n+1) y b off len cp sz H k=1:=h3
        unfold Jy at h4
        rw [ay]at h4
        obtain ⟨h5,h6⟩:=aL h4
        have hneed:=cq h5
        cases cp with
        | zero=>
         obtain ⟨h7,h8⟩:=aL h6
         obtain ⟨h9,h10⟩:=aL h8
         have e1:=cm h7
         have e2:=cm h9
         subst e1 e2
         rw [aV]at h10
         rcases jN h10 with ⟨l0,_,h11⟩|⟨ln,mx,hbb,h11⟩
         .exact (au h11).elim
         obtain ⟨h12,h13⟩:=aL h11
         have e3:=cm h12
         subst e3
         rw [ay]at h13
         obtain ⟨H1,h14,h15⟩:=fS h13
         obtain ⟨H2,h16,h17⟩:=dr h14
         rw [h15.n]at h16
         have hbn:=h15.lt
         refine ⟨_,_,gv hop hp' hq' λbase w0 rho w cs cx hp vs vx=>?_,h16⟩
         rw [hsv]at vs
         have bM:rowOf (H.get b)=some ((aC ln mx).map eB):=by rw [hbb];rfl
         refine B7 (bl:=.bytes (YX ln (n+1)) (YX mx (Yp y (Yg 8 ln)))) hT (by omega) hN (by omega) bM (by simp [aM]) hneed (by rw [h17.n,h15.n]) (by rw [h17.bC];exact h15.bC) (by rw [h17.bC];exact h15.wb) (by rw [h17.tC b (by rw [h15.n];omega)];exact h15.get) (by rw [<- h15.n];exact h17.get) (λj hj1 hj2=>by rw [h17.tC j (by rw [h15.n];exact hj2)];exact h15.tC j hj1) hp vs vx (hkd:=λ_ e=>nomatch e) λoc nc hoc hnc=>?_
         have hcan:mx<256 ^ ln:=by
          have hmu:∃ c,(mu rho H w).b b c:=by simp only [VR]at vs;grind
          obtain ⟨c,hm⟩:=hmu
          obtain ⟨ob,_,q2⟩:=hp.cQ b c (hp.ji hm bM)
          rw [hbb]at q2
          obtain ⟨_,_,_,_,⟨hx,_⟩,_⟩:=q2
          exact hx
         obtain ⟨g1,g2⟩:=hjoin _ ((aC ln mx).map eB) mx oc nc cx vx (λ_=>⟨by simp [aM],by simpa [aM] using hcan⟩) hoc hnc
         have hll:=(hN.2 hp vx).1
         simp only [Yl,aM]at g1 g2
         rw [hll,WN]at g1 g2
         have e9:YX mx (Yp y (Yg 8 ln))=mx+256 ^ ln*y:=by rw [e8];rfl
         refine ⟨by rw [e9];simp only [rowOf];rw [g1];rfl,λln' m' e=>by grind,λv hv=>?_⟩
         rcases Yt.1 hv with hv|hv
         .obtain ⟨yy,_,rfl⟩:=Ye.1 hv;rfl
         grind
        | succ qq=>
         have h7:aE (YS (YX len (n+1)) qq) (no _) (lX id H b off len λm=>av (YX m (Yp y (Yg 8 len))) λm'=>cA H (.bytes (YX len (n+1)) m') λb' H=>k (.slice b' 0 (YX len (n+1)) 0 1) H)=1:=h6
         rcases bQ h7 with ⟨_,h8⟩|⟨h8,h9⟩
         .exact (au h8).elim
         have hq:qq<len+(n+1):=by
          rcases Yf qq (len+(n+1)) with h|h
          .exact h
          .have:YS (YX len (n+1)) qq=true:=WQ h
           grind
         obtain ⟨row,rx,h10,h11,h12,h13,h14⟩:=wU h9
         rw [ay]at h12
         obtain ⟨H',h15,h16⟩:=dr h12
         refine ⟨_,_,gv hop hp' hq' λbase w0 rho w cs cx hp vs vx=>?_,h15⟩
         rw [hsv]at vs
         simp only [VR]at vs
         obtain ⟨c,cap,o',sp,rfl,hm,hlc,hcp,ho'⟩:=vs
         have hcq:=hcp.1 qq rfl
         subst hcq
         have hrl:((row.drop off).take len).length=len:=by simp;omega
         refine rb hT hN h16 hp vx (old:=(row.drop off).take len) (λw1 hw1 hp1=>?_) (by grind) hq hneed (λoc nc hoc hnc=>?_)
         .obtain ⟨oc,g1,g2⟩:=hp1.oS (o':=o') (off:=off) (n:=len) hm h10 h11 (by
           rcases ho' with h|h
           .exact YG h
           grind)
          exact ⟨oc,by simpa [Builtin.firstCells] using g1,by rw [show mu rho H w=mu rho H w1 by unfold mu;rw [hw1]];exact g2⟩
         .obtain ⟨g1,g2⟩:=hjoin _ ((row.drop off).take len) rx oc nc cx vx h14 hoc hnc
          have hll:=(hN.2 hp vx).1
          rw [hrl,hll,WN]at g1 g2
          have e9:YX rx (Yp y (Yg 8 len))=rx+256 ^ len*y:=by rw [e8];rfl
          refine ⟨by rw [e9];simp only [rowOf];rw [g1];rfl,λln' m' e=>by grind,λv hv=>?_⟩
          rcases Yt.1 hv with hv|hv
          .obtain ⟨yy,rfl⟩:=h13 v hv;rfl
          grind
      .cases n with
       | zero=>exact ⟨_,_,gv hop hp' hq' λbase w0 rho w cs cx hp vs vx=>rf hT hN (YE hsv) hp vs vx,h3⟩
       | succ n=>
        have h4:aE (YS (n+1) 1073741824) (cA H (.bytes (n+1) y) λb' H=>k (.slice b' 0 (n+1) 0 1) H) (no _)=1:=h3
        obtain ⟨h5,h6⟩:=aL h4
        have hneed:=cq h5
        obtain ⟨H',h7,h8⟩:=dr h6
        refine ⟨_,_,gv hop hp' hq' λbase w0 rho w cs cx hp vs vx=>?_,h7⟩
        rw [hsv]at vs
        simp only [VR]at vs
        subst vs
        have:=rb (ba:=none) (sLen:=0) (sCap:=0) (ot:=o.type) hT hN h8 hp vx (old:=[]) (λw1 hw1 hp1=>⟨[],rfl,by simp only [cj]⟩) (by simp) (by omega) (by omega) (λoc nc hoc hnc=>by
         obtain ⟨g1,g2⟩:=hjoin _ [] 0 oc nc cx vx (λ_=>⟨rfl,by simp⟩) hoc hnc
         have hll:=(hN.2 hp vx).1
         simp only [List.length_nil,WG,Nat.pow_zero,Nat.one_mul,hll,WN]at g1 g2
         refine ⟨by simp only [rowOf];rw [g1],λln' m' e=>by grind,λv hv=>hone v (by grind)⟩)
        grind
     .unfold IQ at h1
      rw [ai,ai]at h1
      obtain ⟨n,l,h2,hN⟩:=oG (P:=P) h1
      rcases eA h2 with ⟨b,off,len,cp,sz,hsv,h3⟩|⟨hsv,h3⟩
      .cases n with
       | zero=>exact ⟨_,_,gv hop hp' hq' λbase w0 rho w cs cx hp vs vx=>rf hT hN (YG ⟨b,off,len,cp,sz,hsv⟩) hp vs vx,h3⟩
       | succ n=>
        have h4:qZ id s' (n+1) l b off len cp sz H k=1:=h3
        unfold qZ at h4
        obtain ⟨hone,h4⟩:=ef h4
        rw [ay]at h4
        obtain ⟨h5,h6⟩:=aL h4
        have hneed:=cq h5
        cases cp with
        | zero=>
         obtain ⟨h7,h8⟩:=aL h6
         obtain ⟨h9,h10⟩:=aL h8
         have e1:=cm h7
         have e2:=cm h9
         subst e1 e2
         rw [aV]at h10
         rcases jN h10 with ⟨l0,hbb,h11⟩|⟨ln,mx,_,h11⟩
         .obtain ⟨h12,h13⟩:=aL h11
          have e3:=cm h12
          rw [iH]at e3
          rw [eG]at h13
          obtain ⟨H1,h14,h15⟩:=fS h13
          obtain ⟨H2,h16,h17⟩:=dr h14
          rw [h15.n]at h16
          have hbn:=h15.lt
          refine ⟨_,_,gv hop hp' hq' λbase w0 rho w cs cx hp vs vx=>?_,h16⟩
          rw [hsv]at vs
          have bM:rowOf (H.get b)=some l0:=by rw [hbb];rfl
          refine B7 (bl:=.cells (l0 ++ l)) hT hs0 hN (by omega) bM e3 hneed (by rw [h17.n,h15.n]) (by rw [h17.bC];exact h15.bC) (by rw [h17.bC];exact h15.wb) (by rw [h17.tC b (by rw [h15.n];omega)];exact h15.get) (by rw [<- h15.n];exact h17.get) (λj hj1 hj2=>by rw [h17.tC j (by rw [h15.n];exact hj2)];exact h15.tC j hj1) hp vs vx (hkd:=λ_ _=>⟨_,hbb⟩) λoc nc hoc hnc=>⟨rfl,(λ_ _ e=>nomatch e),λv hv=>?_⟩
          rcases Yt.1 hv with hv|hv
          .have hmu:∃ c,(mu rho H w).b b c:=by simp only [VR]at vs;grind
           obtain ⟨c,hm⟩:=hmu
           obtain ⟨_,_,_,_,q2⟩:=hp.row (hp.ji hm bM) bM
           obtain ⟨j,hj⟩:=List.getElem?_of_mem hv
           exact (q2.1 j v hj).1
          grind
         .exact (au h11).elim
        | succ qq=>
         have h7:aE (YS (YX len (n+1)) qq) (ez id H b (YX off (Yg len s')) l λH=>k (.slice b off (YX len (n+1)) (qq+1) sz) H) (dU id H b off (Yg len s') λl0=>bq id l0 (iZ l0 l λl'=>cA H (.cells l') λb' H=>k (.slice b' 0 (YX len (n+1)) 0 s') H))=1:=h6
         rcases bQ h7 with ⟨h8,h9⟩|⟨h8,h9⟩
         .obtain ⟨H',h10,h11⟩:=kX (P:=P) h9
          refine ⟨_,_,gv hop hp' hq' λbase w0 rho w cs cx hp vs vx=>?_,h10⟩
          rw [hsv]at vs
          exact Vz hT hN (by omega) (cq h8) hp vs vx hone h11
         .have hq:qq<len+(n+1):=by
           rcases Yf qq (len+(n+1)) with h|h
           .exact h
           .have:YS (YX len (n+1)) qq=true:=WQ h
            grind
          obtain ⟨row,h10,h11,h12⟩:=lY h9
          obtain ⟨hone2,h13⟩:=ef h12
          rw [eG]at h13
          obtain ⟨H',h15,h16⟩:=dr h13
          refine ⟨_,_,gv hop hp' hq' λbase w0 rho w cs cx hp vs vx=>?_,h15⟩
          rw [hsv]at vs
          simp only [VR]at vs
          obtain ⟨c,cap,o',sp,rfl,hm,hlc,hcp,ho'⟩:=vs
          have hcq:=hcp.1 qq rfl
          subst hcq
          have h11':off+len*s'<=row.length:=h11
          refine rb hT hN h16 hp vx (old:=(row.drop off).take (len*s')) (λw1 hw1 hp1=>?_) (by grind) hq hneed (λoc nc hoc hnc=>⟨rfl,(λ_ _ e=>nomatch e),λv hv=>?_⟩)
          .obtain ⟨oc,g1,g2⟩:=hp1.oS (o':=o') (off:=off) (n:=len*s') hm h10 h11' (by
            rcases ho' with h|h
            .exact YG h
            grind)
           exact ⟨oc,by simpa [Builtin.firstCells] using g1,by rw [show mu rho H w=mu rho H w1 by unfold mu;rw [hw1]];exact g2⟩
          grind
      .cases n with
       | zero=>exact ⟨_,_,gv hop hp' hq' λbase w0 rho w cs cx hp vs vx=>rf hT hN (YE hsv) hp vs vx,h3⟩
       | succ n=>
        have h4:bq id l (aE (YS (n+1) 1073741824) (cA H (.cells l) λb' H=>k (.slice b' 0 (n+1) 0 s') H) (no _))=1:=h3
        obtain ⟨hone,h4⟩:=ef h4
        obtain ⟨h5,h6⟩:=aL h4
        have hneed:=cq h5
        obtain ⟨H',h7,h8⟩:=dr h6
        refine ⟨_,_,gv hop hp' hq' λbase w0 rho w cs cx hp vs vx=>?_,h7⟩
        rw [hsv]at vs
        simp only [VR]at vs
        subst vs
        have:=rb (ba:=none) (sLen:=0) (sCap:=0) (ot:=o.type) hT hN h8 hp vx (old:=[]) (λw1 hw1 hp1=>⟨[],rfl,by simp only [cj]⟩) (by simp) (by omega) (by omega) (λoc nc hoc hnc=>⟨rfl,(λ_ _ e=>nomatch e),λv hv=>hone v (by grind)⟩)
        grind
    .exact (au h).elim
   .exact (au h).elim
  .exact (au h).elim
 .exact (au h).elim
end
end Go.Ev
end

